/- Isotopes by composed triples and by triples that lead back, autotopisms and loops at elements, on both sides: the law answers true for every input, and its argument reads as it did; no condition. -/
import Derived.Test.YthdldlpflieeoaaQ6
import Derived.Test.YthdldlpflieeoaaR32a
namespace Go.Proofs.Ythdldlpflieeoaa
set_option linter.unusedSimpArgs false
set_option linter.unusedVariables false
open Go.ChangeShapes Go.WideShapes Go.ChangeAt Go.RowKit

namespace TripleIsotopesLaw
set_option maxRecDepth 100000 in
theorem lifted (os : Os) (started : os.Started) (H : Type) (enc : TypeId × Value → H) :
    ReturnsInHanded {} Try.checked os 4 .any (Rows.fnTripleIsotopesSpec.pre6 enc Try.prog Try.f4 Rows.fnTripleIsotopesRow.domain false) (Rows.fnTripleIsotopesSpec.post enc Try.prog Try.f4 false true false false) := by
  refine returnsInHanded_of_change (C := Try.checked) Try.own started (by kernel_rfl) Try.func4
    (ChangeSpec.witness6 (enc := enc) (C := Try.checked) false ⟨#[], #[.slice none 0 0], []⟩ 8 (by kernel_rfl) (by kernel_rfl) (by kernel_rfl) (by kernel_rfl)) ?_
  intro W base args ds gs before hval0 hW hcnd _
  have hval : ∀ (j : Nat) t v, Try.f4.params[j]? = some t → args[j]? = some v → Value.okWide Try.prog W .any base t v := hval0
  have hW' := hW
  obtain ⟨p, q, hA0, hV, rfl, hfz, hnd⟩ := hW
  have hA : DataW.TrodAll enc Try.prog W 0 (fun _ => true) true Try.f4.params.toList args.toList ds p := hA0
  rw [Try.params4] at hA hval
  obtain ⟨v0, vs0, d0, ds0, p0, q0, hargs, rfl, rfl, h0, r0⟩ := trodAll_cons hA
  obtain ⟨rfl, rfl, rfl⟩ := trodAll_nil r0
  obtain rfl : args = #[v0] := by cases args; simp_all
  obtain ⟨rfl, rfl⟩ := trodVars_none hV
  have k0 := h0
  have lt0 : ∀ x ∈ p0, x.block < W.heap.size := by obtain ⟨m, hm⟩ := k0; exact DataW.trod_lt m _ _ _ hm
  obtain ⟨a0, len, cap, rfl⟩ := okWide_slice Try.underlying22 (hval 0 22 v0 rfl rfl)
  obtain ⟨fuel, hf⟩ := h0
  obtain ⟨pp, c1, ls, hcs, hr, hn⟩ := trod_code hf
  have hcs' : (Value.slice a0 len cap) = .slice pp ls.length c1 := by
    have : [Value.slice a0 len cap] = [Value.slice pp ls.length c1] := hcs
    exact List.head_eq_of_cons_eq this
  obtain ⟨e1, e2, e3⟩ := Value.slice.inj hcs'
  subst e1 e2 e3
  clear hcs hcs' hA0 hval0
  refine (lawTripleIsotopes_any ls hn _ _ W hr).mono fun e W' ⟨he, bel⟩ => ?_
  subst he
  exact ⟨_, rfl, _, _, _, [], _, [], hW', trodAll_mk1 (shut_bool Try.underlying4 _), (trodAll_cons_mk (Below.trod Try.laidOut (by kernel_rfl) (of_decide_eq_true (by kernel_rfl)) k0 bel lt0) trodAll_mk0), rfl, bel.frame _, fun h => by cases h⟩

theorem over : Rows.fnTripleIsotopesRow.holds Try.pinned (OpenSpec.ofChange Rows.fnTripleIsotopesSpec) :=
  OpenClaim.holds_of_wide 4 Try.f4 rfl rfl rfl rfl rfl rfl rfl ⟨rfl, rfl, rfl, rfl, rfl⟩ rfl rfl rfl rfl rfl (by kernel_rfl) Try.func4 (by kernel_rfl)
    (of_decide_eq_true (by kernel_rfl)) (by unfold Func.isWrapper; first | (rw [if_pos (by decide +kernel)]; kernel_rfl) | (rw [if_neg (by decide +kernel)]; exact ⟨rfl, rfl⟩))
    (fun os started H enc _ => lifted os started H enc)
end TripleIsotopesLaw

/-- THE STATEMENT. -/
theorem tripleIsotopes_proved : Rows.FnTripleIsotopesSaid := TripleIsotopesLaw.over
#print axioms tripleIsotopes_proved
end Go.Proofs.Ythdldlpflieeoaa

