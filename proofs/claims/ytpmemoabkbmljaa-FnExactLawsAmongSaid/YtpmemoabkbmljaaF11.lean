/- For every square and every list of texts the program finds the same indices of texts of identities that hold, with the same code, as the reference: the law answers true for every input, and its arguments read as they did; no condition. -/
import Derived.Test.YtpmemoabkbmljaaF1
import Derived.Test.YtpmemoabkbmljaaC92
import Derived.SliceStrings
namespace Go.Proofs.Ytpmemoabkbmljaa
set_option linter.unusedSimpArgs false
set_option linter.unusedVariables false
open Go.ChangeShapes Go.WideShapes Go.ChangeAt Go.RowKit

theorem Try.cellsStr : Try.prog.cellsOf 9 = 1 := by kernel_rfl
section
variable {H : Type} {enc : TypeId × Value → H} {w : World} {base : Nat} {spare : Nat → Bool} {held : Bool}
theorem cell_addrN {a : Addr} {v : Value} (h : w.cell? a = some v) : a = ⟨a.block, a.off, none⟩ ∧ a.block < w.heap.size := by
  obtain ⟨b, off, sp⟩ := a
  refine ⟨?_, World.block_lt_of_cell? w _ h⟩
  cases sp with
  | none => rfl
  | some k =>
    unfold World.cell? at h
    split at h <;> simp at h
/-- A list of texts that comes in. -/
theorem trod_texts {fuel : Nat} {cs : List Value} {x : DataW H × List MemPlace} (h : DataW.trod enc Try.prog w base spare held fuel 44 cs = some x) :
    ∃ (p : Option Addr) (cap : Nat) (ls : List (List Nat)), cs = [.slice p ls.length cap] ∧ rdp w p (ls.map str).length (nmF (ls.map str)) ∧ ls.length ≤ maxLen ∧ ∀ l ∈ ls, l.length ≤ maxLen ∧ Byts l := by
  have key : ∃ (p : Option Addr) (cap : Nat) (ns : List ByteArray), cs = [.slice p ns.length cap] ∧ rdp w p ns.length (nmF ns) ∧ ns.length ≤ maxLen ∧ ∀ x ∈ ns, x.size ≤ maxLen := by
    rcases open_strings Try.underlying44 Try.underlying9 Try.cellsStr h with ⟨rfl, _⟩ | ⟨a, len, cap, ss, rfl, _, hl, hm, hss, _, hcell, hsz⟩
    · exact ⟨none, 0, [], rfl, (fun h => absurd h (by simp)), Nat.zero_le _, (fun _ h => by cases h)⟩
    · have hle : len ≤ ss.length := by rw [hss]; split <;> omega
      have hll : (ss.take len).length = len := by rw [List.length_take]; omega
      refine ⟨some a, cap, ss.take len, by rw [hll], fun hn => ?_, by omega, fun x hx => hsz x (List.mem_of_mem_take hx)⟩
      rw [hll] at hn ⊢
      have h0 := hcell 0 (by omega)
      rw [show a.add 0 = a by simp [Addr.add]] at h0
      obtain ⟨e1, hlt⟩ := cell_addrN h0
      refine ⟨a.block, a.off, by rw [← e1], hlt, fun j hj => ?_⟩
      have e2 : a.add j = ⟨a.block, a.off + j, none⟩ := by rw [e1, add_none]
      rw [← e2, hcell j (by omega)]
      unfold nmF
      rw [List.getD_eq_getElem?_getD, List.getD_eq_getElem?_getD, List.getElem?_take, if_pos hj]
  obtain ⟨p, cap, ns, rfl, hr, hn, hs⟩ := key
  have each : ∀ ns : List ByteArray, (∀ x ∈ ns, x.size ≤ maxLen) → ∃ ls : List (List Nat), ns = ls.map str ∧ ∀ l ∈ ls, l.length ≤ maxLen ∧ Byts l := by
    intro ns
    induction ns with
    | nil => exact fun _ => ⟨[], rfl, fun _ h => by cases h⟩
    | cons s ns ih =>
      intro hs
      obtain ⟨ls, rfl, h2⟩ := ih fun x hx => hs x (List.mem_cons_of_mem _ hx)
      obtain ⟨l, hb, rfl, hl⟩ := str_of s
      refine ⟨l :: ls, rfl, fun y hy => ?_⟩
      rcases List.mem_cons.1 hy with rfl | hy
      · exact ⟨by have := hs (str y) (List.mem_cons_self ..); omega, hb⟩
      · exact h2 y hy
  obtain ⟨ls, rfl, h2⟩ := each ns hs
  rw [List.length_map] at hn
  exact ⟨p, cap, ls, by rw [List.length_map], hr, hn, h2⟩
end

namespace LawsAmongLaw
set_option maxRecDepth 100000 in
theorem lifted (os : Os) (started : os.Started) (H : Type) (enc : TypeId × Value → H) :
    ReturnsInHanded {} Try.checked os 4 .any (Rows.fnExactLawsAmongSpec.pre6 enc Try.prog Try.f4 Rows.fnExactLawsAmongRow.domain false) (Rows.fnExactLawsAmongSpec.post enc Try.prog Try.f4 false true false false) := by
  refine returnsInHanded_of_change (C := Try.checked) Try.own started (by kernel_rfl) Try.func4
    (ChangeSpec.witness6 (enc := enc) (C := Try.checked) false ⟨#[], #[.agg (sqs 0 fun _ _ => 0), .slice none 0 0], []⟩ 8 (by kernel_rfl) (by kernel_rfl) (by kernel_rfl) (by kernel_rfl)) ?_
  intro W base args ds gs before hval0 hW hcnd _
  have hval : ∀ (j : Nat) t v, Try.f4.params[j]? = some t → args[j]? = some v → Value.okWide Try.prog W .any base t v := hval0
  have hW' := hW
  obtain ⟨p, q, hA0, hV, rfl, hfz, hnd⟩ := hW
  have hA : DataW.TrodAll enc Try.prog W 0 (fun _ => true) true Try.f4.params.toList args.toList ds p := hA0
  rw [Try.params4] at hA hval
  obtain ⟨v0, vs0, d0, ds0, p0, q0, hargs, rfl, rfl, h0, r0⟩ := trodAll_cons hA
  obtain ⟨v1, vs1, d1, ds1, p1, q1, rfl, rfl, rfl, h1, r1⟩ := trodAll_cons r0
  obtain ⟨rfl, rfl, rfl⟩ := trodAll_nil r1
  obtain rfl : args = #[v0, v1] := by cases args; simp_all
  obtain ⟨rfl, rfl⟩ := trodVars_none hV
  have k0 := h0
  have k1 := h1
  have lt0 : ∀ x ∈ p0, x.block < W.heap.size := by obtain ⟨m, hm⟩ := k0; exact DataW.trod_lt m _ _ _ hm
  have lt1 : ∀ x ∈ p1, x.block < W.heap.size := by obtain ⟨m, hm⟩ := k1; exact DataW.trod_lt m _ _ _ hm
  obtain ⟨n, t, rfl, ht⟩ := open_square (hval 0 25 v0 rfl rfl) h0
  obtain ⟨a0, len, cap, rfl⟩ := okWide_slice Try.underlying44 (hval 1 44 v1 rfl rfl)
  obtain ⟨fuel, hf⟩ := h1
  obtain ⟨pp, c1, ls, hcs, hr, hn, hls⟩ := trod_texts hf
  have hcs' : (Value.slice a0 len cap) = .slice pp ls.length c1 := by
    have : [Value.slice a0 len cap] = [Value.slice pp ls.length c1] := hcs
    exact List.head_eq_of_cons_eq this
  obtain ⟨e1, e2, e3⟩ := Value.slice.inj hcs'
  subst e1 e2 e3
  clear hcs hcs' hA0 hval0
  refine (lawLawsAmong_any n t ht ls hn hls W _ _ hr).mono fun e W' ⟨he, bel⟩ => ?_
  subst he
  exact ⟨_, rfl, _, _, _, [], _, [], hW', trodAll_mk1 (shut_bool Try.underlying4 _), (trodAll_cons_mk (Below.trod Try.laidOut (by kernel_rfl) (of_decide_eq_true (by kernel_rfl)) k0 bel lt0) (trodAll_cons_mk (Below.trod Try.laidOut (by kernel_rfl) (of_decide_eq_true (by kernel_rfl)) k1 bel lt1) trodAll_mk0)), rfl, bel.frame _, fun h => by cases h⟩

theorem over : Rows.fnExactLawsAmongRow.holds Try.pinned (OpenSpec.ofChange Rows.fnExactLawsAmongSpec) :=
  OpenClaim.holds_of_wide 4 Try.f4 rfl rfl rfl rfl rfl rfl rfl ⟨rfl, rfl, rfl, rfl, rfl⟩ rfl rfl rfl rfl rfl (by kernel_rfl) Try.func4 (by kernel_rfl)
    (of_decide_eq_true (by kernel_rfl)) (by unfold Func.isWrapper; first | (rw [if_pos (by decide +kernel)]; kernel_rfl) | (rw [if_neg (by decide +kernel)]; exact ⟨rfl, rfl⟩))
    (fun os started H enc _ => lifted os started H enc)
end LawsAmongLaw

/-- THE STATEMENT. -/
theorem lawsAmong_proved : Rows.FnExactLawsAmongSaid := LawsAmongLaw.over
#print axioms lawsAmong_proved
end Go.Proofs.Ytpmemoabkbmljaa
