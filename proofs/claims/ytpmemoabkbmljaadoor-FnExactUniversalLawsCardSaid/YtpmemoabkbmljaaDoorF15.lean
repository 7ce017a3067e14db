/- For every square the program finds the same numbers of universal laws, with the same code, as the reference, where the package's texts of laws are as the program lays them: the law answers true for every input, and its arguments read as they did; no further condition. -/
import Derived.Test.YtpmemoabkbmljaaDoorF0
import Derived.Test.YtpmemoabkbmljaaDoorC99
import Derived.Test.YtpmemoabkbmljaaDoorCards
import Derived.Test.YtpmemoabkbmljaaDoorTie
import Derived.SevenTiedAt
import Derived.LaidMore
import Derived.Lay
import Derived.OpenVars
import Derived.Stop.Joined
namespace Go.Proofs.YtpmemoabkbmljaaDoor
set_option linter.unusedSimpArgs false
set_option linter.unusedVariables false
open Go.ChangeShapes Go.WideShapes Go.ChangeAt Go.RowKit

namespace UniversalLawsLaw
set_option maxRecDepth 100000 in
theorem lifted (os : Os) (started : os.Started) (H : Type) (enc : TypeId × Value → H) :
    ReturnsInHanded {} Tryd.checked os 6 .any (fun w args => (Rows.fnExactUniversalLawsSpec.pre enc Tryd.prog Tryd.f6 Rows.fnExactUniversalLawsRow.domain false w args ∧ laidMetH Tryd.prog [("loop.example/g01195/impl.lawTexts", Rows.laid_loop_example_g01195_impl_lawTexts)] w) ∧ sizedMet enc Tryd.prog Tryd.f6 (OpenSpec.ofChange Rows.fnExactUniversalLawsSpec) false w args)
      (Rows.fnExactUniversalLawsSpec.post enc Tryd.prog Tryd.f6 false true false false) := by
  refine returnsInHanded_of_change_and (C := Tryd.checked) (X := fun w _ => laidMetH Tryd.prog [("loop.example/g01195/impl.lawTexts", Rows.laid_loop_example_g01195_impl_lawTexts)] w) (fun _ _ _ hh h => h.of_heap hh) Tryd.own started (by kernel_rfl) Tryd.func6
    (ChangeSpec.witness_shaped (enc := enc) (C := Tryd.checked) (os := os) (X := fun w _ => laidMetH Tryd.prog [("loop.example/g01195/impl.lawTexts", Rows.laid_loop_example_g01195_impl_lawTexts)] w) false (World.laidAll Tryd.prog os [("loop.example/g01195/impl.lawTexts", Rows.laid_loop_example_g01195_impl_lawTexts)]) #[.agg (sqs 0 fun _ _ => 0)] 8 (World.laidAll_os _ _ _)
      (World.shaped_of_ZipB (by kernel_rfl) (by kernel_rfl)) (by kernel_rfl) (by kernel_rfl) (by kernel_rfl)
      (by rw [MakeChecks.laidMetH_plain _ _ _ (by kernel_rfl)]; exact laidMet_laidAll _ (by kernel_rfl) (by kernel_rfl))) ?_
  intro W base args ds gs before hval0 hW hcnd _ hL _
  have hval : ∀ (j : Nat) t v, Tryd.f6.params[j]? = some t → args[j]? = some v → Value.okWide Tryd.prog W .any base t v := hval0
  have hW' := hW
  obtain ⟨p, q, hA0, hV, rfl, hfz, hnd⟩ := hW
  have hA : DataW.TrodAll enc Tryd.prog W 0 (fun _ => true) true Tryd.f6.params.toList args.toList ds p := hA0
  rw [Tryd.params6] at hA hval
  obtain ⟨v0, vs0, d0, ds0, p0, q0, hargs, rfl, rfl, h0, r0⟩ := trodAll_cons hA
  obtain ⟨rfl, rfl, rfl⟩ := trodAll_nil r0
  obtain rfl : args = #[v0] := by cases args; simp_all
  obtain ⟨gv, tv, csv, fv, dv, pv, rfl, hgv, htv, hvv, hdv, hqv⟩ := trodVars_one hV
  have k0 := h0
  have lt0 : ∀ x ∈ p0, x.block < W.heap.size := by obtain ⟨m, hm⟩ := k0; exact DataW.trod_lt m _ _ _ hm
  obtain ⟨n, t, rfl, ht⟩ := open_square (hval 0 25 v0 rfl rfl) h0
  have hgl := glb_of_laid hL
  clear hA0 hval0
  refine (lawUniversalLaws_any n t ht W hgl).mono fun e W' ⟨he, bel⟩ => ?_
  subst he
  exact ⟨_, rfl, _, _, _, [], _, q, hW', trodAll_mk1 (shut_bool Tryd.underlying4 _), (trodAll_cons_mk (Below.trod Tryd.laidOut (by kernel_rfl) (of_decide_eq_true (by kernel_rfl)) k0 bel lt0) trodAll_mk0), Below.trodVars Tryd.laidOut bel (by kernel_rfl) hV, bel.frame _, fun h => by cases h⟩

theorem over : Rows.fnExactUniversalLawsRow.holds Tryd.pinned (OpenSpec.ofChange Rows.fnExactUniversalLawsSpec) :=
  OpenClaim.holds_of_wide 6 Tryd.f6 rfl rfl rfl rfl rfl rfl rfl ⟨rfl, rfl, rfl, rfl, rfl⟩ rfl rfl rfl rfl rfl (by kernel_rfl) Tryd.func6 (by kernel_rfl)
    (of_decide_eq_true (by kernel_rfl)) (by unfold Func.isWrapper; first | (rw [if_pos (by decide +kernel)]; kernel_rfl) | (rw [if_neg (by decide +kernel)]; exact ⟨rfl, rfl⟩))
    (fun os started H enc _ => lifted os started H enc)
end UniversalLawsLaw

/-- THE STATEMENT. -/
theorem universalLaws_proved : Rows.FnExactUniversalLawsCardSaid :=
  Claim7.holds_tied_plain_at .later [] [.data] true Rows.fnExactUniversalLawsCard.stood.harness false UniversalLawsLaw.over (fun _ h => by cases h) (by kernel_rfl) (fun _ h => by cases h) fnExactUniversalLaws_row_tie rfl ⟨rfl, rfl⟩ (by kernel_rfl) rfl
    (fun f fn hf hfn => by
      obtain rfl : f = 6 := Option.some.inj ((show Tryd.prog.funcNamed "loop.example/g01195/laws.FnExactUniversalLaws" = some 6 by kernel_rfl).symm.trans hf) |>.symm
      obtain rfl : fn = Tryd.f6 := (Option.some.inj (Tryd.func6.symm.trans hfn)).symm
      exact ⟨by kernel_rfl, fun j t ht => by
        rw [Tryd.params6] at ht
        have hm : t ∈ [25] := by simpa using Array.mem_of_getElem? ht
        have hall : ([25].all fun u => !Tryd.prog.wantsStandIn u) = true := by kernel_rfl
        exact (show Tryd.prog.wantsStandIn t = false by simpa using List.all_eq_true.1 hall t hm)⟩)
    (by kernel_rfl)
#print axioms universalLaws_proved
end Go.Proofs.YtpmemoabkbmljaaDoor
