/- The marks of a cycle, for the reference: a contract. -/
import Derived.Test.YteonahoboligdaaE5
import Derived.Test.YteonahoboligdaaC2
namespace Go.Proofs.Yteonahoboligdaa
set_option linter.unusedSimpArgs false
set_option linter.unusedVariables false
open Go Go.RowKit

open Classical in
/-- How many marks are not yet set. -/
noncomputable def unset (b : Nat) (w : World) : Nat := 10 - cn 10 fun y => decide (w.cell? ⟨b, y, none⟩ = some (.bool true))
theorem unset_of {w : World} {b m ty : Nat} (h : blk w b (bls fun y => m.testBit y) ty) : unset b w = 10 - cn 10 fun y => m.testBit y := by
  classical
  unfold unset
  congr 1
  refine cn_congr fun y hy => ?_
  rw [h.cell y _ (bls_get hy)]
  cases m.testBit y <;> simp
theorem mark_set (m y : Nat) : (bls fun j => m.testBit j).setIfInBounds y (.bool true) = bls fun j => (m ||| 2 ^ y).testBit j := by
  rw [bls_set]
  congr 1
  funext j
  rw [Nat.testBit_or, Nat.testBit_two_pow]
  by_cases e : j = y
  · subst e; simp
  · rw [if_neg e, decide_eq_false (fun h => e h.symm), Bool.or_false]
theorem ones_more {m y : Nat} (hy : y < 10) (h : m.testBit y = false) : (cn 10 fun j => (m ||| 2 ^ y).testBit j) = (cn 10 fun j => m.testBit j) + 1 := by
  have e := cn_add (N := 10) (p := fun j => m.testBit j) (q := fun j => j == y) fun i _ hi => beq_eq_false_iff_ne.2 fun e => by subst e; rw [h] at hi; cases hi
  rw [cn_one hy] at e
  rw [← e]
  refine cn_congr fun j _ => ?_
  rw [Nat.testBit_or, Nat.testBit_two_pow]
  congr 1
  by_cases e : y = j
  · subst e; simp
  · rw [decide_eq_false e, beq_eq_false_iff_ne.2 fun h => e h.symm]

set_option maxRecDepth 100000 in
set_option maxHeartbeats 2000000 in
theorem l09Cycle_any (n : Nat) (p : Nat → Nat) (hp : Pm n p) (hn : n ≤ 10) (c : Nat) (hc : c < n) (w : World) :
    Calls Try.prog 53 #[.agg (bys p), .int .u8 (c : Int)] w fun e w' => e = .returned (.agg (bls fun y => (cyM p c).testBit y)) ∧ Below w.heap.size w w' := by
  have M := Mm.start no w
  have hcl := (clen_is hp hc).1
  have HY := Hid2.mk (fun i => it_lt hp hc i)
  have HLT := Hid2.mk (fun i j (hi : i < clen p c) (hj : j < clen p c) e => it_inj hp hc hcl hi hj e)
  have HBK := Hid2.mk hcl.back
  have HPS := Hid2.mk hcl.pos
  have HIT := Hid2.mk (show ∀ i, it p (i + 1) c = p (it p i c) from fun i => rfl)
  rw [show cyM p c = msk (fun i => it p i c) (clen p c) from rfl]
  have HMS := Hid2.mk (show ∀ k, msk (fun i => it p i c) (k + 1) = msk (fun i => it p i c) k ||| 2 ^ it p k c from fun k => rfl)
  have HBT := Hid2.mk (fun v k => msk_bit (fun i => it p i c) v k)
  have h00 : it p 0 c = c := rfl
  have hm0 : (bls fun y => (msk (fun i => it p i c) 0).testBit y) = bls fun _ => false := by congr 1; funext y; simp [msk]
  generalize clen p c = L at *
  generalize hF : (fun i => it p i c) = F at *
  have eF : ∀ i, it p i c = F i := fun i => by rw [← hF]
  simp only [eF] at HY HLT HBK HIT HMS HBT h00
  clear hF eF hcl hp
  have hc10 : (c : Int) < 10 := by omega
  have hz := zero_b10
  have hbd := build_b10
  go_enter Try.func53, Try.ntmps53
  go_wp2_with (first | ((with_reducible apply wpM_box' M 66 (bys p)); rfl; exact ⟨rfl, rfl⟩; clear M; (try clear C); intro bq w9 h_bq M; have C := M.ruleAll; simp only [Go.Proofs.Yteonahoboligdaa.ruleAll] at C) | ((fail_if_success have := h_bo1); ((with_reducible apply wpM_alloc' M 56 (bls fun _ => false)); rfl; exact ⟨rfl, _, zero_b10 _, rfl⟩; clear M; (try clear C); intro bo1 w9 h_bo1 M; have C := M.ruleAll; simp only [Go.Proofs.Yteonahoboligdaa.ruleAll] at C)) | ((with_reducible apply wpM_alloc' M 56 (bls fun _ => false)); rfl; exact ⟨rfl, _, zero_b10 _, rfl⟩; clear M; (try clear C); intro bo w9 h_bo M; have C := M.ruleAll; simp only [Go.Proofs.Yteonahoboligdaa.ruleAll] at C) | (refine wpList_build 56 _ rfl rfl [] rfl _ (build_b10 _) ?_) | ((with_reducible apply wpM_sta' M 0 56 (bls fun _ => false)); rfl; rfl; rfl; rfl; (first | exact .inl (by assumption) | exact .inr rfl | exact .inr (by assumption)); exact ⟨rfl, inf_b10.trans (congrArg some (bls_size ..).symm), flat_bls _⟩; (simp only [entCells, List.getElem?_cons_zero, List.getElem?_cons_succ, bls_size, bls_size]); clear M; (try clear C); intro w9 M; simp only [List.set_cons_zero, List.set_cons_succ, entBlk, entT, List.getElem?_cons_zero, List.getElem?_cons_succ] at M; have C := M.ruleAll; simp only [Go.Proofs.Yteonahoboligdaa.ruleAll] at C))
  clear hz hbd
  go_frame
  go_loopw [1] (fun y wr => ∃ i : Nat, i ≤ L ∧ y = .int .u8 (F i : Nat) ∧ Mm no w wr [.box bo (bls fun y => (msk F i).testBit y) 56, .box bo1 (bls fun _ => false) 56, .box bq (bys p) 66]) (fun _ wr => unset bo wr)
  case atStart => exact ⟨0, by omega, by rw [h00], by rw [hm0]; exact M⟩
  case round =>
    obtain ⟨i, hi, rfl, M9⟩ := hrel
    clear M; (try clear C)
    have M := M9
    clear M9
    have C := M.ruleAll; simp only [Go.Proofs.Yteonahoboligdaa.ruleAll] at C
    have hy := HY.out i
    have hy10 : (F i : Int) < 10 := by omega
    have q1 := bls_get (f := fun y => (msk F i).testBit y) (i := F i) (by omega)
    have hun := unset_of (M.box 0 rfl)
    by_cases hiL : i = L
    · have hbit : (msk F i).testBit (F i) = true := (HBT.out _ _).2 ⟨0, by have := HPS.out; omega, by rw [hiL, HBK.out]; exact h00⟩
      rw [hbit] at q1
      clear hbit h00 hm0 hun
      subst hiL
      go_wp2_with (first | ((with_reducible apply wpM_lda' M 0 56 0 (bls fun y => (msk F i).testBit y)); rfl; rfl; rfl; exact ⟨rfl, inf_b10.trans (congrArg some (bls_size ..).symm), _, und_b10, rfl⟩; exact whole_of rfl) | ((with_reducible apply wpM_sta' M 1 56 (bls fun y => (msk F i).testBit y)); rfl; rfl; rfl; rfl; (first | exact .inl (by assumption) | exact .inr rfl | exact .inr (by assumption)); exact ⟨rfl, inf_b10.trans (congrArg some (bls_size ..).symm), flat_bls _⟩; (simp only [entCells, List.getElem?_cons_zero, List.getElem?_cons_succ, bls_size, bls_size]); clear M; (try clear C); intro w9 M; simp only [List.set_cons_zero, List.set_cons_succ, entBlk, entT, List.getElem?_cons_zero, List.getElem?_cons_succ] at M; have C := M.ruleAll; simp only [Go.Proofs.Yteonahoboligdaa.ruleAll] at C))
      refine bodyPost_ret (v := .agg (bls fun y => (msk F i).testBit y)) (by exact results_part rfl _ _ _ _ _ _ rfl und_b10 rfl inf_b10 (cells_of_blk0 (M.box 1 rfl))) rfl ?_
      exact ⟨rfl, M.below⟩
    · have hbit : (msk F i).testBit (F i) = false := by
        rw [← Bool.not_eq_true, HBT.out]
        rintro ⟨j, hj, e⟩
        have := HLT.out j i (by omega) (by omega) e
        omega
      have hon := ones_more (by omega) hbit
      have hle := cn_le 10 fun j => (msk F i ||| 2 ^ F i).testBit j
      rw [← HMS.out i] at hon hle
      have HS := Hid2.mk (mark_set (msk F i) (F i))
      rw [← HMS.out i] at HS
      rw [hbit] at q1
      have q2 := bys_get (f := p) (i := F i) (by omega)
      rw [← HIT.out i] at q2
      have HU := Hid2.mk hun
      have HON := Hid2.mk hon
      have HLE := Hid2.mk hle
      clear hbit h00 hm0 hun hon hle
      go_wp2_with (first | ((with_reducible apply wpM_st' M 0 4 (F i) (bls fun y => (msk F (i + 1)).testBit y)); rfl; rfl; rfl; (first | exact .inl (by assumption) | exact .inr rfl | exact .inr (by assumption)); exact ⟨rfl, rfl, by kernel_rfl⟩; (exact Nat.lt_of_lt_of_eq (by omega) (bls_size _).symm); exact HS.out; clear M; (try clear C); intro w9 M; simp only [List.set_cons_zero, List.set_cons_succ, entBlk, entT, List.getElem?_cons_zero, List.getElem?_cons_succ] at M; have C := M.ruleAll; simp only [Go.Proofs.Yteonahoboligdaa.ruleAll] at C))
      have hun2 := unset_of (M.box 0 rfl)
      go_roundw
      case rel => exact ⟨i + 1, by omega, rfl, M⟩
      case measure =>
        have h1 := HU.out
        have h2 := HON.out
        have h3 := HLE.out
        omega
end Go.Proofs.Yteonahoboligdaa
