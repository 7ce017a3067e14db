/- The order of lists and the list of all subloops, for the reference: contracts. -/
import Derived.Test.YteonahoboligdaaDoorG2
import Derived.Test.YteonahoboligdaaDoorG3
import Derived.Test.YteonahoboligdaaDoorK21
import Derived.Test.YteonahoboligdaaDoorE9
namespace Go.Proofs.YteonahoboligdaaDoor
set_option linter.unusedSimpArgs false
set_option linter.unusedVariables false
open Go Go.RowKit

theorem pref_next {a b : List Nat} {k : Nat} (h : ∀ j, j < k → a[j]? = b[j]?) (hk : a[k]? = b[k]?) : ∀ j, j < k + 1 → a[j]? = b[j]? := fun j hj => if e : j = k then by subst e; exact hk else h j (by omega)
theorem pref_all {a b : List Nat} (hl : a.length = b.length) (h : ∀ j, j < a.length → a[j]? = b[j]?) : a = b := List.ext_getElem? fun j => by
  rcases Nat.lt_or_ge j a.length with h1 | h1
  · exact h j h1
  · rw [List.getElem?_eq_none h1, List.getElem?_eq_none (by omega)]

set_option maxRecDepth 100000 in
set_option maxHeartbeats 2000000 in
theorem l01Same2_any (a b : List Nat) (ha : a.length ≤ 1000) (hb : b.length ≤ 1000) (w : World) (g1 c1 g2 c2 : Nat) (h1 : rds w g1 a.length (i64F a)) (h2 : rds w g2 b.length (i64F b)) :
    Calls Tryd.prog 38 #[.slice (some ⟨g1, 0, none⟩) a.length c1, .slice (some ⟨g2, 0, none⟩) b.length c2] w fun e w' => e = .returned (.bool (decide (a = b))) ∧ Below w.heap.size w w' := by
  have M := Mm.start no w
  have F1 := Hid2.mk (fun w1 (hb : Below w.heap.size w w1) => h1.lat hb)
  have F2 := Hid2.mk (fun w1 (hb : Below w.heap.size w w1) => h2.lat hb)
  clear h1 h2
  go_enter Tryd.func38, Tryd.ntmps38
  by_cases hl : a.length = b.length
  · have d1 : ((a.length : Int) == (b.length : Int)) = true := by rw [hl]; simp
    have d2 : ((a.length : Int) != (b.length : Int)) = false := by rw [bne, d1]; rfl
    go_wp2
    clear d1 d2
    go_loopw [5] (fun i wr => ∃ k : Nat, k ≤ a.length ∧ i = .int .i64 (k : Int) ∧ Hid2 (∀ j, j < k → a[j]? = b[j]?) ∧ Mm no w wr []) (fun i _ => a.length - (intOf i).toNat)
    case atStart => exact ⟨0, by omega, rfl, ⟨fun j h => by omega⟩, M⟩
    case round =>
      obtain ⟨k, hk, rfl, HP, M9⟩ := hrel
      clear M
      have M := M9
      clear M9
      by_cases hlt : k < a.length
      · have hlt' : (k : Int) < (a.length : Int) := by omega
        have e1 := List.getElem?_eq_getElem hlt
        have e2 := List.getElem?_eq_getElem (l := b) (show k < b.length by omega)
        generalize a[k] = x at e1
        generalize b[k]'(by omega) = y at e2
        have C1 := Hid2.mk (fun w1 (hb : Below w.heap.size w w1) => show w1.cell? ⟨g1, k, none⟩ = some (.int .i64 (x : Int)) from by rw [(F1.out w1 hb).at_ k hlt, i64F_at e1])
        have C2 := Hid2.mk (fun w1 (hb : Below w.heap.size w w1) => show w1.cell? ⟨g2, k, none⟩ = some (.int .i64 (y : Int)) from by rw [(F2.out w1 hb).at_ k (by omega), i64F_at e2])
        have hkb : (k : Int) < (b.length : Int) := by omega
        by_cases hxy : x = y
        · have HN := Hid2.mk (pref_next HP.out (by rw [e1, e2, hxy]))
          subst hxy
          have hd : ((x : Int) == (x : Int)) = true := by simp
          have hd' : ((x : Int) != (x : Int)) = false := by simp
          clear e1 e2 HP
          go_wp2
          apply wp_region_mm M 8 (by kernel_rfl) (by kernel_rfl)
          · simp only [List.take_succ_cons, List.take_zero]
            repeat (first | exact wpText_nil | (apply wpText_cons; (intro w2 M; have hd1 := C1.out _ M.below; have hd2 := C2.out _ M.below; go_wp2; exact ⟨rfl, rfl, M⟩); rfl))
          clear M
          intro w2 M
          simp only [List.drop_succ_cons, List.drop_zero]
          go_wp2
          go_roundw
          case rel => exact ⟨k + 1, by omega, by go_num, HN, M⟩
          case measure => simp [intOf]; omega
        · have HN := Hid2.mk (show decide (a = b) = false from decide_eq_false fun e => by subst e; rw [e1] at e2; exact hxy (Option.some.inj e2))
          have hd : ((x : Int) == (y : Int)) = false := neqI hxy
          have hd' : ((x : Int) != (y : Int)) = true := by rw [bne, hd]; rfl
          clear e1 e2 HP
          go_wp2
          apply wp_region_mm M 8 (by kernel_rfl) (by kernel_rfl)
          · simp only [List.take_succ_cons, List.take_zero]
            repeat (first | exact wpText_nil | (apply wpText_cons; (intro w2 M; have hd1 := C1.out _ M.below; have hd2 := C2.out _ M.below; go_wp2; exact ⟨rfl, rfl, M⟩); rfl))
          clear M
          intro w2 M
          simp only [List.drop_succ_cons, List.drop_zero]
          go_wp2
          go_ret
          exact ⟨by rw [HN.out]; rfl, M.below⟩
      · obtain rfl : k = a.length := by omega
        have hge : ¬ ((a.length : Int) < (a.length : Int)) := by omega
        have HN := Hid2.mk (show decide (a = b) = true from decide_eq_true (pref_all hl HP.out))
        go_wp2
        go_ret
        exact ⟨by rw [HN.out]; rfl, M.below⟩
  · have d1 : ((a.length : Int) == (b.length : Int)) = false := neqI hl
    have d2 : ((a.length : Int) != (b.length : Int)) = true := by rw [bne, d1]; rfl
    have HN := Hid2.mk (show decide (a = b) = false from decide_eq_false fun e => hl (by rw [e]))
    go_wp2
    go_ret
    exact ⟨by rw [HN.out]; rfl, M.below⟩


set_option maxRecDepth 100000 in
set_option maxHeartbeats 2000000 in
theorem l05Set_any (m : Nat) (hm : m < 1024) (w : World) (g cap : Nat) (h1 : rds w g (mL m).length (i64F (mL m))) :
    Calls Tryd.prog 35 #[.slice (some ⟨g, 0, none⟩) (mL m).length cap] w fun e w' => e = .returned (.agg (bls fun y => m.testBit y)) ∧ Below w.heap.size w w' := by
  have M := (Mm.start no w).add (x := .rd g (mL m).length (i64F (mL m))) h1 fun _ h => by cases h
  have HEL := Hid2.mk (fun x (h : x ∈ mL m) => mL_lt h)
  have HMA := Hid2.mk (show ∀ i, i = (mL m).length → bls (mksL 0 (mL m) i) = bls fun y => m.testBit y from fun i hi => by have := mksL_all (m := 0) (c := m) hi; rwa [Nat.zero_or] at this)
  have hle := mL_le m
  have HM0 := Hid2.mk (show bls (mksL 0 (mL m) 0) = bls fun _ => false by rw [mksL_zero]; congr 1; funext y; simp)
  generalize hres : (bls fun y => m.testBit y) = res at *
  generalize mL m = l at *
  have hz := zero_b10
  have hbd := build_b10
  clear h1 hres
  have C := M.ruleAll; simp only [Go.Proofs.YteonahoboligdaaDoor.ruleAll] at C
  go_enter Tryd.func35, Tryd.ntmps35
  go_wp2_with (first | ((fail_if_success have := h_br); ((with_reducible apply wpM_alloc' M 60 (bls fun _ => false)); rfl; exact ⟨rfl, _, zero_b10 _, rfl⟩; clear M; (try clear C); intro br w9 h_br M; have C := M.ruleAll; simp only [Go.Proofs.YteonahoboligdaaDoor.ruleAll] at C)) | ((with_reducible apply wpM_alloc' M 60 (bls fun _ => false)); rfl; exact ⟨rfl, _, zero_b10 _, rfl⟩; clear M; (try clear C); intro bo w9 h_bo M; have C := M.ruleAll; simp only [Go.Proofs.YteonahoboligdaaDoor.ruleAll] at C) | (refine wpList_build 60 _ rfl rfl [] rfl _ (build_b10 _) ?_) | ((with_reducible apply wpM_sta' M 0 60 (bls fun _ => false)); rfl; rfl; rfl; rfl; (first | exact .inl (by assumption) | exact .inr rfl | exact .inr (by assumption)); exact ⟨rfl, inf_b10.trans (congrArg some (bls_size ..).symm), flat_bls _⟩; (simp only [entCells, List.getElem?_cons_zero, List.getElem?_cons_succ, bls_size, bls_size]); clear M; (try clear C); intro w9 M; simp only [List.set_cons_zero, List.set_cons_succ, entBlk, entT, List.getElem?_cons_zero, List.getElem?_cons_succ] at M; have C := M.ruleAll; simp only [Go.Proofs.YteonahoboligdaaDoor.ruleAll] at C))
  clear hz hbd
  go_loopw [4] (fun i wr => ∃ j : Nat, j ≤ l.length ∧ i = .int .i64 (j : Int) ∧ Mm no w wr [.box bo (bls (mksL 0 l j)) 60, .box br (bls fun _ => false) 60, .rd g l.length (i64F l)]) (fun i _ => l.length - (intOf i).toNat)
  case atStart => exact ⟨0, by omega, rfl, M.eq (by rw [HM0.out])⟩
  case round =>
    obtain ⟨j, hj, rfl, M9⟩ := hrel
    clear M; (try clear C)
    have M := M9
    clear M9
    have C := M.ruleAll; simp only [Go.Proofs.YteonahoboligdaaDoor.ruleAll] at C
    by_cases hjl : j < l.length
    · have hjl' : (j : Int) < (l.length : Int) := by omega
      have hx := List.getElem?_eq_getElem hjl
      have hx10 := HEL.out _ (List.getElem_mem hjl)
      generalize l[j] = x at hx hx10
      have HS := Hid2.mk (mksL_set (m := 0) hx)
      have c1 := i64F_at hx
      have hx10' : (x : Int) < 10 := by omega
      clear hx
      go_wp2_with (first | ((with_reducible apply wpM_st' M 0 4 (x) (bls (mksL 0 l (j + 1)))); rfl; rfl; rfl; (first | exact .inl (by assumption) | exact .inr rfl | exact .inr (by assumption)); exact ⟨rfl, rfl, by kernel_rfl⟩; (exact Nat.lt_of_lt_of_eq (by omega) (bls_size _).symm); exact HS.out; clear M; (try clear C); intro w9 M; simp only [List.set_cons_zero, List.set_cons_succ, entBlk, entT, List.getElem?_cons_zero, List.getElem?_cons_succ] at M; have C := M.ruleAll; simp only [Go.Proofs.YteonahoboligdaaDoor.ruleAll] at C))
      go_roundw
      case rel => exact ⟨j + 1, by omega, by go_num, M⟩
      case measure => simp [intOf]; omega
    · obtain rfl : j = l.length := by omega
      have hge : ¬ ((l.length : Int) < (l.length : Int)) := by omega
      have HE := Hid2.mk (HMA.out l.length rfl)
      go_wp2_with (first | ((with_reducible apply wpM_lda' M 0 60 0 (bls (mksL 0 l l.length))); rfl; rfl; rfl; exact ⟨rfl, inf_b10.trans (congrArg some (bls_size ..).symm), _, und_b10, rfl⟩; exact whole_of rfl) | ((with_reducible apply wpM_sta' M 1 60 (bls (mksL 0 l l.length))); rfl; rfl; rfl; rfl; (first | exact .inl (by assumption) | exact .inr rfl | exact .inr (by assumption)); exact ⟨rfl, inf_b10.trans (congrArg some (bls_size ..).symm), flat_bls _⟩; (simp only [entCells, List.getElem?_cons_zero, List.getElem?_cons_succ, bls_size, bls_size]); clear M; (try clear C); intro w9 M; simp only [List.set_cons_zero, List.set_cons_succ, entBlk, entT, List.getElem?_cons_zero, List.getElem?_cons_succ] at M; have C := M.ruleAll; simp only [Go.Proofs.YteonahoboligdaaDoor.ruleAll] at C))
      refine bodyPost_ret (v := .agg (bls (mksL 0 l l.length))) (by exact results_part rfl _ _ _ _ _ _ rfl und_b10 rfl inf_b10 (cells_of_blk0 (M.box 1 rfl))) rfl ?_
      exact ⟨by rw [← HE.out], M.below⟩
end Go.Proofs.YteonahoboligdaaDoor
