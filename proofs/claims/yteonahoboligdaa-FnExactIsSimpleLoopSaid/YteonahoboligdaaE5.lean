/- The permutation of two rows, for the reference: a contract. -/
import Derived.Test.YteonahoboligdaaE1
import Derived.Test.YteonahoboligdaaC9
namespace Go.Proofs.Yteonahoboligdaa
set_option linter.unusedSimpArgs false
set_option linter.unusedVariables false
open Go Go.RowKit

/-- What leads the first k entries of row a to those of row b. -/
def plW (t : Nat → Nat → Nat) (a b : Nat) : Nat → Nat → Nat
  | 0 => fun _ => 0
  | k + 1 => fun v => if v = t a k then t b k else plW t a b k v
theorem plW_set (t : Nat → Nat → Nat) (a b k : Nat) : (bys (plW t a b k)).setIfInBounds (t a k) (.int .u8 (t b k : Int)) = bys (plW t a b (k + 1)) := bys_set _ _ _
theorem plW_at {n : Nat} {t : Nat → Nat → Nat} (hl : Lat n t) {a b : Nat} (ha : a < n) : ∀ k, k ≤ n → ∀ y, y < k → plW t a b k (t a y) = t b y
  | 0, _, y, h => by omega
  | k + 1, hk, y, h => by
    show (if t a y = t a k then t b k else plW t a b k (t a y)) = t b y
    by_cases e : y = k
    · rw [e, if_pos rfl]
    · rw [if_neg fun h2 => e (hl.left a y k ha (by omega) (by omega) h2)]
      exact plW_at hl ha k (by omega) y (by omega)
theorem plW_pm {n : Nat} {t : Nat → Nat → Nat} (hl : Lat n t) {a b : Nat} (ha : a < n) (hb : b < n) : Pm n (plW t a b n) where
  lt v hv := by
    obtain ⟨y, hy, rfl⟩ := (hl.row ha).surj hv
    rw [plW_at hl ha n (Nat.le_refl _) y hy]; exact hl.lt b y hb hy
  inj v u hv hu e := by
    obtain ⟨y, hy, rfl⟩ := (hl.row ha).surj hv
    obtain ⟨z, hz, rfl⟩ := (hl.row ha).surj hu
    rw [plW_at hl ha n (Nat.le_refl _) y hy, plW_at hl ha n (Nat.le_refl _) z hz] at e
    rw [hl.left b y z hb hy hz e]
/-- Both permutations are conjugate by row a. -/
theorem plW_sg {n : Nat} {t : Nat → Nat → Nat} (hs : IsSq (n : Int) t) {a b : Nat} (ha : a < n) (hb : b < n) (y : Nat) (hy : y < n) : plW t a b n (t a y) = t a (sg t a b y) := by
  have hl := Lat.of_sq hs
  rw [plW_at hl ha n (Nat.le_refl _) y hy]
  have h := hl.lt b y hb hy
  exact (lq_lt hs (x := a) (z := t b y) (by omega) (by omega)).2.1.symm

set_option maxRecDepth 100000 in
set_option maxHeartbeats 2000000 in
theorem l09Rows_any (n : Nat) (t : Nat → Nat → Nat) (hs : IsSq (n : Int) t) (a b : Nat) (ha : a < n) (hb : b < n) (w : World) :
    Calls Try.prog 52 #[.agg (sqs (n : Int) t), .int .u8 (a : Int), .int .u8 (b : Int)] w fun e w' => e = .returned (.agg (bys (plW t a b n))) ∧ Below w.heap.size w w' := by
  have M := Mm.start no w
  have hn : n ≤ 10 := by have := hs.hi; omega
  have HLT := Hid2.mk (fun y (hy : y < n) => (Lat.of_sq hs).lt a y ha hy)
  have ha10 : (a : Int) < 10 := by omega
  have hb10 : (b : Int) < 10 := by omega
  have hz := zero_plc
  have hbd := build_plc
  have so := sqs_order (n : Int) t
  clear hs
  go_enter Try.func52, Try.ntmps52
  go_wp2_with (first | ((with_reducible apply wpM_box' M 30 (sqs (n : Int) t)); rfl; exact ⟨rfl, rfl⟩; clear M; (try clear C); intro bq w9 h_bq M; have C := M.ruleAll; simp only [Go.Proofs.Yteonahoboligdaa.ruleAll] at C) | ((fail_if_success have := h_bo1); ((with_reducible apply wpM_alloc' M 66 (bys fun _ => 0)); rfl; exact ⟨rfl, _, zero_plc _, rfl⟩; clear M; (try clear C); intro bo1 w9 h_bo1 M; have C := M.ruleAll; simp only [Go.Proofs.Yteonahoboligdaa.ruleAll] at C)) | ((with_reducible apply wpM_alloc' M 66 (bys fun _ => 0)); rfl; exact ⟨rfl, _, zero_plc _, rfl⟩; clear M; (try clear C); intro bo w9 h_bo M; have C := M.ruleAll; simp only [Go.Proofs.Yteonahoboligdaa.ruleAll] at C) | (refine wpList_build 66 _ rfl rfl [] rfl _ (build_plc _) ?_) | ((with_reducible apply wpM_sta' M 0 66 (bys fun _ => 0)); rfl; rfl; rfl; rfl; (first | exact .inl (by assumption) | exact .inr rfl | exact .inr (by assumption)); exact ⟨rfl, inf_plc.trans (congrArg some (bys_size ..).symm), flat_bys _⟩; (simp only [entCells, List.getElem?_cons_zero, List.getElem?_cons_succ, bys_size, bys_size]); clear M; (try clear C); intro w9 M; simp only [List.set_cons_zero, List.set_cons_succ, entBlk, entT, List.getElem?_cons_zero, List.getElem?_cons_succ] at M; have C := M.ruleAll; simp only [Go.Proofs.Yteonahoboligdaa.ruleAll] at C))
  clear hz hbd
  go_loopw [8] (fun i wr => ∃ k : Nat, k ≤ n ∧ i = .int .i64 (k : Int) ∧ Mm no w wr [.box bo (bys (plW t a b k)) 66, .box bo1 (bys fun _ => 0) 66, .box bq (sqs (n : Int) t) 30]) (fun i _ => n - (intOf i).toNat)
  case atStart => exact ⟨0, by omega, rfl, M⟩
  case round =>
    obtain ⟨k, hk, rfl, M9⟩ := hrel
    clear M; (try clear C)
    have M := M9
    clear M9
    have C := M.ruleAll; simp only [Go.Proofs.Yteonahoboligdaa.ruleAll] at C
    by_cases hlt : k < n
    · have hlt' : (k : Int) < (n : Int) := by omega
      have hk10 : (k : Int) < 10 := by omega
      have hv := HLT.out k hlt
      have q1 := sqs_get (n := (n : Int)) (t := t) (x := a) (y := k) (by omega) (by omega)
      have q2 := sqs_get (n := (n : Int)) (t := t) (x := b) (y := k) (by omega) (by omega)
      have HS := Hid2.mk (plW_set t a b k)
      generalize t a k = u at q1 HS hv
      generalize t b k = v at q2 HS
      have hu10 : (u : Int) < 10 := by omega
      have q3 := bys_get (f := plW t a b k) (i := u) (by omega)
      go_wp2
      apply wp_region_mm M 13 (by kernel_rfl) (by kernel_rfl); (simp only [List.take_succ_cons, List.take_zero]; repeat (first | exact wpText_nil | (apply wpText_cons; (intro w2 M; have C := M.ruleAll; simp only [Go.Proofs.Yteonahoboligdaa.ruleAll] at C; go_wp2; exact ⟨rfl, rfl, M⟩); rfl))); (clear M; (try clear C); intro w2 M; simp only [List.drop_succ_cons, List.drop_zero]; have C := M.ruleAll; simp only [Go.Proofs.Yteonahoboligdaa.ruleAll] at C)
      go_wp2_with (first | ((with_reducible apply wpM_st' M 0 5 (u) (bys (plW t a b (k + 1)))); rfl; rfl; rfl; (first | exact .inl (by assumption) | exact .inr rfl | exact .inr (by assumption)); exact ⟨rfl, rfl, by kernel_rfl⟩; (exact Nat.lt_of_lt_of_eq (by omega) (bys_size _).symm); exact HS.out; clear M; (try clear C); intro w9 M; simp only [List.set_cons_zero, List.set_cons_succ, entBlk, entT, List.getElem?_cons_zero, List.getElem?_cons_succ] at M; have C := M.ruleAll; simp only [Go.Proofs.Yteonahoboligdaa.ruleAll] at C))
      go_roundw
      case rel => exact ⟨k + 1, by omega, by go_num, M⟩
      case measure => simp [intOf]; omega
    · obtain rfl : k = n := by omega
      go_wp2_with (first | ((with_reducible apply wpM_lda' M 0 66 0 (bys (plW t a b k))); rfl; rfl; rfl; exact ⟨rfl, inf_plc.trans (congrArg some (bys_size ..).symm), _, und_plc, rfl⟩; exact whole_of rfl) | ((with_reducible apply wpM_sta' M 1 66 (bys (plW t a b k))); rfl; rfl; rfl; rfl; (first | exact .inl (by assumption) | exact .inr rfl | exact .inr (by assumption)); exact ⟨rfl, inf_plc.trans (congrArg some (bys_size ..).symm), flat_bys _⟩; (simp only [entCells, List.getElem?_cons_zero, List.getElem?_cons_succ, bys_size, bys_size]); clear M; (try clear C); intro w9 M; simp only [List.set_cons_zero, List.set_cons_succ, entBlk, entT, List.getElem?_cons_zero, List.getElem?_cons_succ] at M; have C := M.ruleAll; simp only [Go.Proofs.Yteonahoboligdaa.ruleAll] at C))
      refine bodyPost_ret (v := .agg (bys (plW t a b k))) (by exact results_part rfl _ _ _ _ _ _ rfl und_plc rfl inf_plc (cells_of_blk0 (M.box 1 rfl))) rfl ?_
      exact ⟨rfl, M.below⟩
end Go.Proofs.Yteonahoboligdaa
