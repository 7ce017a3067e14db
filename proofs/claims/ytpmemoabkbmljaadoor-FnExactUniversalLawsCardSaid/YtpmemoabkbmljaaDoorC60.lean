/- Which bytes are a term, for the program and for the reference: contracts. -/
import Derived.Test.YtpmemoabkbmljaaDoorB2
import Derived.Test.YtpmemoabkbmljaaDoorI1
import Derived.Test.YtpmemoabkbmljaaDoorC3
import Derived.Test.YtpmemoabkbmljaaDoorC7
namespace Go.Proofs.YtpmemoabkbmljaaDoor
set_option linter.unusedSimpArgs false
set_option linter.unusedVariables false
open Go Go.RowKit

theorem neI {b : Nat} {c : Nat} (h : b ≠ c) : ((b : Int) == (c : Int)) = false := by simp; omega

set_option maxRecDepth 100000 in
theorem isLeaf_b (b : Nat) (r : Bool) (h : isLeafB b = r) (w : World) : Calls Tryd.prog 90 #[.int .u8 (b : Int)] w fun e w' => e = .returned (.bool r) ∧ w = w' := by
  by_cases h1 : b = 120
  · subst h1; subst h; go_enter Tryd.func90, Tryd.ntmps90; go_wp2; go_ret; exact ⟨rfl, rfl⟩
  by_cases h2 : b = 121
  · subst h2; subst h; go_enter Tryd.func90, Tryd.ntmps90; go_wp2; go_ret; exact ⟨rfl, rfl⟩
  by_cases h3 : b = 122
  · subst h3; subst h; go_enter Tryd.func90, Tryd.ntmps90; go_wp2; go_ret; exact ⟨rfl, rfl⟩
  by_cases h4 : b = 101
  · subst h4; subst h; go_enter Tryd.func90, Tryd.ntmps90; go_wp2; go_ret; exact ⟨rfl, rfl⟩
  have hr : r = false := by rw [← h]; simp [isLeafB, h1, h2, h3, h4]
  subst hr
  have e1 : ((b : Int) == 120) = false := neI h1
  have e2 : ((b : Int) == 121) = false := neI h2
  have e3 : ((b : Int) == 122) = false := neI h3
  have e4 : ((b : Int) == 101) = false := neI h4
  clear h h1 h2 h3 h4
  go_enter Tryd.func90, Tryd.ntmps90
  go_wp2
  go_ret
  exact ⟨rfl, rfl⟩

set_option maxRecDepth 100000 in
theorem isOp_b (b : Nat) (r : Bool) (h : isOpB b = r) (w : World) : Calls Tryd.prog 85 #[.int .u8 (b : Int)] w fun e w' => e = .returned (.bool r) ∧ w = w' := by
  by_cases h1 : b = 42
  · subst h1; subst h; go_enter Tryd.func85, Tryd.ntmps85; go_wp2; go_ret; exact ⟨rfl, rfl⟩
  by_cases h2 : b = 92
  · subst h2; subst h; go_enter Tryd.func85, Tryd.ntmps85; go_wp2; go_ret; exact ⟨rfl, rfl⟩
  by_cases h3 : b = 47
  · subst h3; subst h; go_enter Tryd.func85, Tryd.ntmps85; go_wp2; go_ret; exact ⟨rfl, rfl⟩
  have hr : r = false := by rw [← h]; simp [isOpB, h1, h2, h3]
  subst hr
  have e1 : ((b : Int) == 42) = false := neI h1
  have e2 : ((b : Int) == 92) = false := neI h2
  have e3 : ((b : Int) == 47) = false := neI h3
  clear h h1 h2 h3
  go_enter Tryd.func85, Tryd.ntmps85
  go_wp2
  go_ret
  exact ⟨rfl, rfl⟩

set_option maxRecDepth 100000 in
theorem l03Op_b (b : Nat) (r : Bool) (h : isOpB b = r) (w : World) : Calls Tryd.prog 81 #[.int .u8 (b : Int)] w fun e w' => e = .returned (.bool r) ∧ w = w' := by
  by_cases h1 : b = 42
  · subst h1; subst h; go_enter Tryd.func81, Tryd.ntmps81; go_wp2; go_ret; exact ⟨rfl, rfl⟩
  by_cases h2 : b = 92
  · subst h2; subst h; go_enter Tryd.func81, Tryd.ntmps81; go_wp2; go_ret; exact ⟨rfl, rfl⟩
  by_cases h3 : b = 47
  · subst h3; subst h; go_enter Tryd.func81, Tryd.ntmps81; go_wp2; go_ret; exact ⟨rfl, rfl⟩
  have hr : r = false := by rw [← h]; simp [isOpB, h1, h2, h3]
  subst hr
  have e1 : ((b : Int) == 42) = false := neI h1
  have e2 : ((b : Int) == 92) = false := neI h2
  have e3 : ((b : Int) == 47) = false := neI h3
  clear h h1 h2 h3
  go_enter Tryd.func81, Tryd.ntmps81
  go_wp2
  go_ret
  exact ⟨rfl, rfl⟩

/-- The bytes of a term as a function. -/
def bf (xs : List Nat) (j : Nat) : Nat := elB xs j
theorem tmTo_succ {f : Nat → Nat} {k v : Nat} (h : tmTo f k = some v) : tmTo f (k + 1) = tmStep (f k) v := by rw [tmTo, h]
theorem tmStep_leaf {b v : Nat} (h : isLeafB b = true) : tmStep b v = some (v + 1) := if_pos h
theorem tmStep_op {b v : Nat} (h : isLeafB b = false) (h1 : isOpB b = true) (h2 : 2 ≤ v) : tmStep b v = some (v - 1) := by simp [tmStep, h, h1, h2]
theorem tmStep_no {b v : Nat} (h : isLeafB b = false) (h1 : ¬ (isOpB b = true ∧ 2 ≤ v)) : tmStep b v = none := by simp [tmStep, h]; intro h2; exact Nat.lt_of_not_le fun h3 => h1 ⟨h2, h3⟩

set_option maxRecDepth 100000 in
set_option maxHeartbeats 2000000 in
theorem isTerm_any (xs : List Nat) (hlen : xs.length ≤ 10000000) (w : World) (p : Option Addr) (cap : Nat) (hr : rdq w p xs.length (bytF xs)) :
    Calls Tryd.prog 87 #[.slice p xs.length cap] w fun e w' => e = .returned (.bool (isTm (elB xs) xs.length)) ∧ Below w.heap.size w w' := by
  have M := Mm.start no w
  have F1 := Hid2.mk (fun w1 (hb : Below w.heap.size w w1) => hr.later hb)
  clear hr
  go_enter Tryd.func87, Tryd.ntmps87
  go_wp2
  go_loopw [8, 3, 5, 12, 17] (fun i v _ _ _ wr => ∃ k u : Nat, k ≤ xs.length ∧ i = .int .i64 (k : Int) ∧ v = .int .i64 (u : Int) ∧ tmTo (elB xs) k = some u ∧ Mm no w wr []) (fun i _ _ _ _ _ => xs.length - (intOf i).toNat)
  case atStart => exact ⟨0, 0, by omega, rfl, rfl, rfl, M⟩
  case round =>
    obtain ⟨k, u, hk, rfl, rfl, ht, M9⟩ := hrel
    clear M
    have M := M9
    clear M9
    have hu := tmTo_le ht
    have hw : wrap64 ((u : Int) + 1) = ((u + 1 : Nat) : Int) := by rw [wrap_small _ (by omega) (by omega)]; omega
    have HT := Hid2.mk ht
    clear ht
    by_cases hlt : k < xs.length
    · have hlt' : (k : Int) < (xs.length : Int) := by omega
      obtain ⟨g, rfl, hrr⟩ := F1.out _ M.below (by omega)
      have hc0 : wr.cell? ⟨g, k, none⟩ = some (.int .u8 (elB xs k : Nat)) := hrr.at_ k hlt
      clear hrr
      have HS := Hid2.mk (tmTo_succ HT.out)
      have HN := Hid2.mk (fun h => @isTm_none (elB xs) xs.length (k + 1) h (by omega))
      by_cases hl : isLeafB (elB xs k) = true
      · have H1 := fun w1 => isLeaf_b (elB xs k) true hl w1
        have HH := Hid2.mk (HS.out.trans (tmStep_leaf hl))
        generalize elB xs k = b at hc0 H1
        clear hl HS HN
        go_wp2_with (first | (go_at_call 90; ((with_reducible refine (H1 _).mono ?_); rintro e w1 ⟨rfl, rfl⟩)))
        go_roundw
        case rel => exact ⟨k + 1, u + 1, by omega, by go_num, by first | rfl | (congr 1; omega), HH.out, M⟩
        case measure => simp [intOf]; omega
      · have hl := Bool.eq_false_iff.2 hl
        have H1 := fun w1 => isLeaf_b (elB xs k) false hl w1
        by_cases ho : isOpB (elB xs k) = true
        · have H2 := fun w1 => isOp_b (elB xs k) true ho w1
          by_cases h2 : 2 ≤ u
          · have h2' : (2 : Int) ≤ (u : Int) := by omega
            have hw2 : wrap64 ((u : Int) - 1) = ((u - 1 : Nat) : Int) := by rw [wrap_small _ (by omega) (by omega)]; omega
            have HH := Hid2.mk (HS.out.trans (tmStep_op hl ho h2))
            generalize elB xs k = b at hc0 H1 H2
            clear hl HS HN ho
            go_wp2_with (first | (go_at_call 90; ((with_reducible refine (H1 _).mono ?_); rintro e w1 ⟨rfl, rfl⟩)) | (go_at_call 85; ((with_reducible refine (H2 _).mono ?_); rintro e w1 ⟨rfl, rfl⟩)))
            go_roundw
            case rel => exact ⟨k + 1, u - 1, by omega, by go_num, by first | rfl | (congr 1; omega), HH.out, M⟩
            case measure => simp [intOf]; omega
          · have h2' : ¬ (2 : Int) ≤ (u : Int) := by omega
            have HH := Hid2.mk (HN.out (HS.out.trans (tmStep_no hl fun h => h2 h.2)))
            generalize elB xs k = b at hc0 H1 H2
            clear hl HS HN ho
            go_wp2_with (first | (go_at_call 90; ((with_reducible refine (H1 _).mono ?_); rintro e w1 ⟨rfl, rfl⟩)) | (go_at_call 85; ((with_reducible refine (H2 _).mono ?_); rintro e w1 ⟨rfl, rfl⟩)))
            go_ret
            exact ⟨by rw [HH.out]; rfl, M.below⟩
        · have H2 := fun w1 => isOp_b (elB xs k) false (Bool.eq_false_iff.2 ho) w1
          have HH := Hid2.mk (HN.out (HS.out.trans (tmStep_no hl fun h => ho h.1)))
          generalize elB xs k = b at hc0 H1 H2
          clear hl HS HN ho
          go_wp2_with (first | (go_at_call 90; ((with_reducible refine (H1 _).mono ?_); rintro e w1 ⟨rfl, rfl⟩)) | (go_at_call 85; ((with_reducible refine (H2 _).mono ?_); rintro e w1 ⟨rfl, rfl⟩)))
          go_ret
          exact ⟨by rw [HH.out]; rfl, M.below⟩
    · obtain rfl : k = xs.length := by omega
      have hge : ¬ ((xs.length : Int) < (xs.length : Int)) := by omega
      by_cases h1 : u = 1
      · subst h1
        by_cases h4 : xs.length ≤ 40
        · have h4' : (xs.length : Int) ≤ 40 := by omega
          have HF := Hid2.mk (isTm_iff.2 ⟨HT.out, h4⟩)
          go_wp2
          go_ret
          exact ⟨by rw [HF.out]; rfl, M.below⟩
        · have h4' : ¬ (xs.length : Int) ≤ 40 := by omega
          have HF := Hid2.mk (Bool.eq_false_iff.2 fun h => h4 (@isTm_iff (elB xs) xs.length |>.1 h).2)
          go_wp2
          go_ret
          exact ⟨by rw [HF.out]; rfl, M.below⟩
      · have h1' : ((u : Int) == 1) = false := neI h1
        have HF := Hid2.mk (Bool.eq_false_iff.2 fun h => h1 (by have := HT.out.symm.trans (@isTm_iff (elB xs) xs.length |>.1 h).1; cases this; rfl))
        go_wp2
        go_ret
        exact ⟨by rw [HF.out]; rfl, M.below⟩

theorem leaf_cases {b : Nat} (h : isLeafB b = true) : b = 120 ∨ b = 121 ∨ b = 122 ∨ b = 101 := by simp [isLeafB] at h; omega
theorem leaf_none {b : Nat} (h : isLeafB b = false) : b ≠ 120 ∧ b ≠ 121 ∧ b ≠ 122 ∧ b ≠ 101 := by simp [isLeafB] at h; omega

set_option maxRecDepth 100000 in
set_option maxHeartbeats 2000000 in
theorem l03Is_any (xs : List Nat) (hlen : xs.length ≤ 10000000) (w : World) (p : Option Addr) (cap : Nat) (hr : rdq w p xs.length (bytF xs)) :
    Calls Tryd.prog 82 #[.slice p xs.length cap] w fun e w' => e = .returned (.bool (isTm (elB xs) xs.length)) ∧ Below w.heap.size w w' := by
  have M := Mm.start no w
  have F1 := Hid2.mk (fun w1 (hb : Below w.heap.size w w1) => hr.later hb)
  clear hr
  go_enter Tryd.func82, Tryd.ntmps82
  go_wp2
  go_loopw [4, 3, 11, 40] (fun i v _ _ wr => ∃ k u : Nat, k ≤ xs.length ∧ i = .int .i64 (k : Int) ∧ v = .int .i64 (u : Int) ∧ tmTo (elB xs) k = some u ∧ Mm no w wr []) (fun i _ _ _ _ => xs.length - (intOf i).toNat)
  case atStart => exact ⟨0, 0, by omega, rfl, rfl, rfl, M⟩
  case round =>
    obtain ⟨k, u, hk, rfl, rfl, ht, M9⟩ := hrel
    clear M
    have M := M9
    clear M9
    have hu := tmTo_le ht
    have hw : wrap64 ((u : Int) + 1) = ((u + 1 : Nat) : Int) := by rw [wrap_small _ (by omega) (by omega)]; omega
    have HT := Hid2.mk ht
    clear ht
    by_cases hlt : k < xs.length
    · have hlt' : (k : Int) < (xs.length : Int) := by omega
      obtain ⟨g, rfl, hrr⟩ := F1.out _ M.below (by omega)
      have hc0 : wr.cell? ⟨g, k, none⟩ = some (.int .u8 (elB xs k : Nat)) := hrr.at_ k hlt
      clear hrr
      have HS := Hid2.mk (tmTo_succ HT.out)
      have HN := Hid2.mk (fun h => @isTm_none (elB xs) xs.length (k + 1) h (by omega))
      by_cases hl : isLeafB (elB xs k) = true
      · have HH := Hid2.mk (HS.out.trans (tmStep_leaf hl))
        have hb := leaf_cases hl
        generalize elB xs k = b at hc0 hb
        clear hl HS HN
        rcases hb with rfl | rfl | rfl | rfl
        all_goals
          go_wp2
          go_roundw
          case rel => exact ⟨k + 1, u + 1, by omega, by go_num, by first | rfl | (congr 1; omega), HH.out, M⟩
          case measure => simp [intOf]; omega
      · have hl := Bool.eq_false_iff.2 hl
        obtain ⟨n1, n2, n3, n4⟩ := leaf_none hl
        have e1 : ((elB xs k : Int) == 120) = false := neI n1
        have e2 : ((elB xs k : Int) == 121) = false := neI n2
        have e3 : ((elB xs k : Int) == 122) = false := neI n3
        have e4 : ((elB xs k : Int) == 101) = false := neI n4
        clear n1 n2 n3 n4
        by_cases ho : isOpB (elB xs k) = true
        · have H2 := fun w1 => l03Op_b (elB xs k) true ho w1
          by_cases h2 : 2 ≤ u
          · have h2' : (2 : Int) ≤ (u : Int) := by omega
            have hw2 : wrap64 ((u : Int) - 1) = ((u - 1 : Nat) : Int) := by rw [wrap_small _ (by omega) (by omega)]; omega
            have HH := Hid2.mk (HS.out.trans (tmStep_op hl ho h2))
            generalize elB xs k = b at hc0 H2 e1 e2 e3 e4
            clear hl HS HN ho
            go_wp2_with (first | (go_at_call 81; ((with_reducible refine (H2 _).mono ?_); rintro e w1 ⟨rfl, rfl⟩)))
            go_roundw
            case rel => exact ⟨k + 1, u - 1, by omega, by go_num, by first | rfl | (congr 1; omega), HH.out, M⟩
            case measure => simp [intOf]; omega
          · have h2' : ¬ (2 : Int) ≤ (u : Int) := by omega
            have HH := Hid2.mk (HN.out (HS.out.trans (tmStep_no hl fun h => h2 h.2)))
            generalize elB xs k = b at hc0 H2 e1 e2 e3 e4
            clear hl HS HN ho
            go_wp2_with (first | (go_at_call 81; ((with_reducible refine (H2 _).mono ?_); rintro e w1 ⟨rfl, rfl⟩)))
            go_ret
            exact ⟨by rw [HH.out]; rfl, M.below⟩
        · have H2 := fun w1 => l03Op_b (elB xs k) false (Bool.eq_false_iff.2 ho) w1
          have HH := Hid2.mk (HN.out (HS.out.trans (tmStep_no hl fun h => ho h.1)))
          generalize elB xs k = b at hc0 H2 e1 e2 e3 e4
          clear hl HS HN ho
          go_wp2_with (first | (go_at_call 81; ((with_reducible refine (H2 _).mono ?_); rintro e w1 ⟨rfl, rfl⟩)))
          go_ret
          exact ⟨by rw [HH.out]; rfl, M.below⟩
    · obtain rfl : k = xs.length := by omega
      have hge : ¬ ((xs.length : Int) < (xs.length : Int)) := by omega
      by_cases h1 : u = 1
      · subst h1
        by_cases h4 : xs.length ≤ 40
        · have h4' : (xs.length : Int) ≤ 40 := by omega
          have HF := Hid2.mk (isTm_iff.2 ⟨HT.out, h4⟩)
          go_wp2
          go_ret
          exact ⟨by rw [HF.out]; rfl, M.below⟩
        · have h4' : ¬ (xs.length : Int) ≤ 40 := by omega
          have HF := Hid2.mk (Bool.eq_false_iff.2 fun h => h4 (@isTm_iff (elB xs) xs.length |>.1 h).2)
          go_wp2
          go_ret
          exact ⟨by rw [HF.out]; rfl, M.below⟩
      · have h1' : ((u : Int) == 1) = false := neI h1
        have HF := Hid2.mk (Bool.eq_false_iff.2 fun h => h1 (by have := HT.out.symm.trans (@isTm_iff (elB xs) xs.length |>.1 h).1; cases this; rfl))
        go_wp2
        go_ret
        exact ⟨by rw [HF.out]; rfl, M.below⟩
end Go.Proofs.YtpmemoabkbmljaaDoor

/- Identities: contracts. -/
namespace Go.Proofs.YtpmemoabkbmljaaDoor
set_option linter.unusedSimpArgs false
set_option linter.unusedVariables false
open Go Go.RowKit

/-- The two sides of an identity, as cells. -/
def idV (p1 : Option Addr) (c1 : Nat) (p2 : Option Addr) (c2 n m : Nat) : Array Value := #[.slice p1 n c1, .slice p2 m c2]
theorem und_idn : Tryd.prog.underlying 49 = some (.struct (Tryd.prog.fieldsOf 49)) := by kernel_rfl
theorem inf_idn : (Tryd.prog.info? 49).map (·.size) = some 2 := by kernel_rfl
theorem idv_size (p1 : Option Addr) (c1 : Nat) (p2 : Option Addr) (c2 n m : Nat) : (idV p1 c1 p2 c2 n m).size = 2 := rfl
theorem idv_0 (p1 : Option Addr) (c1 : Nat) (p2 : Option Addr) (c2 n m : Nat) : (idV p1 c1 p2 c2 n m)[0]? = some (.slice p1 n c1) := rfl
theorem idv_1 (p1 : Option Addr) (c1 : Nat) (p2 : Option Addr) (c2 n m : Nat) : (idV p1 c1 p2 c2 n m)[1]? = some (.slice p2 m c2) := rfl
theorem zero_idn (w : World) : (zeroValue 49).run Tryd.prog w = .ok (.agg (idV none 0 none 0 0 0)) w := by kernel_rfl
theorem flat_idv (p1 : Option Addr) (c1 : Nat) (p2 : Option Addr) (c2 n m : Nat) : flat (idV p1 c1 p2 c2 n m) := fun u hu => by
  have h : u = .slice p1 n c1 ∨ u = .slice p2 m c2 := by simpa [idV] using hu
  rcases h with rfl | rfl <;> rfl
def isId (xs ys : List Nat) : Bool := isTm (elB xs) xs.length && isTm (elB ys) ys.length

set_option maxRecDepth 100000 in
set_option maxHeartbeats 1000000 in
theorem isIdentity_any (xs ys : List Nat) (h1 : xs.length ≤ 10000000) (h2 : ys.length ≤ 10000000) (w : World) (p1 p2 : Option Addr) (c1 c2 : Nat) (r1 : rdq w p1 xs.length (bytF xs)) (r2 : rdq w p2 ys.length (bytF ys)) :
    Calls Tryd.prog 67 #[.agg (idV p1 c1 p2 c2 xs.length ys.length)] w fun e w' => e = .returned (.bool (isId xs ys)) ∧ Below w.heap.size w w' := by
  have M := Mm.start no w
  have H1 := fun w1 (hb : Below w.heap.size w w1) => isTerm_any xs h1 w1 p1 c1 (r1.later hb)
  have H2 := fun w1 (hb : Below w.heap.size w w1) => isTerm_any ys h2 w1 p2 c2 (r2.later hb)
  have hI : isId xs ys = (isTm (elB xs) xs.length && isTm (elB ys) ys.length) := rfl
  have hI1 := idv_0 p1 c1 p2 c2 xs.length ys.length
  have hI2 := idv_1 p1 c1 p2 c2 xs.length ys.length
  rw [hI]
  generalize isTm (elB xs) xs.length = x at H1
  generalize isTm (elB ys) ys.length = y at H2
  clear r1 r2 hI
  generalize hV : idV p1 c1 p2 c2 xs.length ys.length = V at hI1 hI2
  clear hV
  go_enter Tryd.func67, Tryd.ntmps67
  cases x
  · go_wp2_with (first | ((with_reducible apply wpM_box' M 49 (V)); rfl; exact ⟨rfl, rfl⟩; clear M; (try clear C); intro bi w9 h_bi M; have C := M.ruleAll; simp only [Go.Proofs.YtpmemoabkbmljaaDoor.ruleAll] at C) | (go_at_call 87; ((with_reducible refine (H1 _ M.below).mono ?_); rintro e w1 ⟨rfl, hb⟩; have hsz := M.size; (try (have G9 := G.later hb; clear G; have G := G9; clear G9)); have M9 := M.later hb; clear M; (try clear C); have M := M9; clear M9; have C := M.ruleAll; simp only [Go.Proofs.YtpmemoabkbmljaaDoor.ruleAll] at C)))
    go_ret
    exact ⟨rfl, M.below⟩
  · go_wp2_with (first | ((with_reducible apply wpM_box' M 49 (V)); rfl; exact ⟨rfl, rfl⟩; clear M; (try clear C); intro bi w9 h_bi M; have C := M.ruleAll; simp only [Go.Proofs.YtpmemoabkbmljaaDoor.ruleAll] at C) | (go_at_call 87; ((with_reducible refine (H1 _ M.below).mono ?_); rintro e w1 ⟨rfl, hb⟩; have hsz := M.size; (try (have G9 := G.later hb; clear G; have G := G9; clear G9)); have M9 := M.later hb; clear M; (try clear C); have M := M9; clear M9; have C := M.ruleAll; simp only [Go.Proofs.YtpmemoabkbmljaaDoor.ruleAll] at C)) | (go_at_call 87; ((with_reducible refine (H2 _ M.below).mono ?_); rintro e w1 ⟨rfl, hb⟩; have hsz := M.size; (try (have G9 := G.later hb; clear G; have G := G9; clear G9)); have M9 := M.later hb; clear M; (try clear C); have M := M9; clear M9; have C := M.ruleAll; simp only [Go.Proofs.YtpmemoabkbmljaaDoor.ruleAll] at C)))
    go_ret
    exact ⟨by cases y <;> rfl, M.below⟩

set_option maxRecDepth 100000 in
set_option maxHeartbeats 1000000 in
theorem l03Both_any (xs ys : List Nat) (h1 : xs.length ≤ 10000000) (h2 : ys.length ≤ 10000000) (w : World) (p1 p2 : Option Addr) (c1 c2 : Nat) (r1 : rdq w p1 xs.length (bytF xs)) (r2 : rdq w p2 ys.length (bytF ys)) :
    Calls Tryd.prog 62 #[.agg (idV p1 c1 p2 c2 xs.length ys.length)] w fun e w' => e = .returned (.bool (isId xs ys)) ∧ Below w.heap.size w w' := by
  have M := Mm.start no w
  have H1 := fun w1 (hb : Below w.heap.size w w1) => l03Is_any xs h1 w1 p1 c1 (r1.later hb)
  have H2 := fun w1 (hb : Below w.heap.size w w1) => l03Is_any ys h2 w1 p2 c2 (r2.later hb)
  have hI : isId xs ys = (isTm (elB xs) xs.length && isTm (elB ys) ys.length) := rfl
  have hI1 := idv_0 p1 c1 p2 c2 xs.length ys.length
  have hI2 := idv_1 p1 c1 p2 c2 xs.length ys.length
  rw [hI]
  generalize isTm (elB xs) xs.length = x at H1
  generalize isTm (elB ys) ys.length = y at H2
  clear r1 r2 hI
  generalize hV : idV p1 c1 p2 c2 xs.length ys.length = V at hI1 hI2
  clear hV
  go_enter Tryd.func62, Tryd.ntmps62
  cases x
  · go_wp2_with (first | ((with_reducible apply wpM_box' M 49 (V)); rfl; exact ⟨rfl, rfl⟩; clear M; (try clear C); intro bi w9 h_bi M; have C := M.ruleAll; simp only [Go.Proofs.YtpmemoabkbmljaaDoor.ruleAll] at C) | (go_at_call 82; ((with_reducible refine (H1 _ M.below).mono ?_); rintro e w1 ⟨rfl, hb⟩; have hsz := M.size; (try (have G9 := G.later hb; clear G; have G := G9; clear G9)); have M9 := M.later hb; clear M; (try clear C); have M := M9; clear M9; have C := M.ruleAll; simp only [Go.Proofs.YtpmemoabkbmljaaDoor.ruleAll] at C)))
    go_ret
    exact ⟨rfl, M.below⟩
  · go_wp2_with (first | ((with_reducible apply wpM_box' M 49 (V)); rfl; exact ⟨rfl, rfl⟩; clear M; (try clear C); intro bi w9 h_bi M; have C := M.ruleAll; simp only [Go.Proofs.YtpmemoabkbmljaaDoor.ruleAll] at C) | (go_at_call 82; ((with_reducible refine (H1 _ M.below).mono ?_); rintro e w1 ⟨rfl, hb⟩; have hsz := M.size; (try (have G9 := G.later hb; clear G; have G := G9; clear G9)); have M9 := M.later hb; clear M; (try clear C); have M := M9; clear M9; have C := M.ruleAll; simp only [Go.Proofs.YtpmemoabkbmljaaDoor.ruleAll] at C)) | (go_at_call 82; ((with_reducible refine (H2 _ M.below).mono ?_); rintro e w1 ⟨rfl, hb⟩; have hsz := M.size; (try (have G9 := G.later hb; clear G; have G := G9; clear G9)); have M9 := M.later hb; clear M; (try clear C); have M := M9; clear M9; have C := M.ruleAll; simp only [Go.Proofs.YtpmemoabkbmljaaDoor.ruleAll] at C)))
    go_ret
    exact ⟨by cases y <;> rfl, M.below⟩
end Go.Proofs.YtpmemoabkbmljaaDoor

/- Quotients and operations of the reference: contracts. -/
namespace Go.Proofs.YtpmemoabkbmljaaDoor
set_option linter.unusedSimpArgs false
set_option linter.unusedVariables false
open Go Go.RowKit

set_option maxRecDepth 100000 in
set_option maxHeartbeats 1000000 in
theorem l01Left_any (n : Int) (t : Nat → Nat → Nat) (hs : IsSq n t) (x z : Nat) (hx : (x : Int) < n) (hz : (z : Int) < n) (w : World) :
    Calls Tryd.prog 71 #[.agg (sqs n t), .int .u8 (x : Int), .int .u8 (z : Int)] w fun e w' => e = .returned (.int .u8 (lq t x z : Nat)) ∧ Below w.heap.size w w' := by
  have M := Mm.start no w
  have hn := hs.hi
  obtain ⟨h1, h2, h3⟩ := lq_lt hs hx hz
  have hx10 : x < 10 := by omega
  have hx' : (x : Int) < 10 := by omega
  have H3 := Hid2.mk h3
  have H2 := Hid2.mk h2
  generalize hV : lq t x z = l at h1 H2 H3
  clear h2 h3 hV
  go_enter Tryd.func71, Tryd.ntmps71
  go_wp2_with (first | ((with_reducible apply wpM_box' M 31 (sqs n t)); rfl; exact ⟨rfl, rfl⟩; clear M; (try clear C); intro bq w9 h_bq M; have C := M.ruleAll; simp only [Go.Proofs.YtpmemoabkbmljaaDoor.ruleAll] at C))
  go_loopw [7] (fun i wr => ∃ y : Nat, y ≤ l ∧ i = .int .u8 (y : Int) ∧ Mm no w wr [.box bq (sqs n t) 31]) (fun i _ => l - (intOf i).toNat)
  case atStart => exact ⟨0, by omega, rfl, M⟩
  case round =>
    obtain ⟨y, hy, rfl, M9⟩ := hrel
    clear M; (try clear C)
    have M := M9
    clear M9
    have hy10 : y < 10 := by omega
    have hy' : (y : Int) < 10 := by omega
    have hc := (M.box 0 rfl).cell _ _ (sqs_get (n := n) (t := t) hx10 hy10)
    by_cases e : y = l
    · subst e
      have hd : ((t x y : Int) == (z : Int)) = true := by rw [H2.out]; simp
      generalize t x y = v at hc hd
      go_wp2
      go_ret
      exact ⟨rfl, M.below⟩
    · have hd : ((t x y : Int) == (z : Int)) = false := neI (H3.out y (by omega))
      generalize t x y = v at hc hd
      go_wp2
      go_roundw
      case rel => exact ⟨y + 1, by omega, by go_num, M⟩
      case measure => simp [intOf]; omega

set_option maxRecDepth 100000 in
set_option maxHeartbeats 1000000 in
theorem l01Right_any (n : Int) (t : Nat → Nat → Nat) (hs : IsSq n t) (z y : Nat) (hz : (z : Int) < n) (hy : (y : Int) < n) (w : World) :
    Calls Tryd.prog 70 #[.agg (sqs n t), .int .u8 (z : Int), .int .u8 (y : Int)] w fun e w' => e = .returned (.int .u8 (lq (fun x y => t y x) y z : Nat)) ∧ Below w.heap.size w w' := by
  have M := Mm.start no w
  have hn := hs.hi
  obtain ⟨h1, h2, h3⟩ := lq_lt hs.turn hy hz
  have hy10 : y < 10 := by omega
  have hy' : (y : Int) < 10 := by omega
  have H3 := Hid2.mk h3
  have H2 := Hid2.mk h2
  generalize hV : lq (fun x y => t y x) y z = l at h1 H2 H3
  clear h2 h3 hV
  go_enter Tryd.func70, Tryd.ntmps70
  go_wp2_with (first | ((with_reducible apply wpM_box' M 31 (sqs n t)); rfl; exact ⟨rfl, rfl⟩; clear M; (try clear C); intro bq w9 h_bq M; have C := M.ruleAll; simp only [Go.Proofs.YtpmemoabkbmljaaDoor.ruleAll] at C))
  go_loopw [7] (fun i wr => ∃ x : Nat, x ≤ l ∧ i = .int .u8 (x : Int) ∧ Mm no w wr [.box bq (sqs n t) 31]) (fun i _ => l - (intOf i).toNat)
  case atStart => exact ⟨0, by omega, rfl, M⟩
  case round =>
    obtain ⟨x, hx, rfl, M9⟩ := hrel
    clear M; (try clear C)
    have M := M9
    clear M9
    have hx10 : x < 10 := by omega
    have hx' : (x : Int) < 10 := by omega
    have hc := (M.box 0 rfl).cell _ _ (sqs_get (n := n) (t := t) hx10 hy10)
    by_cases e : x = l
    · subst e
      have hd : ((t x y : Int) == (z : Int)) = true := by rw [show t x y = z from H2.out]; simp
      generalize t x y = v at hc hd
      go_wp2
      go_ret
      exact ⟨rfl, M.below⟩
    · have hd : ((t x y : Int) == (z : Int)) = false := neI (H3.out x (by omega))
      generalize t x y = v at hc hd
      go_wp2
      go_roundw
      case rel => exact ⟨x + 1, by omega, by go_num, M⟩
      case measure => simp [intOf]; omega

theorem op_cases {b : Nat} (h : isOpB b = true) : b = 42 ∨ b = 92 ∨ b = 47 := by simp [isOpB] at h; omega

set_option maxRecDepth 100000 in
set_option maxHeartbeats 1000000 in
theorem l03Apply_any (n : Int) (t : Nat → Nat → Nat) (hs : IsSq n t) (b a c : Nat) (hb : isOpB b = true) (ha : (a : Int) < n) (hc : (c : Int) < n) (w : World) :
    Calls Tryd.prog 60 #[.agg (sqs n t), .int .u8 (b : Int), .int .u8 (a : Int), .int .u8 (c : Int)] w fun e w' => e = .returned (.int .u8 (apB t b a c : Nat)) ∧ Below w.heap.size w w' := by
  have M := Mm.start no w
  have hn := hs.hi
  have HL := fun w1 => l01Left_any n t hs a c ha hc w1
  have HR := fun w1 => l01Right_any n t hs a c ha hc w1
  have a10 : a < 10 := by omega
  have c10 : c < 10 := by omega
  have a10' : (a : Int) < 10 := by omega
  have c10' : (c : Int) < 10 := by omega
  have hg := sqs_get (n := n) (t := t) a10 c10
  have HB := op_cases hb
  clear hb
  rcases HB with rfl | rfl | rfl
  · have hA : apB t 42 a c = t a c := rfl
    rw [hA]
    generalize t a c = v at hg
    go_enter Tryd.func60, Tryd.ntmps60
    go_wp2_with (first | ((with_reducible apply wpM_box' M 31 (sqs n t)); rfl; exact ⟨rfl, rfl⟩; clear M; (try clear C); intro bq w9 h_bq M; have C := M.ruleAll; simp only [Go.Proofs.YtpmemoabkbmljaaDoor.ruleAll] at C))
    go_ret
    exact ⟨rfl, M.below⟩
  · have hA : apB t 92 a c = lq t a c := rfl
    rw [hA]
    generalize lq t a c = v at HL
    clear hg
    go_enter Tryd.func60, Tryd.ntmps60
    go_wp2_with (first | ((with_reducible apply wpM_box' M 31 (sqs n t)); rfl; exact ⟨rfl, rfl⟩; clear M; (try clear C); intro bq w9 h_bq M; have C := M.ruleAll; simp only [Go.Proofs.YtpmemoabkbmljaaDoor.ruleAll] at C) | ((with_reducible apply wpM_lda' M 0 31 0 (sqs n t)); rfl; rfl; rfl; exact ⟨rfl, inf_sqs.trans (congrArg some (sqs_size ..).symm), _, und_sqs, rfl⟩; exact whole_of rfl) | (go_at_call 71; ((with_reducible refine (HL _).mono ?_); rintro e w1 ⟨rfl, hb⟩; have hsz := M.size; (try (have G9 := G.later hb; clear G; have G := G9; clear G9)); have M9 := M.later hb; clear M; (try clear C); have M := M9; clear M9; have C := M.ruleAll; simp only [Go.Proofs.YtpmemoabkbmljaaDoor.ruleAll] at C)))
    go_ret
    exact ⟨rfl, M.below⟩
  · have hA : apB t 47 a c = lq (fun x y => t y x) c a := rfl
    rw [hA]
    generalize lq (fun x y => t y x) c a = v at HR
    clear hg
    go_enter Tryd.func60, Tryd.ntmps60
    go_wp2_with (first | ((with_reducible apply wpM_box' M 31 (sqs n t)); rfl; exact ⟨rfl, rfl⟩; clear M; (try clear C); intro bq w9 h_bq M; have C := M.ruleAll; simp only [Go.Proofs.YtpmemoabkbmljaaDoor.ruleAll] at C) | ((with_reducible apply wpM_lda' M 0 31 0 (sqs n t)); rfl; rfl; rfl; exact ⟨rfl, inf_sqs.trans (congrArg some (sqs_size ..).symm), _, und_sqs, rfl⟩; exact whole_of rfl) | (go_at_call 70; ((with_reducible refine (HR _).mono ?_); rintro e w1 ⟨rfl, hb⟩; have hsz := M.size; (try (have G9 := G.later hb; clear G; have G := G9; clear G9)); have M9 := M.later hb; clear M; (try clear C); have M := M9; clear M9; have C := M.ruleAll; simp only [Go.Proofs.YtpmemoabkbmljaaDoor.ruleAll] at C)))
    go_ret
    exact ⟨rfl, M.below⟩
end Go.Proofs.YtpmemoabkbmljaaDoor

