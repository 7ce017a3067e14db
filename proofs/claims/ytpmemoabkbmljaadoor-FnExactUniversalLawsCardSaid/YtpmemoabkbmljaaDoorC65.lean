/- How far a variable runs, for the reference: a contract. -/
import Derived.Test.YtpmemoabkbmljaaDoorC64
namespace Go.Proofs.YtpmemoabkbmljaaDoor
set_option linter.unusedSimpArgs false
set_option linter.unusedVariables false
open Go Go.RowKit

set_option maxRecDepth 100000 in
set_option maxHeartbeats 2000000 in
theorem l03Range_any (n : Nat) (t : Nat → Nat → Nat) (hn1 : 1 ≤ n) (hn2 : n ≤ 10) (xs ys : List Nat) (h1 : xs.length ≤ 40) (h2 : ys.length ≤ 40) (b : Nat) (w : World) (p1 p2 : Option Addr) (c1 c2 : Nat) (r1 : rdq w p1 xs.length (bytF xs)) (r2 : rdq w p2 ys.length (bytF ys)) :
    Calls Tryd.prog 41 #[.agg (sqs n t), .agg (idV p1 c1 p2 c2 xs.length ys.length), .int .u8 (b : Int)] w fun e w' => e = .returned (.int .u8 (rngB n (elB xs) xs.length (elB ys) ys.length b : Nat)) ∧ Below w.heap.size w w' := by
  have M := Mm.start no w
  have so := sqs_order (n : Int) t
  have F1 := Hid2.mk (fun w1 (hb : Below w.heap.size w w1) => r1.later hb)
  have F2 := Hid2.mk (fun w1 (hb : Below w.heap.size w w1) => r2.later hb)
  have hI1 := idv_0 p1 c1 p2 c2 xs.length ys.length
  have hI2 := idv_1 p1 c1 p2 c2 xs.length ys.length
  generalize hV : idV p1 c1 p2 c2 xs.length ys.length = V at hI1 hI2 ⊢
  have hnI1 : (1 : Int) ≤ (n : Int) := by omega
  have hnI2 : (n : Int) ≤ 10 := by omega
  have HY := Hid2.mk (show occB (elB xs) xs.length b = true ∨ occB (elB ys) ys.length b = true → rngB n (elB xs) xs.length (elB ys) ys.length b = n from fun h => if_pos h)
  have HNO := Hid2.mk (show (∀ j, j < xs.length → elB xs j ≠ b) → (∀ j, j < ys.length → elB ys j ≠ b) → rngB n (elB xs) xs.length (elB ys) ys.length b = 1 from fun h1 h2 => if_neg (by
    rintro (h | h)
    · rw [occB, decide_eq_true_eq] at h; obtain ⟨k, hk, e⟩ := h; exact h1 k hk e
    · rw [occB, decide_eq_true_eq] at h; obtain ⟨k, hk, e⟩ := h; exact h2 k hk e))
  generalize rngB n (elB xs) xs.length (elB ys) ys.length b = res at HY HNO ⊢
  clear r1 r2 hV
  go_enter Tryd.func41, Tryd.ntmps41
  go_wp2_with (first | ((with_reducible apply wpM_box' M 31 (sqs n t)); rfl; exact ⟨rfl, rfl⟩; clear M; (try clear C); intro bq w9 h_bq M; have C := M.ruleAll; simp only [Go.Proofs.YtpmemoabkbmljaaDoor.ruleAll] at C) | ((with_reducible apply wpM_box' M 49 (V)); rfl; exact ⟨rfl, rfl⟩; clear M; (try clear C); intro bi w9 h_bi M; have C := M.ruleAll; simp only [Go.Proofs.YtpmemoabkbmljaaDoor.ruleAll] at C))
  go_loopw [7] (fun i wr => ∃ k : Nat, k ≤ xs.length ∧ i = .int .i64 (k : Int) ∧ (∀ j, j < k → elB xs j ≠ b) ∧ Mm no w wr [.box bi V 49, .box bq (sqs n t) 31]) (fun i _ => xs.length - (intOf i).toNat)
  case atStart => exact ⟨0, by omega, rfl, fun j h => by omega, M⟩
  case round =>
    obtain ⟨k, hk, rfl, hl, M9⟩ := hrel
    clear M; (try clear C)
    have M := M9
    clear M9
    have C := M.ruleAll; simp only [Go.Proofs.YtpmemoabkbmljaaDoor.ruleAll] at C
    have HL := Hid2.mk hl
    clear hl
    by_cases hlt : k < xs.length
    · have hlt' : (k : Int) < (xs.length : Int) := by omega
      obtain ⟨g, rfl, hrr⟩ := F1.out _ M.below (by omega)
      have hc0 : wr.cell? ⟨g, k, none⟩ = some (.int .u8 (elB xs k : Nat)) := hrr.at_ k hlt
      clear hrr
      by_cases e : elB xs k = b
      · have HR := Hid2.mk (HY.out (.inl (by rw [occB, decide_eq_true_eq]; exact ⟨k, hlt, e⟩)))
        rw [e] at hc0
        have hd : ((b : Int) == (b : Int)) = true := by simp
        go_wp2
        go_ret
        exact ⟨by rw [HR.out]; rfl, M.below⟩
      · have HN := Hid2.mk (show ∀ j, j < k + 1 → elB xs j ≠ b from fun j hj => if e2 : j = k then e2 ▸ e else HL.out j (by omega))
        have hd : ((elB xs k : Int) == (b : Int)) = false := neI e
        generalize elB xs k = v at hc0 hd
        go_wp2
        go_roundw
        case rel => exact ⟨k + 1, by omega, by go_num, HN.out, M⟩
        case measure => simp [intOf]; omega
    · obtain rfl : k = xs.length := by omega
      have hge : decide ((xs.length : Int) < (xs.length : Int)) = false := by simp
      go_wp2
      obtain ⟨wo, rfl⟩ : ∃ wo : World, wo = wr := ⟨_, rfl⟩
      clear hge
      go_loopw [8] (fun i wr => ∃ k : Nat, k ≤ ys.length ∧ i = .int .i64 (k : Int) ∧ (∀ j, j < k → elB ys j ≠ b) ∧ Mm no w wr [.box bi V 49, .box bq (sqs n t) 31]) (fun i _ => ys.length - (intOf i).toNat)
      case atStart => exact ⟨0, by omega, rfl, fun j h => by omega, M⟩
      case round =>
        obtain ⟨k, hk, rfl, hl, M9⟩ := hrel
        clear M; (try clear C)
        have M := M9
        clear M9
        have C := M.ruleAll; simp only [Go.Proofs.YtpmemoabkbmljaaDoor.ruleAll] at C
        have HL2 := Hid2.mk hl
        clear hl
        by_cases hlt : k < ys.length
        · have hlt' : (k : Int) < (ys.length : Int) := by omega
          obtain ⟨g, rfl, hrr⟩ := F2.out _ M.below (by omega)
          have hc0 : wr.cell? ⟨g, k, none⟩ = some (.int .u8 (elB ys k : Nat)) := hrr.at_ k hlt
          clear hrr
          by_cases e : elB ys k = b
          · have HR := Hid2.mk (HY.out (.inr (by rw [occB, decide_eq_true_eq]; exact ⟨k, hlt, e⟩)))
            rw [e] at hc0
            have hd : ((b : Int) == (b : Int)) = true := by simp
            go_wp2
            go_ret
            exact ⟨by rw [HR.out]; rfl, M.below⟩
          · have HN := Hid2.mk (show ∀ j, j < k + 1 → elB ys j ≠ b from fun j hj => if e2 : j = k then e2 ▸ e else HL2.out j (by omega))
            have hd : ((elB ys k : Int) == (b : Int)) = false := neI e
            generalize elB ys k = v at hc0 hd
            go_wp2
            go_roundw
            case rel => exact ⟨k + 1, by omega, by go_num, HN.out, M⟩
            case measure => simp [intOf]; omega
        · obtain rfl : k = ys.length := by omega
          have hge : ¬ ((ys.length : Int) < (ys.length : Int)) := by omega
          have HR := Hid2.mk (HNO.out HL.out HL2.out)
          go_wp2
          go_ret
          exact ⟨by rw [HR.out]; rfl, M.below⟩
end Go.Proofs.YtpmemoabkbmljaaDoor
