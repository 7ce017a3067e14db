/- The reference's checks of permutations, squares and loops: contracts. -/
import Derived.Test.YtinjjaoikofkdaaC1
import Derived.Test.YtinjjaoikofkdaaM
import Derived.StillTailTactics
namespace Go.Proofs.Ytinjjaoikofkdaa
set_option linter.unusedSimpArgs false
set_option linter.unusedVariables false
open Go.RowKit

theorem zero_b10 (w : World) : (zeroValue 143).run Try.prog w = .ok (.agg (bls fun _ => false)) w := by kernel_rfl
theorem und_b10 : Try.prog.underlying 143 = some (.array 10 4) := by kernel_rfl
theorem inf_b10 : (Try.prog.info? 143).map (·.size) = some 10 := by kernel_rfl
theorem build_b10 (w : World) : (Instr.build 143 #[]).run Try.prog w = .ok (.agg (bls fun _ => false)) w := by kernel_rfl

theorem build_tbl (w : World) : (Instr.build 41 #[]).run Try.prog w = .ok (.agg (tbs fun _ _ => 0)) w := by kernel_rfl

theorem l01In_b (n lo hi : Int) (b : Bool) (hb : b = true ↔ lo ≤ n ∧ n ≤ hi) (w : World) :
    Calls Try.prog 83 #[.int .i64 n, .int .i64 lo, .int .i64 hi] w fun e w' => e = .returned (.bool b) ∧ w = w' := by
  by_cases h1 : lo ≤ n <;> by_cases h2 : n ≤ hi
  all_goals
    have hb' : b = (decide (lo ≤ n) && decide (n ≤ hi)) := by cases b <;> simp_all
    subst hb'
    clear hb
    go_enter Try.func83, Try.ntmps83
    go_wp2
    go_ret
    exact ⟨by simp [h1, h2], rfl⟩

set_option maxRecDepth 100000 in
set_option maxHeartbeats 1000000 in
theorem l01Perm_any (n : Int) (p : Nat → Nat) (w : World) (hby : Byt p) :
    Calls Try.prog 101 #[.agg (bys p), .int .i64 n] w fun e w' => e = .returned (.bool (isPm n p)) ∧ Below w.heap.size w w' := by
  have hz := zero_b10
  have hbd := build_b10
  by_cases hn : 1 ≤ n ∧ n ≤ 10
  · obtain ⟨hn1, hn2⟩ := hn
    go_enter Try.func101, Try.ntmps101
    go_wp2_with (first | (go_at_call 83; ((with_reducible refine (l01In_b _ _ _ true (by simp; omega) _).mono ?_); rintro e w1 ⟨rfl, rfl⟩)) | (refine wpList_store_row rfl 143 _ _ rfl _ rfl _ rfl inf_b10 _ _ (blk_new _ _ _ _ (by simp)) (by simp [bls_size]) (flat_bls _) ?_))
    clear hz hbd
    go_loopw [4, 6] (fun _ i wr => ∃ k : Nat, k ≤ 10 ∧ i = .int .i64 k ∧ Below w.heap.size w wr ∧ blk wr w.heap.size (bys p) 70 ∧
      ∃ met : Nat → Bool, blk wr (w.heap.size + 1) (bls met) 143 ∧ (∀ v, met v = true ↔ ∃ j, j < k ∧ (j : Int) < n ∧ p j = v) ∧ PmTo n p k) (fun _ i _ => (10 - intOf i).toNat)
    case atStart =>
      refine ⟨0, by omega, rfl, ?_, ?_, _, blk_put (blk_new _ _ _ _ (by simp)) _, ?_, PmTo.start n p⟩
      · exact below_put (((Below.refl _ _).alloc (by simp) _).alloc (by simp) _) (by omega) _ _
      · exact blk_put_other ((blk_new _ _ _ _ rfl).alloc _) (by omega)
      · simp
    case round =>
      obtain ⟨k, hk, rfl, hB, b1, met, b2, hmet, hto⟩ := hrel
      by_cases hlt : k < 10
      · have c1 := b1.cell k _ (bys_get hlt)
        have hb256 := hby.at_ k hlt
        by_cases hn3 : n ≤ (k : Int)
        · by_cases hp : p k = 0
          · go_wp2
            go_roundw
            case rel => exact ⟨k + 1, by omega, by go_num, hB, b1, met, b2, by
              intro v; rw [hmet]
              constructor
              · rintro ⟨j, h1, h2, h3⟩; exact ⟨j, by omega, h2, h3⟩
              · rintro ⟨j, h1, h2, h3⟩; exact ⟨j, by omega, h2, h3⟩, hto.behind hn3 hp⟩
            case measure => simp [intOf]; omega
          · have hf : isPm n p = false := isPm_false.2 fun h => hp (h.zero k hlt hn3)
            go_wp2
            go_ret
            exact ⟨by first | rfl | exact ret_b hf, hB⟩
        · by_cases hp : (p k : Int) < n
          · have c2 := b2.cell (p k) _ (bls_get (by omega))
            have f2 := b2.free (p k)
            cases hm : met (p k) with
            | true =>
              have hf : isPm n p = false := isPm_false.2 fun h => by
                obtain ⟨j, h1, h2, h3⟩ := (hmet _).1 hm
                exact h.inj k j hlt h1 (by omega) h3.symm
              rw [hm] at c2
              go_wp2
              go_ret
              exact ⟨by first | rfl | exact ret_b hf, hB⟩
            | false =>
              rw [hm] at c2
              go_wp2
              go_roundw
              case rel => exact ⟨k + 1, by omega, by go_num, hB.setCell (by simp) _, b1.other _ _ (by omega), _, (b2.set (p k) (.bool true)).eq (bls_set _ _ _), by
                intro v
                split
                · rename_i h; exact ⟨fun _ => ⟨k, by omega, by omega, h.symm⟩, fun _ => rfl⟩
                · rename_i h; rw [hmet]
                  constructor
                  · rintro ⟨j, h1, h2, h3⟩; exact ⟨j, by omega, h2, h3⟩
                  · rintro ⟨j, h1, h2, h3⟩; exact ⟨j, by
                      by_cases e : j = k
                      · subst e; exact absurd h3.symm h
                      · omega, h2, h3⟩, hto.more (by omega) hp fun j hj h => by
                  have := (hmet (p k)).2 ⟨j, hj, by omega, h⟩
                  rw [hm] at this; cases this⟩
              case measure => simp [intOf]; omega
          · have hf : isPm n p = false := isPm_false.2 fun h => hp (h.lt k hlt (by omega))
            go_wp2
            go_ret
            exact ⟨by first | rfl | exact ret_b hf, hB⟩
      · obtain rfl : k = 10 := by omega
        go_wp2
        go_ret
        exact ⟨ret_b (hto.all hn1 hn2), hB⟩
  · have hf : isPm n p = false := isPm_false.2 fun h => hn ⟨h.lo, h.hi⟩
    go_enter Try.func101, Try.ntmps101
    go_wp2_with (first | (go_at_call 83; ((with_reducible refine (l01In_b _ _ _ false (by simp; omega) _).mono ?_); rintro e w1 ⟨rfl, rfl⟩)))
    go_ret
    exact ⟨ret_b (hf), (Below.refl _ _).alloc (Nat.le_refl _) _⟩

set_option maxRecDepth 100000 in
set_option maxHeartbeats 1000000 in
theorem l01Turned_any (t : Nat → Nat → Nat) (w : World) :
    Calls Try.prog 85 #[.agg (tbs t)] w fun e w' => e = .returned (.agg (tbs fun x y => t y x)) ∧ Below w.heap.size w w' := by
  have hz := zero_tbl
  have hbd := build_tbl
  go_enter Try.func85, Try.ntmps85
  go_wp2_with (first | (refine wpList_store_row rfl 41 _ _ rfl _ rfl _ rfl inf_tbl _ _ (blk_new _ _ _ _ (by simp)) (by simp [tbs_size]) (flat_tbs _) ?_))
  clear hz hbd
  go_loopw [4, 5] (fun i _ wr => ∃ k : Nat, k ≤ 10 ∧ i = .int .i64 k ∧ Below w.heap.size w wr ∧ blk wr w.heap.size (tbs t) 41 ∧ blk wr (w.heap.size + 1) (tbs fun _ _ => 0) 41 ∧
    blk wr (w.heap.size + 1 + 1) (tbs fun x y => if y < k then t y x else 0) 41) (fun i _ _ => (10 - intOf i).toNat)
  case atStart =>
    refine ⟨0, by omega, rfl, ?_, ?_, ?_, ?_⟩
    · exact below_put ((((Below.refl _ _).alloc (by simp) _).alloc (by simp) _).alloc (by simp; omega) _) (by omega) _ _
    · exact blk_put_other (((blk_new _ _ _ _ (by simp)).alloc _).alloc _) (by omega)
    · exact blk_put_other ((blk_new _ _ _ _ (by simp)).alloc _) (by omega)
    · exact blk_put (blk_new _ _ _ _ (by simp)) _
  case round =>
    obtain ⟨k, hk, rfl, hB, b1, b2, b3⟩ := hrel
    by_cases hlt : k < 10
    · have hd : decide ((k : Int) < 10) = true := by simp; omega
      go_wp2
      obtain ⟨wo, rfl⟩ : ∃ wo : World, wo = wr := ⟨_, rfl⟩
      go_loopw [5] (fun j wr => ∃ l : Nat, l ≤ 10 ∧ j = .int .i64 l ∧ Below w.heap.size w wr ∧ blk wr w.heap.size (tbs t) 41 ∧ blk wr (w.heap.size + 1) (tbs fun _ _ => 0) 41 ∧
        blk wr (w.heap.size + 1 + 1) (tbs fun x y => if y < k ∨ y = k ∧ x < l then t y x else 0) 41) (fun j _ => (10 - intOf j).toNat)
      case atStart =>
        exact ⟨0, by omega, rfl, hB, b1, b2, by simpa using b3⟩
      case round =>
        obtain ⟨l, hl, rfl, hB, b1, b2, b3⟩ := hrel
        by_cases hlt2 : l < 10
        · have c1 := b1.cell _ _ (tbs_get hlt hlt2)
          have c3 := b3.cell _ _ (tbs_get hlt2 hlt)
          have f3 := b3.free (l * 10 + k)
          go_wp2
          have hk' : (k : Int) < 10 := by omega
          have hl' : (l : Int) < 10 := by omega
          go_still_tail 9, (by kernel_rfl)
          go_wp2
          go_roundw
          case rel => exact ⟨l + 1, by omega, by go_num, (hB.setCell (by simp; omega) _).drew, (b1.other _ _ (by omega)).drew, (b2.other _ _ (by omega)).drew, (b3.set _ _).drew.eq (by
            rw [tbs_set hlt2 hlt]
            refine tbs_ext fun i j hi hj => ?_
            by_cases h : i = l ∧ j = k
            · obtain ⟨rfl, rfl⟩ := h; simp
            · rw [if_neg h]
              by_cases h2 : j < k ∨ j = k ∧ i < l
              · rw [if_pos h2, if_pos (by omega)]
              · rw [if_neg h2, if_neg (by omega)])⟩
          case measure => simp [intOf]; omega
        · obtain rfl : l = 10 := by omega
          go_wp2
          go_roundw
          case rel => exact ⟨k + 1, by omega, by go_num, hB, b1, b2, b3.eq (by
            refine tbs_ext fun i j hi hj => ?_
            by_cases h2 : j < k ∨ j = k ∧ i < 10
            · rw [if_pos h2, if_pos (by omega)]
            · rw [if_neg h2, if_neg (by omega)])⟩
          case measure => simp [intOf]; omega
    · obtain rfl : k = 10 := by omega
      rw [tbs_ext (u := fun x y => t y x) (fun i j hi hj => by simp [hj])] at b3
      go_wp2_with (first | (refine wpList_load_part rfl 41 _ rfl _ _ rfl (tbs fun x y => t y x) _ und_tbl rfl inf_tbl (cells_of_blk0 b3) ?_) | (refine wpList_store_row rfl 41 _ _ rfl _ rfl _ rfl inf_tbl _ _ (b2) (by simp [tbs_size]) (flat_tbs _) ?_))
      refine bodyPost_ret (v := .agg (tbs fun x y => t y x)) (by exact results_part rfl _ _ _ _ _ _ rfl und_tbl rfl inf_tbl (cells_of_blk0 (blk_put b2 _))) rfl ?_
      exact ⟨rfl, below_put hB (by omega) _ _⟩
end Go.Proofs.Ytinjjaoikofkdaa
