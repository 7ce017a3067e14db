/- The reference's checks of squares and loops, and what lays a square: contracts. -/
import Derived.Test.YtinjjaoikofkdaaC2
import Derived.Test.YtinjjaoikofkdaaRT
namespace Go.Proofs.Ytinjjaoikofkdaa
set_option linter.unusedSimpArgs false
set_option linter.unusedVariables false
open Go.RowKit

/-! ### '==' on ten bytes -/
theorem inf_u8' : (Try.prog.info? 5).isSome = true := by kernel_rfl
theorem inf_u8 : ∃ i, Try.prog.info? 5 = some i := Option.isSome_iff_exists.1 inf_u8'
theorem und_u8 : Try.prog.underlying 5 = some (.int .u8) := by kernel_rfl

/-- Two rows of ten bytes are the same. -/
def eqb (f g : Nat → Nat) : Bool := decide (∀ i ∈ List.range 10, f i = g i)
theorem eqb_true {f g : Nat → Nat} : eqb f g = true ↔ ∀ i, i < 10 → f i = g i := by simp [eqb]

theorem part_u8 (f : Nat → Nat) (i : Nat) (hi : i < 10) (w : World) : (part 5 (bys f) (i * Try.prog.cellsOf 5)).run Try.prog w = .ok (.int .u8 (f i)) w := by
  have hc : Try.prog.cellsOf 5 = 1 := by kernel_rfl
  have ha : (isAgg 5).run Try.prog w = .ok false w := by
    unfold isAgg
    rw [Sem.run_bind, run_underlying und_u8 w]
    rfl
  rw [hc, Nat.mul_one]
  unfold part
  rw [Sem.run_bind, ha]
  simp [bys_get hi]

theorem eqItems_bys (d : Nat) (f g : Nat → Nat) (w : World) : ∀ l : List Nat, (∀ i ∈ l, i < 10) →
    (Op.eqItems (d + 1) 5 (Try.prog.cellsOf 5) (bys f) (bys g) l).run Try.prog w = .ok (decide (∀ i ∈ l, f i = g i)) w
  | [], _ => by simp [Op.eqItems]
  | i :: l, h => by
    have ih := eqItems_bys d f g w l fun j hj => h j (List.mem_cons_of_mem _ hj)
    simp only [Op.eqItems, Sem.run_bind, part_u8 f i (h i List.mem_cons_self) w, part_u8 g i (h i List.mem_cons_self) w, Result.andThen_ok, run_equalIn_int w d 5 .u8 .u8 _ _ und_u8]
    by_cases e : f i = g i
    · have e' : ((f i : Int) == (g i : Int)) = true := by simp [e]
      rw [e']
      simp only [Bool.not_true, Bool.false_eq_true, if_false, ih]
      simp [e]
    · have e' : ((f i : Int) == (g i : Int)) = false := by simp; omega
      rw [e']
      simp [e]

theorem equal_bys (d : Nat) (T : Nat) (hu : Try.prog.underlying T = some (.array 10 5)) (f g : Nat → Nat) (w : World) : (Op.equalIn (d + 2) T (.agg (bys f)) (.agg (bys g))).run Try.prog w = .ok (eqb f g) w := by
  obtain ⟨i, hi⟩ := inf_u8
  rw [run_equalIn_array w (d + 1) (bys f) (bys g) hu hi, eqItems_bys d f g w _ (by simp)]
  rfl
theorem neq_bys (f g : Nat → Nat) (w : World) : (binOp .neq 36 (.agg (bys f)) (.agg (bys g))).run Try.prog w = .ok (.bool (!eqb f g)) w := by
  rw [run_neq_struct, equal_bys 9998 _ und_bys f g w]; rfl
theorem eql_bys (f g : Nat → Nat) (w : World) : (binOp .eql 36 (.agg (bys f)) (.agg (bys g))).run Try.prog w = .ok (.bool (eqb f g)) w := by
  rw [run_eql_struct, equal_bys 9998 _ und_bys f g w]; rfl
theorem egt_bys : Try.prog.eqGuardType Try.prog.depth 36 = false := by kernel_rfl
theorem build_bys (w : World) : (Instr.build 36 #[]).run Try.prog w = .ok (.agg (bys fun _ => 0)) w := by kernel_rfl

set_option maxRecDepth 100000 in
set_option maxHeartbeats 1000000 in
theorem l01Rows_any (n : Int) (t : Nat → Nat → Nat) (w : World) (hby : Byt2 t) (hn0 : 1 ≤ n) (hn1 : n ≤ 10) :
    Calls Try.prog 84 #[.agg (tbs t), .int .i64 n] w fun e w' => e = .returned (.bool (isRw n t)) ∧ Below w.heap.size w w' := by
  go_enter Try.func84, Try.ntmps84
  go_wp2
  go_loopw [4, 5] (fun _ i wr => ∃ k : Nat, k ≤ 10 ∧ i = .int .i64 k ∧ Below w.heap.size w wr ∧ blk wr w.heap.size (tbs t) 41 ∧
    (∀ x, x < k → (x : Int) < n → IsPm n (t x)) ∧ (∀ x y, x < k → y < 10 → n ≤ (x : Int) → t x y = 0)) (fun _ i _ => (10 - intOf i).toNat)
  case atStart =>
    exact ⟨0, by omega, rfl, (Below.refl _ _).alloc (by simp) _, blk_new _ _ _ _ rfl, fun _ h => absurd h (by omega), fun _ _ h => absurd h (by omega)⟩
  case round =>
    obtain ⟨k, hk, rfl, hB, b1, hr, hz⟩ := hrel
    have HR := Hid2.mk hr
    have HZ := Hid2.mk hz
    clear hr hz
    by_cases hlt : k < 10
    · by_cases hkn : (k : Int) < n
      · cases hp : isPm n (t k) with
        | true =>
          go_wp2_with (first | (refine wpList_load_part_g 36 _ rfl rfl _ _ rfl (bys (t k)) _ und_bys rfl inf_bys (cells_of_blk b1 _ _ (tbs_row hlt)) ?_) | (go_at_call 101; ((with_reducible refine (l01Perm_any _ _ _ (hby.row hlt)).mono ?_); rintro e w1 ⟨rfl, hb⟩)))
          go_roundw
          case rel =>
            refine ⟨k + 1, by omega, by go_num, below_self hB hb, b1.later hb, fun x hx hxn => ?_, fun x y hx hy hxn => ?_⟩
            · by_cases h : x = k
              · subst h; exact isPm_true.1 hp
              · exact HR.out x (by omega) hxn
            · exact HZ.out x y (by omega) hy hxn
          case measure => simp [intOf]; omega
        | false =>
          have hF : isRw n t = false := isRw_false.2 fun h => by have := isPm_true.2 (h.row k hlt hkn); rw [hp] at this; cases this
          go_wp2_with (first | (refine wpList_load_part_g 36 _ rfl rfl _ _ rfl (bys (t k)) _ und_bys rfl inf_bys (cells_of_blk b1 _ _ (tbs_row hlt)) ?_) | (go_at_call 101; ((with_reducible refine (l01Perm_any _ _ _ (hby.row hlt)).mono ?_); rintro e w1 ⟨rfl, hb⟩)))
          go_ret
          exact ⟨by first | rfl | exact ret_b hF, below_self hB hb⟩
      · cases hp : eqb (t k) (fun _ => 0) with
        | true =>
          go_wp2_with (first | (refine wpList_load_part_g 36 _ rfl rfl _ _ rfl (bys (t k)) _ und_bys rfl inf_bys (cells_of_blk b1 _ _ (tbs_row hlt)) ?_) | (refine wpList_agg_g .neq 36 _ _ _ rfl rfl (bys (t k)) (bys fun _ => 0) rfl rfl egt_bys _ ((neq_bys _ _ _).trans (by rw [hp])) ?_))
          go_roundw
          case rel =>
            refine ⟨k + 1, by omega, by go_num, hB, b1, fun x hx hxn => HR.out x (by omega) hxn, fun x y hx hy hxn => ?_⟩
            by_cases h : x = k
            · subst h; exact eqb_true.1 hp y hy
            · exact HZ.out x y (by omega) hy hxn
          case measure => simp [intOf]; omega
        | false =>
          have hF : isRw n t = false := isRw_false.2 fun h => by
            have : eqb (t k) (fun _ => 0) = true := eqb_true.2 fun y hy => h.zero k y hlt hy (by omega)
            rw [hp] at this; cases this
          go_wp2_with (first | (refine wpList_load_part_g 36 _ rfl rfl _ _ rfl (bys (t k)) _ und_bys rfl inf_bys (cells_of_blk b1 _ _ (tbs_row hlt)) ?_) | (refine wpList_agg_g .neq 36 _ _ _ rfl rfl (bys (t k)) (bys fun _ => 0) rfl rfl egt_bys _ ((neq_bys _ _ _).trans (by rw [hp])) ?_))
          go_ret
          exact ⟨by first | rfl | exact ret_b hF, hB⟩
    · obtain rfl : k = 10 := by omega
      have hT : isRw n t = true := isRw_true.2 ⟨HR.out, HZ.out⟩
      go_wp2
      go_ret
      exact ⟨by first | rfl | exact ret_b hT, hB⟩

set_option maxRecDepth 100000 in
set_option maxHeartbeats 1000000 in
theorem l01Is_any (n : Int) (t : Nat → Nat → Nat) (w : World) (hby : Byt2 t) :
    Calls Try.prog 68 #[.agg (sqs n t)] w fun e w' => e = .returned (.bool (isSq n t)) ∧ Below w.heap.size w w' := by
  have b1 := blk_new w (sqs n t) 43 w.heap.size rfl
  have hB : Below w.heap.size w (w.alloc (.cells (sqs n t) 43)) := (Below.refl _ _).alloc (by simp) _
  by_cases hn : 1 ≤ n ∧ n ≤ 10
  · obtain ⟨hn1, hn2⟩ := hn
    cases hr : isRw n t with
    | false =>
      have hF : isSq n t = false := isSq_false.2 fun h => by have := isRw_true.2 h.rows; rw [hr] at this; cases this
      go_enter Try.func68, Try.ntmps68
      go_wp2
      apply wp_region_text (fun w' => Below w.heap.size w w' ∧ blk w' w.heap.size (sqs n t) 43) (by kernel_rfl) (by kernel_rfl) (⟨hB.drew, b1.drew⟩); (repeat (first | exact wpText_nil | (apply wpText_cons; (intro w2 hS; obtain ⟨hB2, b2⟩ := hS; have c0 := b2.cell 0 _ (sqs_order n t); go_wp2_with (first | (go_at_call 83; ((with_reducible refine (l01In_b _ _ _ true (by simp; omega) _).mono ?_); rintro e w1 ⟨rfl, rfl⟩)) | (refine wpList_load_part_g 41 _ rfl rfl _ _ rfl (tbs t) _ und_tbl rfl inf_tbl (cells_of_blk b2 _ _ sqs_tbs) ?_) | (go_at_call 84; ((with_reducible refine (l01Rows_any n t _ hby hn1 hn2).mono ?_); rintro e w1 ⟨rfl, hb⟩))); (first | exact ⟨rfl, rfl, hB2, b2⟩ | exact ⟨rfl, rfl, below_self hB2 hb, b2.later hb⟩)); rfl)))
      intro w' hS
      go_wp2
      go_ret
      exact ⟨by first | rfl | exact ret_b hF, hS.1⟩
    | true =>
      cases hr2 : isRw n (fun x y => t y x) with
      | false =>
        have hF : isSq n t = false := isSq_false.2 fun h => by have := isRw_true.2 h.cols; rw [hr2] at this; cases this
        go_enter Try.func68, Try.ntmps68
        go_wp2
        apply wp_region_text (fun w' => Below w.heap.size w w' ∧ blk w' w.heap.size (sqs n t) 43) (by kernel_rfl) (by kernel_rfl) (⟨hB.drew, b1.drew⟩); (repeat (first | exact wpText_nil | (apply wpText_cons; (intro w2 hS; obtain ⟨hB2, b2⟩ := hS; have c0 := b2.cell 0 _ (sqs_order n t); go_wp2_with (first | (go_at_call 83; ((with_reducible refine (l01In_b _ _ _ true (by simp; omega) _).mono ?_); rintro e w1 ⟨rfl, rfl⟩)) | (refine wpList_load_part_g 41 _ rfl rfl _ _ rfl (tbs t) _ und_tbl rfl inf_tbl (cells_of_blk b2 _ _ sqs_tbs) ?_) | (go_at_call 84; ((with_reducible refine (l01Rows_any n t _ hby hn1 hn2).mono ?_); rintro e w1 ⟨rfl, hb⟩)) | (go_at_call 84; ((with_reducible refine (l01Rows_any n (fun x y => t y x) _ hby.turn hn1 hn2).mono ?_); rintro e w1 ⟨rfl, hb⟩)) | (go_at_call 85; ((with_reducible refine (l01Turned_any _ _).mono ?_); rintro e w1 ⟨rfl, hb⟩))); (first | exact ⟨rfl, rfl, hB2, b2⟩ | exact ⟨rfl, rfl, below_self hB2 hb, b2.later hb⟩)); rfl)))
        intro w' hS
        go_wp2
        go_ret
        exact ⟨by first | rfl | exact ret_b hF, hS.1⟩
      | true =>
        have hT : isSq n t = true := isSq_true.2 ⟨hn1, hn2, isRw_true.1 hr, isRw_true.1 hr2⟩
        go_enter Try.func68, Try.ntmps68
        go_wp2
        apply wp_region_text (fun w' => Below w.heap.size w w' ∧ blk w' w.heap.size (sqs n t) 43) (by kernel_rfl) (by kernel_rfl) (⟨hB.drew, b1.drew⟩); (repeat (first | exact wpText_nil | (apply wpText_cons; (intro w2 hS; obtain ⟨hB2, b2⟩ := hS; have c0 := b2.cell 0 _ (sqs_order n t); go_wp2_with (first | (go_at_call 83; ((with_reducible refine (l01In_b _ _ _ true (by simp; omega) _).mono ?_); rintro e w1 ⟨rfl, rfl⟩)) | (refine wpList_load_part_g 41 _ rfl rfl _ _ rfl (tbs t) _ und_tbl rfl inf_tbl (cells_of_blk b2 _ _ sqs_tbs) ?_) | (go_at_call 84; ((with_reducible refine (l01Rows_any n t _ hby hn1 hn2).mono ?_); rintro e w1 ⟨rfl, hb⟩)) | (go_at_call 84; ((with_reducible refine (l01Rows_any n (fun x y => t y x) _ hby.turn hn1 hn2).mono ?_); rintro e w1 ⟨rfl, hb⟩)) | (go_at_call 85; ((with_reducible refine (l01Turned_any _ _).mono ?_); rintro e w1 ⟨rfl, hb⟩))); (first | exact ⟨rfl, rfl, hB2, b2⟩ | exact ⟨rfl, rfl, below_self hB2 hb, b2.later hb⟩)); rfl)))
        intro w' hS
        go_wp2
        go_ret
        exact ⟨by first | rfl | exact ret_b hT, hS.1⟩
  · have hF : isSq n t = false := isSq_false.2 fun h => hn ⟨h.lo, h.hi⟩
    go_enter Try.func68, Try.ntmps68
    go_wp2
    apply wp_region_text (fun w' => Below w.heap.size w w' ∧ blk w' w.heap.size (sqs n t) 43) (by kernel_rfl) (by kernel_rfl) (⟨hB.drew, b1.drew⟩); (repeat (first | exact wpText_nil | (apply wpText_cons; (intro w2 hS; obtain ⟨hB2, b2⟩ := hS; have c0 := b2.cell 0 _ (sqs_order n t); go_wp2_with (first | (go_at_call 83; ((with_reducible refine (l01In_b _ _ _ false (by simp; omega) _).mono ?_); rintro e w1 ⟨rfl, rfl⟩))); (first | exact ⟨rfl, rfl, hB2, b2⟩)); rfl)))
    intro w' hS
    go_wp2
    go_ret
    exact ⟨by first | rfl | exact ret_b hF, hS.1⟩

end Go.Proofs.Ytinjjaoikofkdaa
