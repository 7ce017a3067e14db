/- The reference's closing of a part: a contract. -/
import Derived.Test.YtinjjaoikofkdaaK4
import Derived.Test.YtinjjaoikofkdaaRT
namespace Go.Proofs.Ytinjjaoikofkdaa
set_option linter.unusedSimpArgs false
set_option linter.unusedVariables false
open Go Go.RowKit

set_option maxRecDepth 100000 in
set_option maxHeartbeats 4000000 in
theorem l02Close_any (N : Nat) (t u : Nat → Nat → Nat) (h0 : 1 ≤ N) (h1 : N ≤ 10) (ht : ∀ x y : Nat, x < N → y < N → t x y < N) (hu : ∀ x y : Nat, x < N → y < N → u x y < N) :
    ∀ (K : Nat) (m : PM) (x y : Nat) (w : World), Va N m → x < N → y < N → um m.to N < K →
    Calls Try.prog 129 #[.agg (sqs (N : Int) t), .agg (sqs (N : Int) u), .agg (pms m), .int .i64 (x : Int), .int .i64 (y : Int)] w fun e w' =>
      e = .returned (.tuple #[.agg (pms (closeF N t u K m x y).1), .bool (closeF N t u K m x y).2]) ∧ Below w.heap.size w w' := by
  intro K
  induction K with
  | zero => exact fun _ _ _ _ _ _ _ h => absurd h (by omega)
  | succ K IH0 =>
    intro m x y w hv hx hy hK
    have IH := Hid2.mk IH0
    clear IH0
    have HT := Hid2.mk ht
    have HU := Hid2.mk hu
    clear ht hu
    have hz := zero_l2m
    have q1 := (((blk_new w (sqs (N : Int) t) 43 w.heap.size rfl).alloc (.cells (sqs (N : Int) u) 43)).alloc (.cells (pms m) 147)).alloc (.cells (pms ⟨fun _ => 0, fun _ => 0, 0⟩) 147)
    have q2 := ((blk_new (w.alloc (.cells (sqs (N : Int) t) 43)) (sqs (N : Int) u) 43 (w.heap.size + 1) (by simp)).alloc (.cells (pms m) 147)).alloc (.cells (pms ⟨fun _ => 0, fun _ => 0, 0⟩) 147)
    have q3 := (blk_new ((w.alloc (.cells (sqs (N : Int) t) 43)).alloc (.cells (sqs (N : Int) u) 43)) (pms m) 147 (w.heap.size + 1 + 1) (by simp)).alloc (.cells (pms ⟨fun _ => 0, fun _ => 0, 0⟩) 147)
    have q4 := blk_new (((w.alloc (.cells (sqs (N : Int) t) 43)).alloc (.cells (sqs (N : Int) u) 43)).alloc (.cells (pms m) 147)) (pms ⟨fun _ => 0, fun _ => 0, 0⟩) 147 (w.heap.size + 1 + 1 + 1) (by simp)
    have qB : Below w.heap.size w ((((w.alloc (.cells (sqs (N : Int) t) 43)).alloc (.cells (sqs (N : Int) u) 43)).alloc (.cells (pms m) 147)).alloc (.cells (pms ⟨fun _ => 0, fun _ => 0, 0⟩) 147)) := by
      repeat (first | exact Below.refl _ _ | (refine below_alloc ?_ _))
    have c1 := q3.cell _ _ (pms_to m (i := x) (by omega))
    have c2 := q3.cell _ _ (pms_used m (i := y) (by omega))
    have f1 := q3.free x
    by_cases hc : 0 ≤ m.to x ∨ 0 < m.used y
    · have hF : closeF N t u (K + 1) m x y = (m, decide (m.to x = y)) := by simp only [closeF]; rw [if_pos hc]
      rw [hF]
      clear IH hF
      by_cases hA : 0 ≤ m.to x
      · go_enter Try.func129, Try.ntmps129
        go_wp2
        clear hz
        apply wp_region_new1 7 _ (fun g w' => Below w.heap.size w w' ∧ blk w' (w.heap.size + 1 + 1) (pms m) 147 ∧ blk w' (w.heap.size + 1 + 1 + 1) (bif g.isEmpty then pms ⟨fun _ => 0, fun _ => 0, 0⟩ else pms m) 147) (by kernel_rfl) (by kernel_rfl) rfl rfl; (case hS => exact ⟨by exact qB.drew, q3.drew, q4.drew⟩); (case ht => simp only [List.take_succ_cons, List.take_zero]; repeat (first | exact wpTextG_nil | (apply wpTextG_cons; (intro g w2 hS; obtain ⟨hB2, d3, d4⟩ := hS; have k1 := d3.cell _ _ (pms_to m (i := x) (by omega)); go_wp2_with (first | (refine wpList_load_part rfl 147 _ rfl (w.heap.size + 1 + 1) (0) rfl (pms m) _ und_l2m rfl inf_l2m (cells_of_blk0 d3) ?_)); (first | exact ⟨rfl, rfl, hB2, d3, d4⟩)); rfl))); (case hA => intro w2 hS; obtain ⟨hB2, d3, d4⟩ := hS; refine yield_store (ops := #[]) (by exact rfl) (by exact rfl) ?_ ; go_wp2_with (first | (refine wpList_store_row rfl 147 _ _ rfl _ rfl _ rfl inf_l2m _ _ (d4) (by simp [pms_size]) (flat_pms _) ?_)) ; exact ⟨below_put hB2 (by omega) _ _, blk_put_other d3 (by omega), blk_put d4 _⟩)
        (intro v9 w2 hS; simp only [List.drop_succ_cons, List.drop_zero]; obtain ⟨hB2, d3, d4⟩ := hS)
        go_wp2
        refine bodyPost_ret (v := .tuple #[.agg (pms m), .bool (decide (m.to x = y))]) (by exact results_part2 rfl _ _ _ _ (pms m) _ rfl und_l2m rfl inf_l2m (cells_of_blk0 (d4)) _ rfl) rfl ?_
        exact ⟨by first | rfl | (congr 1), hB2⟩
      · have hc' : m.to x < 0 := by omega
        have hc2 : 0 < m.used y := by omega
        go_enter Try.func129, Try.ntmps129
        go_wp2
        clear hz
        apply wp_region_new1 7 _ (fun g w' => Below w.heap.size w w' ∧ blk w' (w.heap.size + 1 + 1) (pms m) 147 ∧ blk w' (w.heap.size + 1 + 1 + 1) (bif g.isEmpty then pms ⟨fun _ => 0, fun _ => 0, 0⟩ else pms m) 147) (by kernel_rfl) (by kernel_rfl) rfl rfl; (case hS => exact ⟨by exact qB.drew, q3.drew, q4.drew⟩); (case ht => simp only [List.take_succ_cons, List.take_zero]; repeat (first | exact wpTextG_nil | (apply wpTextG_cons; (intro g w2 hS; obtain ⟨hB2, d3, d4⟩ := hS; have k1 := d3.cell _ _ (pms_to m (i := x) (by omega)); go_wp2_with (first | (refine wpList_load_part rfl 147 _ rfl (w.heap.size + 1 + 1) (0) rfl (pms m) _ und_l2m rfl inf_l2m (cells_of_blk0 d3) ?_)); (first | exact ⟨rfl, rfl, hB2, d3, d4⟩)); rfl))); (case hA => intro w2 hS; obtain ⟨hB2, d3, d4⟩ := hS; refine yield_store (ops := #[]) (by exact rfl) (by exact rfl) ?_ ; go_wp2_with (first | (refine wpList_store_row rfl 147 _ _ rfl _ rfl _ rfl inf_l2m _ _ (d4) (by simp [pms_size]) (flat_pms _) ?_)) ; exact ⟨below_put hB2 (by omega) _ _, blk_put_other d3 (by omega), blk_put d4 _⟩)
        (intro v9 w2 hS; simp only [List.drop_succ_cons, List.drop_zero]; obtain ⟨hB2, d3, d4⟩ := hS)
        go_wp2
        refine bodyPost_ret (v := .tuple #[.agg (pms m), .bool (decide (m.to x = y))]) (by exact results_part2 rfl _ _ _ _ (pms m) _ rfl und_l2m rfl inf_l2m (cells_of_blk0 (d4)) _ rfl) rfl ?_
        exact ⟨by first | rfl | (congr 1), hB2⟩
    · have hx0 : m.to x < 0 := by omega
      have hy0 : ¬ 0 < m.used y := fun h => hc (.inr h)
      have hy1 : m.used y ≤ 0 := by omega
      have hF : closeF N t u (K + 1) m x y = closeL (closeF N t u K) t u x y N 0 (m.add x y) := by simp only [closeF]; rw [if_neg hc]
      rw [hF]
      clear hF hc
      have hva := hv.add hx hy hx0 hy0
      have hum : um (m.add x y).to N < K := by
        have := um_add (f := m.to) (x := x) (y := (y : Int)) hx0 (by omega) N
        rw [if_pos hx] at this
        show um (fun i => if i = x then (y : Int) else m.to i) N < K
        omega
      have hsz := hv.size
      have hul := um_le m.to N
      obtain ⟨sz, hsz1⟩ : ∃ sz : Nat, m.size = sz := ⟨N - um m.to N, by omega⟩
      have a1 : ((pms m).setIfInBounds x (.int .i64 (y : Int)))[10 + y]? = some (.int .i64 (m.used y)) := by rw [pms_set_to m _ (by omega), pms_used _ (by omega)]
      have a2 : (((pms m).setIfInBounds x (.int .i64 (y : Int))).setIfInBounds (10 + y) (.int .i64 1))[20]? = some (.int .i64 (sz : Int)) := by rw [pms_set_to m _ (by omega), pms_set_used _ _ (by omega), pms_sz, ← hsz1]
      have a3 : (((pms m).setIfInBounds x (.int .i64 (y : Int))).setIfInBounds (10 + y) (.int .i64 1)).setIfInBounds 20 (.int .i64 ((sz : Int) + 1)) = pms (m.add x y) := by rw [← hsz1]; exact pms_add m (by omega) (by omega)
      have a0 := pms_to m (i := x) (by omega)
      clear q1 q2 q3 q4 qB
--LOOP
      go_enter Try.func129, Try.ntmps129
      go_wp2
      clear a0 a1 a2 a3 c1 c2 f1
      go_loopw [12, 13, 14, 15, 16] (fun i _ _ _ _ wr => ∃ (a : Nat) (M : PM), a ≤ N ∧ i = .int .i64 (a : Int) ∧ Below w.heap.size w wr ∧ blk wr w.heap.size (sqs (N : Int) t) 43 ∧ blk wr (w.heap.size + 1) (sqs (N : Int) u) 43 ∧ blk wr (w.heap.size + 1 + 1) (pms M) 147 ∧ blk wr (w.heap.size + 1 + 1 + 1) (pms ⟨fun _ => 0, fun _ => 0, 0⟩) 147 ∧ Va N M ∧ um M.to N < K ∧
        closeL (closeF N t u K) t u x y (N - a) a M = closeL (closeF N t u K) t u x y N 0 (m.add x y)) (fun i _ _ _ _ _ => N - (intOf i).toNat)
      case atStart =>
        refine ⟨0, m.add x y, by omega, rfl, ?_, ?_, ?_, ?_, ?_, hva, hum, rfl⟩
        · repeat (first | exact Below.refl _ _ | (refine below_alloc ?_ _))
        all_goals (repeat (first | (refine blk_new _ _ _ _ ?_; (simp; done)) | apply blk.alloc))
      case round =>
        obtain ⟨a, M, ha, rfl, hB, b1, b2, b3, b4, vM, uM, hR⟩ := hrel
        clear hva hum hv hK hx0 hy1 hy0
        have c0 := b1.cell 0 _ (sqs_order (N : Int) t)
        by_cases hlt : a < N
        · have hlt' : (a : Int) < (N : Int) := by omega
          rw [show N - a = (N - (a + 1)) + 1 by omega] at hR
          simp only [closeL] at hR
          have c1 := b3.cell _ _ (pms_to M (i := a) (by omega))
          by_cases hma : M.to a < 0
          · rw [if_pos hma] at hR
            go_wp2
            go_roundw
            case rel => exact ⟨a + 1, M, by omega, by go_num, hB, b1, b2, b3, b4, vM, uM, hR⟩
            case measure => simp [intOf]; omega
          · rw [if_neg hma] at hR
            obtain ⟨v, hv⟩ : ∃ v : Nat, M.to a = v := ⟨(M.to a).toNat, by omega⟩
            have hvN : v < N := by have := vM.lt a hlt; omega
            rw [hv] at c1 hR
            have hma0 : ¬ ((v : Int) < 0) := by omega
            simp only [Int.toNat_natCast] at hR
            have hxa := HT.out x a hx hlt
            have hax := HT.out a x hlt hx
            have hyv := HU.out y v hy hvN
            have hvy := HU.out v y hvN hy
            have hC1 := closeF_closes HT.out HU.out K M (t x a) (u y v) vM hxa hyv uM
            have hI1 := IH.out M (t x a) (u y v)
            generalize hR1 : closeF N t u K M (t x a) (u y v) = R1 at hR hC1 hI1
            go_wp2
            apply wp_region_new2 24 _ _ (fun g w' => Below w.heap.size w w' ∧ blk w' w.heap.size (sqs (N : Int) t) 43 ∧ blk w' (w.heap.size + 1) (sqs (N : Int) u) 43 ∧ blk w' (w.heap.size + 1 + 1) (pms M) 147 ∧ blk w' (w.heap.size + 1 + 1 + 1) (pms ⟨fun _ => 0, fun _ => 0, 0⟩) 147 ∧ Got g w' (w.heap.size + 1 + 1 + 1 + 1) (bif g.tail.isEmpty then pms ⟨fun _ => 0, fun _ => 0, 0⟩ else pms R1.1) 147) (by kernel_rfl) (by kernel_rfl) rfl rfl rfl rfl; (case hS => exact ⟨hB.drew, b1.drew, b2.drew, b3.drew, b4.drew, Got.none _ _ _ _⟩); (case ht => simp only [List.take_succ_cons, List.take_zero]; repeat (first | exact wpTextG_nil | (apply wpTextG_cons; (intro g w2 hS; obtain ⟨hB5, e1, e2, e3, e4, e5⟩ := hS; have k1 := e1.cell _ _ (sqs_get (n := (N : Int)) (t := t) (x := x) (y := a) (by omega) (by omega)) ; have k2 := e2.cell _ _ (sqs_get (n := (N : Int)) (t := u) (x := y) (y := v) (by omega) (by omega)) ; have k3 := (e3.cell _ _ (pms_to M (i := a) (by omega))).trans (by rw [hv]); go_wp2_with (first | (refine wpList_load_part rfl 43 _ rfl (w.heap.size) (0) rfl (sqs (N : Int) t) _ und_sqs rfl inf_sqs (cells_of_blk0 e1) ?_) | (refine wpList_load_part rfl 43 _ rfl (w.heap.size + 1) (0) rfl (sqs (N : Int) u) _ und_sqs rfl inf_sqs (cells_of_blk0 e2) ?_) | (refine wpList_load_part rfl 147 _ rfl (w.heap.size + 1 + 1) (0) rfl (pms M) _ und_l2m rfl inf_l2m (cells_of_blk0 e3) ?_) | (go_at_call 129; ((with_reducible refine (hI1 _ vM hxa hyv uM).mono ?_); rintro e w3 ⟨rfl, hb⟩))); (first | exact ⟨rfl, rfl, hB5, e1, e2, e3, e4, e5⟩ | exact ⟨rfl, rfl, below_self hB5 hb, e1.later hb, e2.later hb, e3.later hb, e4.later hb, e5.later hb⟩)); rfl))); (case hA => intro w2 hS; obtain ⟨hB5, e1, e2, e3, e4, e5⟩ := hS; have hl4 := e4.lt ; exact yield_alloc (by exact rfl) zero_l2m ⟨below_alloc hB5 _, e1.alloc _, e2.alloc _, e3.alloc _, e4.alloc _, Got.new _ _ (by omega)⟩); (case hA2 => intro v9 w2 hS; obtain ⟨hB5, e1, e2, e3, e4, e5⟩ := hS; obtain ⟨b9, rfl, hb, e7⟩ := e5 v9 [] rfl ; refine yield_store (ops := #[]) (by exact rfl) (by exact rfl) ?_ ; go_wp2_with (first | (refine wpList_store_row rfl 147 _ _ rfl _ rfl _ rfl inf_l2m _ _ (e7) (by simp [pms_size]) (flat_pms _) ?_)) ; exact ⟨below_put hB5 (by omega) _ _, blk_put_other e1 (by omega), blk_put_other e2 (by omega), blk_put_other e3 (by omega), blk_put_other e4 (by omega), Got.made hb (blk_put e7 _) _⟩)
            (intro v9 u9 w2 hS; simp only [List.drop_succ_cons, List.drop_zero]; obtain ⟨hB4, d1, d2, d3, d4, d5⟩ := hS)
            obtain ⟨b, rfl, hb, d6⟩ := d5 _ _ rfl
            have d7 : blk w2 b (pms R1.1) 147 := d6
            clear d5 d6 b1 b2 b3 b4 hB c0 c1
            cases h1 : R1.2 with
            | false =>
              rw [if_pos h1] at hR
              go_wp2_with (first | (refine wpList_load_part rfl 147 _ rfl (b) (0) rfl (pms R1.1) _ und_l2m rfl inf_l2m (cells_of_blk0 d7) ?_) | (refine wpList_store_row rfl 147 _ _ rfl _ rfl _ rfl inf_l2m _ _ (d4) (by simp [pms_size]) (flat_pms _) ?_))
              refine bodyPost_ret (v := .tuple #[.agg (pms R1.1), .bool false]) (by exact results_part2 rfl _ _ _ _ (pms R1.1) _ rfl und_l2m rfl inf_l2m (cells_of_blk0 (blk_put d4 _)) _ rfl) rfl ?_
              rw [← hR]
              exact ⟨by first | rfl | exact ret_two rfl rfl, below_put hB4 (by omega) _ _⟩
            | true =>
              rw [if_neg (by rw [h1]; simp)] at hR
              have hv1 := hC1.va h1
              have hu1 : um R1.1.to N < K := Nat.lt_of_le_of_lt (um_mono N fun z hz h => by rw [hC1.sub h1 z hz h]; exact h) uM
              have hC2 := closeF_closes HT.out HU.out K R1.1 (t a x) (u v y) hv1 hax hvy hu1
              have hI2 := IH.out R1.1 (t a x) (u v y)
              generalize hR2 : closeF N t u K R1.1 (t a x) (u v y) = R2 at hR hC2 hI2
              go_wp2
              apply wp_region_new2 24 _ _ (fun g w' => Below w.heap.size w w' ∧ blk w' w.heap.size (sqs (N : Int) t) 43 ∧ blk w' (w.heap.size + 1) (sqs (N : Int) u) 43 ∧ blk w' (w.heap.size + 1 + 1) (pms M) 147 ∧ blk w' (w.heap.size + 1 + 1 + 1) (pms ⟨fun _ => 0, fun _ => 0, 0⟩) 147 ∧ blk w' b (pms R1.1) 147 ∧ Got g w' (b + 1) (bif g.tail.isEmpty then pms ⟨fun _ => 0, fun _ => 0, 0⟩ else pms R2.1) 147) (by kernel_rfl) (by kernel_rfl) rfl rfl rfl rfl; (case hS => exact ⟨hB4.drew, d1.drew, d2.drew, d3.drew, d4.drew, d7.drew, Got.none _ _ _ _⟩); (case ht => simp only [List.take_succ_cons, List.take_zero]; repeat (first | exact wpTextG_nil | (apply wpTextG_cons; (intro g w2 hS; obtain ⟨hB5, e1, e2, e3, e4, e6, e5⟩ := hS; have k1 := e1.cell _ _ (sqs_get (n := (N : Int)) (t := t) (x := a) (y := x) (by omega) (by omega)) ; have k2 := e2.cell _ _ (sqs_get (n := (N : Int)) (t := u) (x := v) (y := y) (by omega) (by omega)) ; have k3 := (e3.cell _ _ (pms_to M (i := a) (by omega))).trans (by rw [hv]); go_wp2_with (first | (refine wpList_load_part rfl 43 _ rfl (w.heap.size) (0) rfl (sqs (N : Int) t) _ und_sqs rfl inf_sqs (cells_of_blk0 e1) ?_) | (refine wpList_load_part rfl 43 _ rfl (w.heap.size + 1) (0) rfl (sqs (N : Int) u) _ und_sqs rfl inf_sqs (cells_of_blk0 e2) ?_) | (refine wpList_load_part rfl 147 _ rfl (b) (0) rfl (pms R1.1) _ und_l2m rfl inf_l2m (cells_of_blk0 e6) ?_) | (go_at_call 129; ((with_reducible refine (hI2 _ hv1 hax hvy hu1).mono ?_); rintro e w3 ⟨rfl, hb⟩))); (first | exact ⟨rfl, rfl, hB5, e1, e2, e3, e4, e6, e5⟩ | exact ⟨rfl, rfl, below_self hB5 hb, e1.later hb, e2.later hb, e3.later hb, e4.later hb, e6.later hb, e5.later hb⟩)); rfl))); (case hA => intro w2 hS; obtain ⟨hB5, e1, e2, e3, e4, e6, e5⟩ := hS; have hl4 := e6.lt ; exact yield_alloc (by exact rfl) zero_l2m ⟨below_alloc hB5 _, e1.alloc _, e2.alloc _, e3.alloc _, e4.alloc _, e6.alloc _, Got.new _ _ (by omega)⟩); (case hA2 => intro v9 w2 hS; obtain ⟨hB5, e1, e2, e3, e4, e6, e5⟩ := hS; obtain ⟨b9, rfl, hb, e7⟩ := e5 v9 [] rfl ; refine yield_store (ops := #[]) (by exact rfl) (by exact rfl) ?_ ; go_wp2_with (first | (refine wpList_store_row rfl 147 _ _ rfl _ rfl _ rfl inf_l2m _ _ (e7) (by simp [pms_size]) (flat_pms _) ?_)) ; exact ⟨below_put hB5 (by omega) _ _, blk_put_other e1 (by omega), blk_put_other e2 (by omega), blk_put_other e3 (by omega), blk_put_other e4 (by omega), blk_put_other e6 (by omega), Got.made hb (blk_put e7 _) _⟩)
              (intro v9 u9 w2 hS; simp only [List.drop_succ_cons, List.drop_zero]; obtain ⟨hB6, d1, d2, d3, d4, d5, d6⟩ := hS)
              obtain ⟨b9, rfl, hb9, d8⟩ := d6 _ _ rfl
              have d9 : blk w2 b9 (pms R2.1) 147 := d8
              clear d6 d8 d7
              cases h2 : R2.2 with
              | false =>
                rw [if_pos h2] at hR
                go_wp2_with (first | (refine wpList_load_part rfl 147 _ rfl (b9) (0) rfl (pms R2.1) _ und_l2m rfl inf_l2m (cells_of_blk0 d9) ?_) | (refine wpList_store_row rfl 147 _ _ rfl _ rfl _ rfl inf_l2m _ _ (d4) (by simp [pms_size]) (flat_pms _) ?_))
                refine bodyPost_ret (v := .tuple #[.agg (pms R2.1), .bool false]) (by exact results_part2 rfl _ _ _ _ (pms R2.1) _ rfl und_l2m rfl inf_l2m (cells_of_blk0 (blk_put d4 _)) _ rfl) rfl ?_
                rw [← hR]
                exact ⟨by first | rfl | exact ret_two rfl rfl, below_put hB6 (by omega) _ _⟩
              | true =>
                rw [if_neg (by rw [h2]; simp)] at hR
                have hv2 := hC2.va h2
                have hu2 : um R2.1.to N < K := Nat.lt_of_le_of_lt (um_mono N fun z hz h => by rw [hC2.sub h2 z hz h]; exact h) hu1
                go_wp2_with (first | (refine wpList_load_part rfl 147 _ rfl (b9) (0) rfl (pms R2.1) _ und_l2m rfl inf_l2m (cells_of_blk0 d9) ?_) | (refine wpList_store_row rfl 147 _ _ rfl _ rfl _ rfl inf_l2m _ _ (d3) (by simp [pms_size]) (flat_pms _) ?_))
                go_roundw
                case rel => exact ⟨a + 1, R2.1, by omega, by go_num, below_put hB6 (by omega) _ _, blk_put_other d1 (by omega), blk_put_other d2 (by omega), blk_put d3 _, blk_put_other d4 (by omega), hv2, hu2, hR⟩
                case measure => simp [intOf]; omega
        · have haN : a = N := by omega
          subst haN
          rw [Nat.sub_self] at hR
          simp only [closeL] at hR
          have hge : ¬ ((a : Int) < (a : Int)) := by omega
          go_wp2_with (first | (refine wpList_load_part rfl 147 _ rfl (w.heap.size + 1 + 1) (0) rfl (pms M) _ und_l2m rfl inf_l2m (cells_of_blk0 b3) ?_) | (refine wpList_store_row rfl 147 _ _ rfl _ rfl _ rfl inf_l2m _ _ (b4) (by simp [pms_size]) (flat_pms _) ?_))
          refine bodyPost_ret (v := .tuple #[.agg (pms M), .bool true]) (by exact results_part2 rfl _ _ _ _ (pms M) _ rfl und_l2m rfl inf_l2m (cells_of_blk0 (blk_put b4 _)) _ rfl) rfl ?_
          rw [← hR]
          exact ⟨by first | rfl | exact ret_two rfl rfl, below_put hB (by omega) _ _⟩
end Go.Proofs.Ytinjjaoikofkdaa
