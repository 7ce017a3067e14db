/- Isotopes: contracts. -/
import Derived.Test.YtinjjaoikofkdaaC10
import Derived.Test.YtinjjaoikofkdaaC6
namespace Go.Proofs.Ytinjjaoikofkdaa
set_option linter.unusedSimpArgs false
set_option linter.unusedVariables false
open Go.RowKit

theorem build_sqn (n : Int) (w : World) : (Instr.build 43 #[(0, .int .i64 n)]).run Try.prog w = .ok (.agg (sqs n fun _ _ => 0)) w := by kernel_rfl
theorem isoW_set {N : Nat} {t : Nat → Nat → Nat} {f g h : Nat → Nat} {n : Int} {k l : Nat} (hl : l < N) (hf : f k < 10) (hg : g l < 10) :
    (sqs n (isoW N t f g h (k * N + l))).setIfInBounds (1 + f k * 10 + g l) (.int .u8 (h (t k l) : Int)) = sqs n (isoW N t f g h (k * N + (l + 1))) := by
  have hN : 0 < N := by omega
  rw [sqs_set hf hg]
  refine sqs_ext rfl fun i j hi hj => ?_
  rw [← Nat.add_assoc]
  show _ = if i = f ((k * N + l) / N) ∧ j = g ((k * N + l) % N) then h (t ((k * N + l) / N) ((k * N + l) % N)) else isoW N t f g h (k * N + l) i j
  have e1 : (k * N + l) / N = k := by rw [Nat.mul_comm, Nat.mul_add_div hN, Nat.div_eq_of_lt hl]; rfl
  have e2 : (k * N + l) % N = l := by rw [Nat.mul_comm, Nat.mul_add_mod]; exact Nat.mod_eq_of_lt hl
  rw [e1, e2]

set_option maxRecDepth 100000 in
set_option maxHeartbeats 1000000 in
theorem l02Isotope_any (n : Int) (t : Nat → Nat → Nat) (f g h : Nat → Nat) (w : World) (h0 : 1 ≤ n) (h1 : n ≤ 10) (hf : ∀ i : Nat, (i : Int) < n → f i < 10) (hg : ∀ i : Nat, (i : Int) < n → g i < 10) (ht : ∀ x y : Nat, (x : Int) < n → (y : Int) < n → t x y < 10) :
    Calls Try.prog 109 #[.agg (sqs n t), .agg (trs f g h)] w fun e w' => e = .returned (.agg (sqs n (isoW n.toNat t f g h (n.toNat * n.toNat)))) ∧ Below w.heap.size w w' := by
  have hz := zero_sqs
  have hbd := build_sqn
  have so := sqs_order n t
  have HF := Hid2.mk hf
  have HG := Hid2.mk hg
  have HT := Hid2.mk ht
  clear hf hg ht
  go_enter Try.func109, Try.ntmps109
  go_wp2_with (first | (refine wpList_build 43 _ rfl rfl [(0, .int .i64 n)] rfl _ (build_sqn _ _) ?_) | (refine wpList_store_row rfl 43 _ _ rfl _ rfl _ rfl inf_sqs _ _ (blk_new _ _ _ _ (by simp)) (by simp [sqs_size]) (flat_sqs _ _) ?_))
  clear hz hbd so
  go_loopw [6, 7] (fun i _ wr => ∃ k : Nat, (k : Int) ≤ n ∧ i = .int .i64 k ∧ Below w.heap.size w wr ∧ blk wr w.heap.size (sqs n t) 43 ∧ blk wr (w.heap.size + 1) (trs f g h) 122 ∧ blk wr (w.heap.size + 1 + 1) (sqs 0 fun _ _ => 0) 43 ∧ blk wr (w.heap.size + 1 + 1 + 1) (sqs n (isoW n.toNat t f g h (k * n.toNat))) 43) (fun i _ _ => (n - intOf i).toNat)
  case atStart =>
    refine ⟨0, by omega, rfl, below_put (((((Below.refl _ _).alloc (by simp) _).alloc (by simp) _).alloc (by simp; omega) _).alloc (by simp; omega) _) (by omega) _ _, blk_put_other ?_ (by omega), blk_put_other ?_ (by omega), blk_put_other ?_ (by omega), (blk_put (blk_new _ _ _ _ (by simp)) _).eq (by rw [Nat.zero_mul]; rfl)⟩
    all_goals (repeat (first | (refine blk_new _ _ _ _ ?_; (simp; done)) | apply blk.alloc))
  case round =>
    obtain ⟨k, hk, rfl, hB2, a1, a2, a3, a4⟩ := hrel
    have c0 := a1.cell 0 _ (sqs_order n t)
    by_cases hlt : (k : Int) < n
    · have hfk := HF.out k hlt
      have hd : decide ((k : Int) < n) = true := by simp; omega
      go_wp2
      obtain ⟨wo, rfl⟩ : ∃ wo : World, wo = wr := ⟨_, rfl⟩
      go_loopw [7] (fun j wr => ∃ l : Nat, (l : Int) ≤ n ∧ j = .int .i64 l ∧ Below w.heap.size w wr ∧ blk wr w.heap.size (sqs n t) 43 ∧ blk wr (w.heap.size + 1) (trs f g h) 122 ∧ blk wr (w.heap.size + 1 + 1) (sqs 0 fun _ _ => 0) 43 ∧ blk wr (w.heap.size + 1 + 1 + 1) (sqs n (isoW n.toNat t f g h (k * n.toNat + l))) 43) (fun j _ => (n - intOf j).toNat)
      case atStart => exact ⟨0, by omega, rfl, hB2, a1, a2, a3, a4⟩
      case round =>
        obtain ⟨l, hl, rfl, hB3, b1, b2, b3, b4⟩ := hrel
        clear hB2 a1 a2 a3 a4 c0
        have c0 := b1.cell 0 _ (sqs_order n t)
        by_cases hlt2 : (l : Int) < n
        · have hgl := HG.out l hlt2
          have htk := HT.out k l hlt hlt2
          go_wp2
          apply wp_region_text_tail 20 (fun w' => Below w.heap.size w w' ∧ blk w' w.heap.size (sqs n t) 43 ∧ blk w' (w.heap.size + 1) (trs f g h) 122 ∧ blk w' (w.heap.size + 1 + 1) (sqs 0 fun _ _ => 0) 43 ∧ blk w' (w.heap.size + 1 + 1 + 1) (sqs n (isoW n.toNat t f g h (k * n.toNat + l))) 43) (by kernel_rfl) (by kernel_rfl) (⟨hB3.drew, b1.drew, b2.drew, b3.drew, b4.drew⟩); (simp only [List.take_succ_cons, List.take_zero]; repeat (first | exact wpText_nil | (apply wpText_cons; (intro w2 hS; obtain ⟨hB2, d1, d2, d3, d4⟩ := hS; have q1 := d1.cell _ _ (sqs_get (n := n) (t := t) (x := k) (y := l) (by omega) (by omega)) ; have q2 := d2.cell _ _ (trs_get1 (f := f) (g := g) (h := h) (i := k) (by omega)) ; have q3 := d2.cell _ _ (trs_get2 (f := f) (g := g) (h := h) (i := l) (by omega)) ; have q4 := d2.cell _ _ (trs_get3 (f := f) (g := g) (h := h) (i := t k l) htk); go_wp2; (first | exact ⟨rfl, rfl, hB2, d1, d2, d3, d4⟩)); rfl)))
          (intro w2 hS; simp only [List.drop_succ_cons, List.drop_zero]; obtain ⟨hB4, d1, d2, d3, d4⟩ := hS)
          have f4 := d4.free (1 + f k * 10 + g l)
          have c4 := d4.cell _ _ (sqs_get (n := n) (t := isoW n.toNat t f g h (k * n.toNat + l)) hfk hgl)
          clear hB3 b1 b2 b3 b4 c0
          go_wp2
          go_roundw
          case rel => exact ⟨l + 1, by omega, by go_num, hB4.setCell (by simp; omega) _, d1.other _ _ (by omega), d2.other _ _ (by omega), d3.other _ _ (by omega), (d4.set _ _).eq (isoW_set (by omega) hfk hgl)⟩
          case measure => simp [intOf]; omega
        · have hln : l = n.toNat := by omega
          go_wp2
          go_roundw
          case rel => exact ⟨k + 1, by omega, by go_num, hB3, b1, b2, b3, b4.eq (by rw [hln, Nat.add_mul, Nat.one_mul])⟩
          case measure => simp [intOf]; omega
    · have hkn : k = n.toNat := by omega
      subst hkn
      go_wp2_with (first | (refine wpList_load_part rfl 43 _ rfl (w.heap.size + 1 + 1 + 1) (0) rfl (sqs n (isoW n.toNat t f g h (n.toNat * n.toNat))) _ und_sqs rfl inf_sqs (cells_of_blk0 a4) ?_) | (refine wpList_store_row rfl 43 _ _ rfl _ rfl _ rfl inf_sqs _ _ (a3) (by simp [sqs_size]) (flat_sqs _ _) ?_))
      refine bodyPost_ret (v := .agg (sqs n (isoW n.toNat t f g h (n.toNat * n.toNat)))) (by exact results_part rfl _ _ _ _ _ _ rfl und_sqs rfl inf_sqs (cells_of_blk0 (blk_put a3 _))) rfl ?_
      exact ⟨rfl, below_put hB2 (by omega) _ _⟩

set_option maxRecDepth 100000 in
set_option maxHeartbeats 1000000 in
theorem isotope_any (n : Int) (t : Nat → Nat → Nat) (f g h : Nat → Nat) (w : World) (h0 : 1 ≤ n) (h1 : n ≤ 10) (hf : ∀ i : Nat, (i : Int) < n → f i < 10) (hg : ∀ i : Nat, (i : Int) < n → g i < 10) (ht : ∀ x y : Nat, (x : Int) < n → (y : Int) < n → t x y < 10) :
    Calls Try.prog 96 #[.agg (sqs n t), .agg (trs f g h)] w fun e w' => e = .returned (.agg (sqs n (isoW n.toNat t f g h (n.toNat * n.toNat)))) ∧ Below w.heap.size w w' := by
  have hz := zero_sqs
  have hbd := build_sqn
  have so := sqs_order n t
  have HF := Hid2.mk hf
  have HG := Hid2.mk hg
  have HT := Hid2.mk ht
  clear hf hg ht
  go_enter Try.func96, Try.ntmps96
  have A1 := ((((blk_new w (sqs n t) 43 w.heap.size rfl).alloc (.cells (trs f g h) 122)).alloc (.cells (sqs 0 fun _ _ => 0) 43)).alloc (.cells (sqs 0 fun _ _ => 0) 43))
  have A2 := (((blk_new (w.alloc (.cells (sqs n t) 43)) (trs f g h) 122 (w.heap.size + 1) (by simp)).alloc (.cells (sqs 0 fun _ _ => 0) 43)).alloc (.cells (sqs 0 fun _ _ => 0) 43))
  have A3 := ((blk_new ((w.alloc (.cells (sqs n t) 43)).alloc (.cells (trs f g h) 122)) (sqs 0 fun _ _ => 0) 43 (w.heap.size + 1 + 1) (by simp)).alloc (.cells (sqs 0 fun _ _ => 0) 43))
  have A4 := (blk_new (((w.alloc (.cells (sqs n t) 43)).alloc (.cells (trs f g h) 122)).alloc (.cells (sqs 0 fun _ _ => 0) 43)) (sqs 0 fun _ _ => 0) 43 (w.heap.size + 1 + 1 + 1) (by simp))
  have A0 := (((((Below.refl w.heap.size w).alloc (by simp) (.cells (sqs n t) 43)).alloc (by simp) (.cells (trs f g h) 122)).alloc (by simp; omega) (.cells (sqs 0 fun _ _ => 0) 43)).alloc (by simp; omega) (.cells (sqs 0 fun _ _ => 0) 43))
  have P1 := blk_put_other A1 (c := w.heap.size + 1 + 1 + 1) (cs' := sqs n fun _ _ => 0) (t' := 43) (by omega)
  have P2 := blk_put_other A2 (c := w.heap.size + 1 + 1 + 1) (cs' := sqs n fun _ _ => 0) (t' := 43) (by omega)
  have P3 := blk_put_other A3 (c := w.heap.size + 1 + 1 + 1) (cs' := sqs n fun _ _ => 0) (t' := 43) (by omega)
  have P4 := blk_put A4 (cs' := sqs n fun _ _ => 0) 43
  have P0 := below_put A0 (b := w.heap.size + 1 + 1 + 1) (by omega) (sqs n fun _ _ => 0) 43
  clear A0 A1 A2 A3
  go_wp2_with (first | (refine wpList_build 43 _ rfl rfl [(0, .int .i64 n)] rfl _ (build_sqn _ _) ?_) | (refine wpList_store_row rfl 43 _ _ rfl _ rfl _ rfl inf_sqs _ _ (A4) (by simp [sqs_size]) (flat_sqs _ _) ?_) | (refine wpList_load_part rfl 43 _ rfl (w.heap.size) (0) rfl (sqs n t) _ und_sqs rfl inf_sqs (cells_of_blk0 P1) ?_) | (go_at_call 88; ((with_reducible refine (elements_any _ _ _ h0 h1).mono ?_); rintro e w1 ⟨g1, cap1, rfl, hb, hg1, hr1⟩)))
  have Q0 := below_self P0 hb
  have Q1 := P1.later hb
  have Q2 := P2.later hb
  have Q3 := P3.later hb
  have Q4 := P4.later hb
  have hgg := P4.lt
  clear hz hbd so P0 P1 P2 P3 P4 A4
  go_loopw [7, 9, 16, 21, 22, 23] (fun _ _ i _ _ _ wr => ∃ k : Nat, (k : Int) ≤ n ∧ i = .int .i64 k ∧ Below w.heap.size w wr ∧ blk wr w.heap.size (sqs n t) 43 ∧ blk wr (w.heap.size + 1) (trs f g h) 122 ∧ blk wr (w.heap.size + 1 + 1) (sqs 0 fun _ _ => 0) 43 ∧ blk wr (w.heap.size + 1 + 1 + 1) (sqs n (isoW n.toNat t f g h (k * n.toNat))) 43 ∧ rds wr g1 n.toNat (fun j => .int .u8 (j : Int))) (fun _ _ i _ _ _ _ => (n - intOf i).toNat)
  case atStart => exact ⟨0, by omega, rfl, Q0, Q1, Q2, Q3, Q4.eq (by rw [Nat.zero_mul]; rfl), hr1⟩
  case round =>
    obtain ⟨k, hk, rfl, hB2, a1, a2, a3, a4, r1⟩ := hrel
    by_cases hlt : (k : Int) < n
    · have hfk := HF.out k hlt
      have c1 := r1.at_ k (by omega)
      clear Q0 Q1 Q2 Q3 Q4 hr1
      go_wp2_with (first | (refine wpList_load_part rfl 43 _ rfl (w.heap.size) (0) rfl (sqs n t) _ und_sqs rfl inf_sqs (cells_of_blk0 a1) ?_) | (go_at_call 88; ((with_reducible refine (elements_any _ _ _ h0 h1).mono ?_); rintro e w2 ⟨g2, cap2, rfl, hb2, hg2, hr2⟩)))
      have P0 := below_self hB2 hb2
      have P1 := a1.later hb2
      have P2 := a2.later hb2
      have P3 := a3.later hb2
      have P4 := a4.later hb2
      have P5 := r1.later hb2
      have hl4 := a4.lt
      have hl5 := r1.lt
      clear hB2 a1 a2 a3 a4 r1 c1
      go_loopw [9, 23] (fun _ j wr => ∃ l : Nat, (l : Int) ≤ n ∧ j = .int .i64 l ∧ Below w.heap.size w wr ∧ blk wr w.heap.size (sqs n t) 43 ∧ blk wr (w.heap.size + 1) (trs f g h) 122 ∧ blk wr (w.heap.size + 1 + 1) (sqs 0 fun _ _ => 0) 43 ∧ blk wr (w.heap.size + 1 + 1 + 1) (sqs n (isoW n.toNat t f g h (k * n.toNat + l))) 43 ∧ rds wr g1 n.toNat (fun j => .int .u8 (j : Int)) ∧ rds wr g2 n.toNat (fun j => .int .u8 (j : Int))) (fun _ j _ => (n - intOf j).toNat)
      case atStart => exact ⟨0, by omega, rfl, P0, P1, P2, P3, P4, P5, hr2⟩
      case round =>
        obtain ⟨l, hl, rfl, hB3, b1, b2, b3, b4, b5, b6⟩ := hrel
        clear P0 P1 P2 P3 P4 P5 hr2
        by_cases hlt2 : (l : Int) < n
        · have hgl := HG.out l hlt2
          have htk := HT.out k l hlt hlt2
          have c6 := b6.at_ l (by omega)
          go_wp2
          clear c6
          apply wp_region_text_tail 20 (fun w' => Below w.heap.size w w' ∧ blk w' w.heap.size (sqs n t) 43 ∧ blk w' (w.heap.size + 1) (trs f g h) 122 ∧ blk w' (w.heap.size + 1 + 1) (sqs 0 fun _ _ => 0) 43 ∧ blk w' (w.heap.size + 1 + 1 + 1) (sqs n (isoW n.toNat t f g h (k * n.toNat + l))) 43 ∧ rds w' g1 n.toNat (fun j => .int .u8 (j : Int)) ∧ rds w' g2 n.toNat (fun j => .int .u8 (j : Int))) (by kernel_rfl) (by kernel_rfl) (⟨hB3.drew, b1.drew, b2.drew, b3.drew, b4.drew, b5.drew, b6.drew⟩); (simp only [List.take_succ_cons, List.take_zero]; repeat (first | exact wpText_nil | (apply wpText_cons; (intro w2 hS; obtain ⟨hB2, d1, d2, d3, d4, d5, d6⟩ := hS; have q1 := d1.cell _ _ (sqs_get (n := n) (t := t) (x := k) (y := l) (by omega) (by omega)) ; have q2 := d2.cell _ _ (trs_get1 (f := f) (g := g) (h := h) (i := k) (by omega)) ; have q3 := d2.cell _ _ (trs_get2 (f := f) (g := g) (h := h) (i := l) (by omega)) ; have q4 := d2.cell _ _ (trs_get3 (f := f) (g := g) (h := h) (i := t k l) htk); go_wp2; (first | exact ⟨rfl, rfl, hB2, d1, d2, d3, d4, d5, d6⟩)); rfl)))
          (intro w2 hS; simp only [List.drop_succ_cons, List.drop_zero]; obtain ⟨hB4, d1, d2, d3, d4, d5, d6⟩ := hS)
          have f4 := d4.free (1 + f k * 10 + g l)
          have c4 := d4.cell _ _ (sqs_get (n := n) (t := isoW n.toNat t f g h (k * n.toNat + l)) hfk hgl)
          clear hB3 b1 b2 b3 b4 b5 b6
          go_wp2
          go_roundw
          case rel => exact ⟨l + 1, by omega, by go_num, hB4.setCell (by simp; omega) _, d1.other _ _ (by omega), d2.other _ _ (by omega), d3.other _ _ (by omega), (d4.set _ _).eq (isoW_set (by omega) hfk hgl), d5.other _ _ (by omega), d6.other _ _ (by omega)⟩
          case measure => simp [intOf]; omega
        · have hln : l = n.toNat := by omega
          go_wp2
          go_roundw
          case rel => exact ⟨k + 1, by omega, by go_num, hB3, b1, b2, b3, b4.eq (by rw [hln, Nat.add_mul, Nat.one_mul]), b5⟩
          case measure => simp [intOf]; omega
    · have hkn : k = n.toNat := by omega
      subst hkn
      go_wp2_with (first | (refine wpList_load_part rfl 43 _ rfl (w.heap.size + 1 + 1 + 1) (0) rfl (sqs n (isoW n.toNat t f g h (n.toNat * n.toNat))) _ und_sqs rfl inf_sqs (cells_of_blk0 a4) ?_) | (refine wpList_store_row rfl 43 _ _ rfl _ rfl _ rfl inf_sqs _ _ (a3) (by simp [sqs_size]) (flat_sqs _ _) ?_))
      refine bodyPost_ret (v := .agg (sqs n (isoW n.toNat t f g h (n.toNat * n.toNat)))) (by exact results_part rfl _ _ _ _ _ _ rfl und_sqs rfl inf_sqs (cells_of_blk0 (blk_put a3 _))) rfl ?_
      exact ⟨rfl, below_put hB2 (by omega) _ _⟩
end Go.Proofs.Ytinjjaoikofkdaa
