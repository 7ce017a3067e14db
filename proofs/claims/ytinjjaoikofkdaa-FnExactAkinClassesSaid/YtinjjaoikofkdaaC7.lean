/- The program's check of squares: a contract. -/
import Derived.Test.YtinjjaoikofkdaaC6
namespace Go.Proofs.Ytinjjaoikofkdaa
set_option linter.unusedSimpArgs false
set_option linter.unusedVariables false
open Go.RowKit

theorem within_b (n lo hi : Int) (b : Bool) (hb : b = true ↔ lo ≤ n ∧ n ≤ hi) (w : World) :
    Calls Try.prog 87 #[.int .i64 n, .int .i64 lo, .int .i64 hi] w fun e w' => e = .returned (.bool b) ∧ w = w' := by
  by_cases h1 : lo ≤ n <;> by_cases h2 : n ≤ hi
  all_goals
    have hb' : b = (decide (lo ≤ n) && decide (n ≤ hi)) := by cases b <;> simp_all
    subst hb'
    clear hb
    go_enter Try.func87, Try.ntmps87
    go_wp2
    go_ret
    exact ⟨by simp [h1, h2], rfl⟩

/-- The rows and columns as far as k are those of a square. -/
structure SqAt (n : Int) (t : Nat → Nat → Nat) (x : Nat) : Prop where
  zero : ∀ y : Nat, y < 10 → (n ≤ (x : Int) ∨ n ≤ (y : Int)) → t x y = 0
  lt : (x : Int) < n → ∀ y : Nat, (y : Int) < n → (t x y : Int) < n ∧ (t y x : Int) < n
  row : (x : Int) < n → ∀ i j : Nat, (i : Int) < n → (j : Int) < n → t x i = t x j → i = j
  col : (x : Int) < n → ∀ i j : Nat, (i : Int) < n → (j : Int) < n → t i x = t j x → i = j
theorem SqAt.all {n : Int} {t : Nat → Nat → Nat} (h1 : 1 ≤ n) (h2 : n ≤ 10) (h : ∀ x, x < 10 → SqAt n t x) : isSq n t = true :=
  isSq_true.2 ⟨h1, h2,
    ⟨fun x hx hxn => ⟨h1, h2, fun y hy hyn => (h x hx).zero y hy (.inr hyn), fun y hy hyn => ((h x hx).lt hxn y hyn).1, fun i j hi hj hin e => by have := (h x hx).row hxn i j hin (by omega) e; omega⟩,
     fun x y hx hy hxn => (h x hx).zero y hy (.inl hxn)⟩,
    ⟨fun x hx hxn => ⟨h1, h2, fun y hy hyn => (h y hy).zero x hx (.inl hyn), fun y hy hyn => ((h x hx).lt hxn y hyn).2, fun i j hi hj hin e => by have := (h x hx).col hxn i j hin (by omega) e; omega⟩,
     fun x y hx hy hxn => (h y hy).zero x hx (.inr hxn)⟩⟩
theorem SqAt.of {n : Int} {t : Nat → Nat → Nat} (h : IsSq n t) {x : Nat} (hx : x < 10) : SqAt n t x where
  zero y hy hxy := by
    rcases Int.lt_or_le (x : Int) n with h1 | h1
    · exact (h.rows.row x hx h1).zero y hy (by omega)
    · exact h.rows.zero x y hx hy h1
  lt hxn y hyn := ⟨(h.rows.row x hx hxn).lt y (by have := h.hi; omega) hyn, (h.cols.row x hx hxn).lt y (by have := h.hi; omega) hyn⟩
  row hxn i j hi hj e := by
    have h1 := (h.rows.row x hx hxn).inj
    have := h.hi
    rcases Nat.lt_trichotomy i j with h2 | h2 | h2
    · exact absurd e.symm (h1 j i (by omega) h2 hj)
    · exact h2
    · exact absurd e (h1 i j (by omega) h2 hi)
  col hxn i j hi hj e := by
    have h1 := (h.cols.row x hx hxn).inj
    have := h.hi
    rcases Nat.lt_trichotomy i j with h2 | h2 | h2
    · exact absurd e.symm (h1 j i (by omega) h2 hj)
    · exact h2
    · exact absurd e (h1 i j (by omega) h2 hi)

set_option maxRecDepth 100000 in
set_option maxHeartbeats 2000000 in
theorem isSquare_any (n : Int) (t : Nat → Nat → Nat) (w : World) (hby : Byt2 t) :
    Calls Try.prog 71 #[.agg (sqs n t)] w fun e w' => e = .returned (.bool (isSq n t)) ∧ Below w.heap.size w w' := by
  have b1 := blk_new w (sqs n t) 43 w.heap.size rfl
  have hB : Below w.heap.size w (w.alloc (.cells (sqs n t) 43)) := (Below.refl _ _).alloc (by simp) _
  have so := sqs_order n t
  by_cases hn : 1 ≤ n ∧ n ≤ 10
  · obtain ⟨hn1, hn2⟩ := hn
    go_enter Try.func71, Try.ntmps71
    go_wp2_with (first | (go_at_call 87; ((with_reducible refine (within_b _ _ _ true (by simp; omega) _).mono ?_); rintro e w1 ⟨rfl, rfl⟩)))
    clear so
    go_loopw [2, 4, 5, 6, 7, 14] (fun _ _ _ _ _ i wr => ∃ k : Nat, k ≤ 10 ∧ i = .int .i64 k ∧ Below w.heap.size w wr ∧ blk wr w.heap.size (sqs n t) 43 ∧ ∀ x : Nat, x < k → SqAt n t x) (fun _ _ _ _ _ i _ => (10 - intOf i).toNat)
    case atStart => exact ⟨0, by omega, rfl, hB, b1, fun _ h => absurd h (by omega)⟩
    case round =>
      obtain ⟨k, hk, rfl, hB2, b2, hx⟩ := hrel
      have HR := Hid2.mk hx
      clear hx b1 hB
      by_cases hlt : k < 10
      · have hd : decide ((k : Int) < 10) = true := by simp; omega
        go_wp2
        obtain ⟨wo, rfl⟩ : ∃ wo : World, wo = wr := ⟨_, rfl⟩
        go_loopw [2, 5, 6, 7, 17] (fun _ r c _ j wr => ∃ l : Nat, l ≤ 10 ∧ j = .int .i64 l ∧ Below w.heap.size w wr ∧ blk wr w.heap.size (sqs n t) 43 ∧
          (∀ y : Nat, y < l → (n ≤ (k : Int) ∨ n ≤ (y : Int)) → t k y = 0) ∧ (∀ y : Nat, y < l → (k : Int) < n → (y : Int) < n → (t k y : Int) < n ∧ (t y k : Int) < n) ∧
          r = .int .i64 (if (k : Int) < n then msk (t k) (min l n.toNat) else 0 : Nat) ∧ c = .int .i64 (if (k : Int) < n then msk (fun x => t x k) (min l n.toNat) else 0 : Nat)) (fun _ _ _ _ j _ => (10 - intOf j).toNat)
        case atStart => exact ⟨0, by omega, rfl, hB2, b2, fun _ h => absurd h (by omega), fun _ h => absurd h (by omega), by simp [msk], by simp [msk]⟩
        case round =>
          obtain ⟨l, hl, rfl, hB3, b3, hz, hr, rfl, rfl⟩ := hrel
          have HZ := Hid2.mk hz
          have HL := Hid2.mk hr
          clear hz hr b2 hB2
          by_cases hlt2 : l < 10
          · have c1 := b3.cell _ _ (sqs_get (n := n) (t := t) (x := k) (y := l) hlt hlt2)
            have c2 := b3.cell _ _ (sqs_get (n := n) (t := t) (x := l) (y := k) hlt2 hlt)
            have h256 := hby.at_ k l hlt hlt2
            have h256' := hby.at_ l k hlt2 hlt
            by_cases hkn : (k : Int) < n
            · by_cases hln : (l : Int) < n
              · by_cases h1 : (t k l : Int) < n
                · by_cases h2 : (t l k : Int) < n
                  · as_aux_lemma =>
                      go_wp2
                      go_roundw
                      case rel =>
                        refine ⟨l + 1, by omega, by go_num, hB3, b3, fun y hy hyn => ?_, fun y hy hkn' hyn => ?_, ?_, ?_⟩
                        · exact absurd hyn (by omega)
                        · by_cases e : y = l
                          · subst e; exact ⟨h1, h2⟩
                          · exact HL.out y (by omega) hkn' hyn
                        · rw [if_pos hkn, msk_step (N := n.toNat) (by omega) (by omega) (fun i hi => ?_)]
                          by_cases e : i = l
                          · subst e; omega
                          · have := (HL.out i (by omega) hkn (by omega)).1; omega
                        · rw [if_pos hkn, msk_step (f := fun x => t x k) (N := n.toNat) (by omega) (by omega) (fun i hi => ?_)]
                          by_cases e : i = l
                          · subst e; omega
                          · have := (HL.out i (by omega) hkn (by omega)).2; omega
                      case measure => simp [intOf]; omega
                  · have hF : isSq n t = false := isSq_false.2 fun h => h2 ((SqAt.of h hlt).lt hkn l hln).2
                    as_aux_lemma =>
                      go_wp2
                      go_ret
                      exact ⟨by first | rfl | exact ret_b hF, hB3⟩
                · have hF : isSq n t = false := isSq_false.2 fun h => h1 ((SqAt.of h hlt).lt hkn l hln).1
                  as_aux_lemma =>
                    go_wp2
                    go_ret
                    exact ⟨by first | rfl | exact ret_b hF, hB3⟩
              · have g1 : decide (n ≤ (k : Int)) = false := by simp; omega
                have g2 : decide (n ≤ (l : Int)) = true := by simp; omega
                by_cases hz : t k l = 0
                · as_aux_lemma =>
                    go_wp2
                    go_roundw
                    case rel =>
                      refine ⟨l + 1, by omega, by go_num, hB3, b3, fun y hy hyn => ?_, fun y hy hkn' hyn => ?_, ?_, ?_⟩
                      · by_cases e : y = l
                        · subst e; exact hz
                        · exact HZ.out y (by omega) hyn
                      · exact HL.out y (by omega) hkn' hyn
                      · rw [show min (l + 1) n.toNat = min l n.toNat by omega, if_pos hkn]
                      · rw [show min (l + 1) n.toNat = min l n.toNat by omega, if_pos hkn]
                    case measure => simp [intOf]; omega
                · have hF : isSq n t = false := isSq_false.2 fun h => hz ((SqAt.of h hlt).zero l hlt2 (.inr (by omega)))
                  as_aux_lemma =>
                    go_wp2
                    go_ret
                    exact ⟨by first | rfl | exact ret_b hF, hB3⟩
            · have g1 : decide (n ≤ (k : Int)) = true := by simp; omega
              by_cases hz : t k l = 0
              · as_aux_lemma =>
                  go_wp2
                  go_roundw
                  case rel =>
                    refine ⟨l + 1, by omega, by go_num, hB3, b3, fun y hy hyn => ?_, fun y hy hkn' hyn => ?_, ?_, ?_⟩
                    · by_cases e : y = l
                      · subst e; exact hz
                      · exact HZ.out y (by omega) hyn
                    · exact absurd hkn' hkn
                    · simp [hkn]
                    · simp [hkn]
                  case measure => simp [intOf]; omega
              · have hF : isSq n t = false := isSq_false.2 fun h => hz ((SqAt.of h hlt).zero l hlt2 (.inl (by omega)))
                as_aux_lemma =>
                  go_wp2
                  go_ret
                  exact ⟨by first | rfl | exact ret_b hF, hB3⟩
          · obtain rfl : l = 10 := by omega
            rw [show min 10 n.toNat = n.toNat by omega]
            by_cases hkn : (k : Int) < n
            · rw [if_pos hkn, if_pos hkn]
              have hm1 := msk_full (t k) n.toNat (fun i hi => by have := (HL.out i (by omega) hkn (by omega)).1; omega)
              have hm2 := msk_full (fun x => t x k) n.toNat (fun i hi => by have := (HL.out i (by omega) hkn (by omega)).2; omega)
              have M1 := Hid2.mk hm1
              have M2 := Hid2.mk hm2
              clear hm1 hm2
              generalize msk (t k) n.toNat = m1 at M1 ⊢
              generalize msk (fun x => t x k) n.toNat = m2 at M2 ⊢
              have f64 := full64 (N := n.toNat) (by omega)
              obtain ⟨X, hX⟩ : ∃ X : Int, wrap64 (wrap64 (2 ^ n.toNat) - 1) = X := ⟨_, rfl⟩
              rw [hX] at f64
              have F64 := Hid2.mk f64
              clear f64
              by_cases e1 : (m1 : Int) = X
              · by_cases e2 : (m2 : Int) = X
                · as_aux_lemma =>
                    go_wp2
                    go_roundw
                    case rel =>
                      refine ⟨k + 1, by omega, by go_num, hB3, b3, fun x hx => ?_⟩
                      by_cases e : x = k
                      · subst e
                        have i1 := M1.out.1 (by have := F64.out; omega)
                        have i2 := M2.out.1 (by have := F64.out; omega)
                        exact ⟨fun y hy => HZ.out y hy, fun _ y hy => HL.out y (by omega) hkn hy, fun _ i j hi hj h => i1 i j (by omega) (by omega) h, fun _ i j hi hj h => i2 i j (by omega) (by omega) h⟩
                      · exact HR.out x (by omega)
                    case measure => simp [intOf]; omega
                · have hF : isSq n t = false := isSq_false.2 fun h => e2 (by
                    have := M2.out.2 fun i j hi hj h' => (SqAt.of h hlt).col hkn i j (by omega) (by omega) h'
                    rw [F64.out, this])
                  as_aux_lemma =>
                    go_wp2
                    go_ret
                    exact ⟨by first | rfl | exact ret_b hF, hB3⟩
              · have hF : isSq n t = false := isSq_false.2 fun h => e1 (by
                  have := M1.out.2 fun i j hi hj h' => (SqAt.of h hlt).row hkn i j (by omega) (by omega) h'
                  rw [F64.out, this])
                go_wp2
                go_ret
                exact ⟨by first | rfl | exact ret_b hF, hB3⟩
            · rw [if_neg hkn, if_neg hkn]
              as_aux_lemma =>
                go_wp2
                go_roundw
                case rel =>
                  refine ⟨k + 1, by omega, by go_num, hB3, b3, fun x hx => ?_⟩
                  by_cases e : x = k
                  · subst e
                    exact ⟨fun y hy => HZ.out y hy, fun h => absurd h hkn, fun h => absurd h hkn, fun h => absurd h hkn⟩
                  · exact HR.out x (by omega)
                case measure => simp [intOf]; omega
      · have hT := SqAt.all hn1 hn2 fun x hx => HR.out x (by omega)
        as_aux_lemma =>
          go_wp2
          go_ret
          exact ⟨by first | rfl | exact ret_b hT, hB2⟩
  · have hF : isSq n t = false := isSq_false.2 fun h => hn ⟨h.lo, h.hi⟩
    go_enter Try.func71, Try.ntmps71
    as_aux_lemma =>
      go_wp2_with (first | (go_at_call 87; ((with_reducible refine (within_b _ _ _ false (by simp; omega) _).mono ?_); rintro e w1 ⟨rfl, rfl⟩)))
      go_ret
      exact ⟨by first | rfl | exact ret_b hF, hB⟩
end Go.Proofs.Ytinjjaoikofkdaa
