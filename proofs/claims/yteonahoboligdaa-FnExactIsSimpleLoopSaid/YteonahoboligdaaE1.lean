/- Sets as bits: contracts. -/
import Derived.Test.YteonahoboligdaaL1
import Derived.Test.YteonahoboligdaaB4
namespace Go.Proofs.Yteonahoboligdaa
set_option linter.unusedSimpArgs false
set_option linter.unusedVariables false
open Go Go.RowKit

theorem has_bit (m x : Nat) (hm : m < 1024) : (bits .and .i64 ((m : Int) / 2 ^ x) 1 == 1) = m.testBit x := by
  have e : ((m : Int) / 2 ^ x) = ((m / 2 ^ x : Nat) : Int) := by norm_cast
  have h : m / 2 ^ x ≤ m := Nat.div_le_self _ _
  rw [e, show (1 : Int) = ((1 : Nat) : Int) from rfl, bits_and_i64_nat _ _ (by omega) (by omega), Nat.testBit, Nat.shiftRight_eq_div_pow, Nat.and_comm]
  have h2 : 1 &&& m / 2 ^ x = (m / 2 ^ x) % 2 := by rw [Nat.and_comm]; exact Nat.and_one_is_mod _
  rw [h2]
  rcases Nat.mod_two_eq_zero_or_one (m / 2 ^ x) with h | h <;> rw [h] <;> rfl
set_option maxRecDepth 100000 in
set_option maxHeartbeats 1000000 in
theorem has_any (m x : Nat) (hm : m < 1024) (hx : x < 10) (w : World) : Calls Try.prog 57 #[.int .i64 (m : Int), .int .u8 (x : Int)] w fun e w' => e = .returned (.bool (m.testBit x)) ∧ w = w' := by
  have hx' : (x : Int) < 10 := by omega
  have hm' : (m : Int) < 1024 := by omega
  have hb := has_bit m x hm
  go_enter Try.func57, Try.ntmps57
  go_wp2
  go_ret
  exact ⟨by rw [← hb]; rfl, rfl⟩
set_option maxRecDepth 100000 in
set_option maxHeartbeats 1000000 in
theorem ones64_any (m : Nat) (hm : m < 1024) (w : World) : Calls Try.prog 95 #[.int .u64 (m : Int)] w fun e w' => e = .returned (.int .i64 (cn 10 (fun i => m.testBit i) : Nat)) ∧ w = w' := by
  have hm' : (m : Int) < 1024 := by omega
  go_enter Try.func95, Try.ntmps95
  go_wp2
  go_ret
  refine ⟨?_, rfl⟩
  show Ending.returned (Value.int .i64 _) = _
  refine congrArg (fun x => Ending.returned (Value.int .i64 x)) ?_
  clear hm'
  clear w
  revert m
  decide +kernel

set_option maxRecDepth 100000 in
set_option maxHeartbeats 1000000 in
theorem ones_any (m : Nat) (hm : m < 1024) (w : World) : Calls Try.prog 79 #[.int .u64 (m : Int)] w fun e w' => e = .returned (.int .i64 (cn 10 (fun i => m.testBit i) : Nat)) ∧ w = w' := by
  have hm' : (m : Int) < 1024 := by omega
  have H := ones64_any m hm w
  go_enter Try.func79, Try.ntmps79
  go_wp2_with (first | (go_at_call 95; ((with_reducible refine H.mono ?_); rintro e w1 ⟨rfl, rfl⟩)))
  go_ret
  exact ⟨rfl, rfl⟩
set_option maxRecDepth 100000 in
set_option maxHeartbeats 1000000 in
theorem size_any (m : Nat) (hm : m < 1024) (w : World) : Calls Try.prog 59 #[.int .i64 (m : Int)] w fun e w' => e = .returned (.int .i64 (cn 10 (fun i => m.testBit i) : Nat)) ∧ w = w' := by
  have hm' : (m : Int) < 1024 := by omega
  have H := ones_any m hm w
  go_enter Try.func59, Try.ntmps59
  go_wp2_with (first | (go_at_call 79; ((with_reducible refine H.mono ?_); rintro e w1 ⟨rfl, rfl⟩)))
  go_ret
  exact ⟨rfl, rfl⟩

theorem or_gt {m y : Nat} (h : m.testBit y = false) : m < m ||| 2 ^ y := by
  refine Nat.lt_of_le_of_ne Nat.left_le_or fun e => ?_
  have : (m ||| 2 ^ y).testBit y = true := by rw [Nat.testBit_or, Nat.testBit_two_pow_self]; simp
  rw [← e, h] at this; cases this
/-- The column whose entry in row a is that of y in row b. -/
noncomputable def sg (t : Nat → Nat → Nat) (a b y : Nat) : Nat := lq t a (t b y)
theorem sg_pm {n : Nat} {t : Nat → Nat → Nat} (hs : IsSq (n : Int) t) {a b : Nat} (ha : a < n) (hb : b < n) : Pm n (sg t a b) where
  lt y hy := by
    have h := (Lat.of_sq hs).lt b y hb hy
    have := (lq_lt hs (x := a) (z := t b y) (by omega) (by omega)).1
    show lq t a (t b y) < n; omega
  inj y z hy hz e := by
    have h1 := (Lat.of_sq hs).lt b y hb hy
    have h2 := (Lat.of_sq hs).lt b z hb hz
    have e1 := (lq_lt hs (x := a) (z := t b y) (by omega) (by omega)).2.1
    have e2 := (lq_lt hs (x := a) (z := t b z) (by omega) (by omega)).2.1
    have e3 : lq t a (t b y) = lq t a (t b z) := e
    rw [e3, e2] at e1
    exact (Lat.of_sq hs).left b y z hb hy hz e1.symm
/-- The columns of a cycle, as bits. -/
noncomputable def cyM (f : Nat → Nat) (c : Nat) : Nat := msk (fun i => it f i c) (clen f c)
theorem cyM_lt {n : Nat} {f : Nat → Nat} (hf : Pm n f) (hn : n ≤ 10) {c : Nat} (hc : c < n) (k : Nat) : msk (fun i => it f i c) k < 1024 := msk_lt _ 10 k fun i _ => by have := it_lt hf hc i; omega
theorem cyM_bit {f : Nat → Nat} {n c y : Nat} (hf : Pm n f) (hc : c < n) : (cyM f c).testBit y = true ↔ inO f c y := by
  unfold cyM
  rw [msk_bit]
  exact ⟨fun ⟨i, _, h⟩ => ⟨i, h⟩, fun h => inO_lt (clen_is hf hc).1 h⟩
theorem cyM_size {n : Nat} {f : Nat → Nat} (hf : Pm n f) (hn : n ≤ 10) {c : Nat} (hc : c < n) : cn 10 (fun i => (cyM f c).testBit i) = clen f c := by
  classical
  have h1 := (clen_is hf hc).1
  have h := cn_inj (N := 10) (e := fun i => it f i c) (b := fun _ => true) (k := clen f c) (fun i _ => by have := it_lt hf hc i; omega) fun i j hi hj e => it_inj hf hc h1 hi hj e
  have hk : ∀ k, cn k (fun _ => true) = k := fun k => by induction k with | zero => rfl | succ k ih => unfold cn; rw [ih]; rfl
  rw [hk] at h
  conv => rhs; rw [← h]
  refine cn_congr fun v _ => ?_
  rw [Bool.eq_iff_iff, decide_eq_true_iff]
  unfold cyM
  rw [msk_bit]
  exact ⟨fun ⟨i, h1, h2⟩ => ⟨i, h1, h2, rfl⟩, fun ⟨i, h1, h2, _⟩ => ⟨i, h1, h2⟩⟩

set_option maxRecDepth 100000 in
set_option maxHeartbeats 2000000 in
theorem cycle_any (n : Nat) (t : Nat → Nat → Nat) (hs : IsSq (n : Int) t) (a b c : Nat) (ha : a < n) (hb : b < n) (hc : c < n) (w : World) :
    Calls Try.prog 58 #[.agg (sqs (n : Int) t), .int .u8 (a : Int), .int .u8 (b : Int), .int .u8 (c : Int)] w fun e w' => e = .returned (.int .i64 (cyM (sg t a b) c : Nat)) ∧ Below w.heap.size w w' := by
  have M := Mm.start no w
  have hn : n ≤ 10 := by have := hs.hi; omega
  have hf := sg_pm hs ha hb
  have hcl := (clen_is hf hc).1
  have HY := Hid2.mk (fun i => it_lt hf hc i)
  have HM := Hid2.mk (fun k => cyM_lt hf hn hc k)
  have HLT := Hid2.mk (fun i j (hi : i < clen (sg t a b) c) (hj : j < clen (sg t a b) c) e => it_inj hf hc hcl hi hj e)
  have HBK := Hid2.mk hcl.back
  have HPS := Hid2.mk hcl.pos
  have HL := Hid2.mk (fun y (hy : y < n) w1 => left_any (n : Int) t hs a (t b y) (by omega) (by have := (Lat.of_sq hs).lt b y hb hy; omega) w1)
  have HIT := Hid2.mk (show ∀ i, it (sg t a b) (i + 1) c = lq t a (t b (it (sg t a b) i c)) from fun i => rfl)
  have hC : cyM (sg t a b) c = msk (fun i => it (sg t a b) i c) (clen (sg t a b) c) := rfl
  rw [hC]
  have HMS := Hid2.mk (show ∀ k, msk (fun i => it (sg t a b) i c) (k + 1) = msk (fun i => it (sg t a b) i c) k ||| 2 ^ it (sg t a b) k c from fun k => rfl)
  have HBT := Hid2.mk (fun v k => msk_bit (fun i => it (sg t a b) i c) v k)
  have h00 : it (sg t a b) 0 c = c := rfl
  have hm0 : msk (fun i => it (sg t a b) i c) 0 = 0 := rfl
  generalize clen (sg t a b) c = L at *
  generalize hF : (fun i => it (sg t a b) i c) = F at *
  have eF : ∀ i, it (sg t a b) i c = F i := fun i => by rw [← hF]
  simp only [eF] at HY HM HLT HBK HIT HMS HBT h00
  clear hC hF eF hf hcl
  have ha10 : (a : Int) < 10 := by omega
  have hb10 : (b : Int) < 10 := by omega
  have hc10 : (c : Int) < 10 := by omega
  go_enter Try.func58, Try.ntmps58
  go_wp2_with (first | ((with_reducible apply wpM_box' M 30 (sqs (n : Int) t)); rfl; exact ⟨rfl, rfl⟩; clear M; (try clear C); intro bq w9 h_bq M; have C := M.ruleAll; simp only [Go.Proofs.Yteonahoboligdaa.ruleAll] at C))
  go_loopw [9, 10] (fun o y wr => ∃ i : Nat, i ≤ L ∧ o = .int .i64 (msk F i : Nat) ∧ y = .int .u8 (F i : Nat) ∧ Mm no w wr [.box bq (sqs (n : Int) t) 30]) (fun o _ _ => 1024 - (intOf o).toNat)
  case atStart => exact ⟨0, by omega, by rw [hm0]; rfl, by rw [h00], M⟩
  case round =>
    obtain ⟨i, hi, rfl, rfl, M9⟩ := hrel
    clear M; (try clear C)
    have M := M9
    clear M9
    have C := M.ruleAll; simp only [Go.Proofs.Yteonahoboligdaa.ruleAll] at C
    have hy := HY.out i
    have hm := HM.out i
    have hm2 := HM.out (i + 1)
    have HH := Hid2.mk (fun w1 => has_any (msk F i) (F i) hm (by omega) w1)
    by_cases hiL : i = L
    · have hbit : (msk F i).testBit (F i) = true := (HBT.out _ _).2 ⟨0, by have := HPS.out; omega, by rw [hiL, HBK.out]; exact h00⟩
      rw [hbit] at HH
      clear hbit
      subst hiL
      have hy10 : (F i : Int) < 10 := by omega
      have hm10 : (msk F i : Int) < 1024 := by omega
      clear h00 hm0
      go_wp2_with (first | (go_at_call 57; ((with_reducible refine (HH.out _).mono ?_); rintro e w1 ⟨rfl, rfl⟩)))
      go_ret
      exact ⟨rfl, M.below⟩
    · have hbit : (msk F i).testBit (F i) = false := by
        rw [← Bool.not_eq_true, HBT.out]
        rintro ⟨j, hj, e⟩
        have := HLT.out j i (by omega) (by omega) e
        omega
      have hgt := or_gt hbit
      rw [hbit] at HH
      clear hbit
      have hor := bits_or_pow (msk F i) (F i) hm (by omega)
      rw [← HMS.out i] at hor hgt
      have HN := Hid2.mk (HIT.out i)
      have HLF := Hid2.mk (HL.out (F i) hy)
      have q1 := sqs_get (n := (n : Int)) (t := t) (x := b) (y := F i) (by omega) (by omega)
      rw [← HN.out] at HLF
      clear HN
      generalize t b (F i) = tv at q1 HLF
      have hi1 : i + 1 ≤ L := by omega
      have HE := Hid2.mk (show ∀ (o y : Value) (wr' : World), o = .int .i64 (msk F (i + 1) : Nat) → y = .int .u8 (F (i + 1) : Nat) → Mm no w wr' [.box bq (sqs (n : Int) t) 30] → ∃ i : Nat, i ≤ L ∧ o = .int .i64 (msk F i : Nat) ∧ y = .int .u8 (F i : Nat) ∧ Mm no w wr' [.box bq (sqs (n : Int) t) 30] from fun o y wr' h1 h2 h3 => ⟨i + 1, hi1, h1, h2, h3⟩)
      generalize msk F (i + 1) = m2 at *
      generalize F (i + 1) = y2 at *
      generalize msk F i = m at *
      generalize F i = y at *
      have hy10 : (y : Int) < 10 := by omega
      have hm10 : (m : Int) < 1024 := by omega
      clear h00 hm0
      go_wp2_with (first | (go_at_call 57; ((with_reducible refine (HH.out _).mono ?_); rintro e w1 ⟨rfl, rfl⟩)))
      apply wp_region_mm M 9 (by kernel_rfl) (by kernel_rfl); (simp only [List.take_succ_cons, List.take_zero]; repeat (first | exact wpText_nil | (apply wpText_cons; (intro w2 M; have C := M.ruleAll; simp only [Go.Proofs.Yteonahoboligdaa.ruleAll] at C; go_wp2_with (first | ((with_reducible apply wpM_lda' M 0 30 0 (sqs (n : Int) t)); rfl; rfl; rfl; exact ⟨rfl, inf_sqs.trans (congrArg some (sqs_size ..).symm), _, und_sqs, rfl⟩; exact whole_of rfl) | (go_at_call 78; ((with_reducible refine (HLF.out _).mono ?_); rintro e w1 ⟨rfl, hb⟩; have hsz := M.size; (try (have G9 := G.later hb; clear G; have G := G9; clear G9)); have M9 := M.later hb; clear M; (try clear C); have M := M9; clear M9; have C := M.ruleAll; simp only [Go.Proofs.Yteonahoboligdaa.ruleAll] at C))); exact ⟨rfl, rfl, M⟩); rfl))); (clear M; (try clear C); intro w2 M; simp only [List.drop_succ_cons, List.drop_zero]; have C := M.ruleAll; simp only [Go.Proofs.Yteonahoboligdaa.ruleAll] at C)
      go_wp2
      go_roundw
      case rel => exact HE.out _ _ _ (by first | rfl | exact congrArg (Value.int .i64) hor) rfl M
      case measure => simp [intOf]; omega
end Go.Proofs.Yteonahoboligdaa
