/- Sets as bits: contracts. -/
import Derived.Test.YteonahoboligdaaDoorL1
import Derived.Test.YteonahoboligdaaDoorB4
namespace Go.Proofs.YteonahoboligdaaDoor
set_option linter.unusedSimpArgs false
set_option linter.unusedVariables false
open Go Go.RowKit

theorem has_bit (m x : Nat) (hm : m < 1024) : (bits .and .i64 ((m : Int) / 2 ^ x) 1 == 1) = m.testBit x := by
  have e : ((m : Int) / 2 ^ x) = ((m / 2 ^ x : Nat) : Int) := by norm_cast
  have h : m / 2 ^ x ≤ m := Nat.div_le_self _ _
  rw [e, show (1 : Int) = ((1 : Nat) : Int) from rfl, bits_and_i64_nat _ _ (by omega) (by omega), Nat.testBit, Nat.shiftRight_eq_div_pow, Nat.and_comm]
  have h2 : 1 &&& m / 2 ^ x = (m / 2 ^ x) % 2 := by rw [Nat.and_comm]; exact Nat.and_one_is_mod _
  rw [h2]
  rcases Nat.mod_two_eq_zero_or_one (m / 2 ^ x) with h | h <;> rw [h] <;> rfl
set_option maxRecDepth 100000 in
set_option maxHeartbeats 1000000 in
theorem has_any (m x : Nat) (hm : m < 1024) (hx : x < 10) (w : World) : Calls Tryd.prog 62 #[.int .i64 (m : Int), .int .u8 (x : Int)] w fun e w' => e = .returned (.bool (m.testBit x)) ∧ w = w' := by
  have hx' : (x : Int) < 10 := by omega
  have hm' : (m : Int) < 1024 := by omega
  have hb := has_bit m x hm
  go_enter Tryd.func62, Tryd.ntmps62
  go_wp2
  go_ret
  exact ⟨by rw [← hb]; rfl, rfl⟩



theorem or_gt {m y : Nat} (h : m.testBit y = false) : m < m ||| 2 ^ y := by
  refine Nat.lt_of_le_of_ne Nat.left_le_or fun e => ?_
  have : (m ||| 2 ^ y).testBit y = true := by rw [Nat.testBit_or, Nat.testBit_two_pow_self]; simp
  rw [← e, h] at this; cases this
/-- The column whose entry in row a is that of y in row b. -/
noncomputable def sg (t : Nat → Nat → Nat) (a b y : Nat) : Nat := lq t a (t b y)
theorem sg_pm {n : Nat} {t : Nat → Nat → Nat} (hs : IsSq (n : Int) t) {a b : Nat} (ha : a < n) (hb : b < n) : Pm n (sg t a b) where
  lt y hy := by
    have h := (Lat.of_sq hs).lt b y hb hy
    have := (lq_lt hs (x := a) (z := t b y) (by omega) (by omega)).1
    show lq t a (t b y) < n; omega
  inj y z hy hz e := by
    have h1 := (Lat.of_sq hs).lt b y hb hy
    have h2 := (Lat.of_sq hs).lt b z hb hz
    have e1 := (lq_lt hs (x := a) (z := t b y) (by omega) (by omega)).2.1
    have e2 := (lq_lt hs (x := a) (z := t b z) (by omega) (by omega)).2.1
    have e3 : lq t a (t b y) = lq t a (t b z) := e
    rw [e3, e2] at e1
    exact (Lat.of_sq hs).left b y z hb hy hz e1.symm
/-- The columns of a cycle, as bits. -/
noncomputable def cyM (f : Nat → Nat) (c : Nat) : Nat := msk (fun i => it f i c) (clen f c)
theorem cyM_lt {n : Nat} {f : Nat → Nat} (hf : Pm n f) (hn : n ≤ 10) {c : Nat} (hc : c < n) (k : Nat) : msk (fun i => it f i c) k < 1024 := msk_lt _ 10 k fun i _ => by have := it_lt hf hc i; omega
theorem cyM_bit {f : Nat → Nat} {n c y : Nat} (hf : Pm n f) (hc : c < n) : (cyM f c).testBit y = true ↔ inO f c y := by
  unfold cyM
  rw [msk_bit]
  exact ⟨fun ⟨i, _, h⟩ => ⟨i, h⟩, fun h => inO_lt (clen_is hf hc).1 h⟩
theorem cyM_size {n : Nat} {f : Nat → Nat} (hf : Pm n f) (hn : n ≤ 10) {c : Nat} (hc : c < n) : cn 10 (fun i => (cyM f c).testBit i) = clen f c := by
  classical
  have h1 := (clen_is hf hc).1
  have h := cn_inj (N := 10) (e := fun i => it f i c) (b := fun _ => true) (k := clen f c) (fun i _ => by have := it_lt hf hc i; omega) fun i j hi hj e => it_inj hf hc h1 hi hj e
  have hk : ∀ k, cn k (fun _ => true) = k := fun k => by induction k with | zero => rfl | succ k ih => unfold cn; rw [ih]; rfl
  rw [hk] at h
  conv => rhs; rw [← h]
  refine cn_congr fun v _ => ?_
  rw [Bool.eq_iff_iff, decide_eq_true_iff]
  unfold cyM
  rw [msk_bit]
  exact ⟨fun ⟨i, h1, h2⟩ => ⟨i, h1, h2, rfl⟩, fun ⟨i, h1, h2, _⟩ => ⟨i, h1, h2⟩⟩


end Go.Proofs.YteonahoboligdaaDoor
