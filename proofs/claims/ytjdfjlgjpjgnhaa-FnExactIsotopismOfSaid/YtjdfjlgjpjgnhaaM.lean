/- Squares and permutations of up to ten numbers as plain mathematics. -/
import Derived.Test.YtjdfjlgjpjgnhaaK
namespace Go.Proofs.Ytjdfjlgjpjgnhaa

/-- Ten bytes; ten rows of ten bytes. -/
structure Byt (p : Nat → Nat) : Prop where
  at_ : ∀ i : Nat, i < 10 → p i < 256
structure Byt2 (t : Nat → Nat → Nat) : Prop where
  at_ : ∀ x y : Nat, x < 10 → y < 10 → t x y < 256
theorem Byt2.row {t : Nat → Nat → Nat} (h : Byt2 t) {x : Nat} (hx : x < 10) : Byt (t x) := ⟨fun y hy => h.at_ x y hx hy⟩
theorem Byt2.turn {t : Nat → Nat → Nat} (h : Byt2 t) : Byt2 (fun x y => t y x) := ⟨fun x y hx hy => h.at_ y x hy hx⟩

/-- Ten places hold a permutation of n numbers, and 0 behind. -/
structure IsPm (n : Int) (p : Nat → Nat) : Prop where
  lo : 1 ≤ n
  hi : n ≤ 10
  zero : ∀ i : Nat, i < 10 → n ≤ (i : Int) → p i = 0
  lt : ∀ i : Nat, i < 10 → (i : Int) < n → (p i : Int) < n
  inj : ∀ i j : Nat, i < 10 → j < i → (i : Int) < n → p i ≠ p j
open Classical in
noncomputable def isPm (n : Int) (p : Nat → Nat) : Bool := decide (IsPm n p)
theorem isPm_true {n : Int} {p : Nat → Nat} : isPm n p = true ↔ IsPm n p := by simp [isPm]
theorem isPm_false {n : Int} {p : Nat → Nat} : isPm n p = false ↔ ¬ IsPm n p := by simp [isPm]

/-- As far as k the places are those of a permutation. -/
structure PmTo (n : Int) (p : Nat → Nat) (k : Nat) : Prop where
  zero : ∀ i : Nat, i < k → n ≤ (i : Int) → p i = 0
  lt : ∀ i : Nat, i < k → (i : Int) < n → (p i : Int) < n
  inj : ∀ i j : Nat, i < k → j < i → (i : Int) < n → p i ≠ p j
theorem PmTo.start (n : Int) (p : Nat → Nat) : PmTo n p 0 := ⟨fun _ h => absurd h (by omega), fun _ h => absurd h (by omega), fun _ _ h => absurd h (by omega)⟩
theorem PmTo.behind {n : Int} {p : Nat → Nat} {k : Nat} (h : PmTo n p k) (hn : n ≤ (k : Int)) (hz : p k = 0) : PmTo n p (k + 1) :=
  ⟨fun i hi hn => if e : i = k then e ▸ hz else h.zero i (by omega) hn, fun i hi hn => if e : i = k then absurd hn (by omega) else h.lt i (by omega) hn,
   fun i j hi hj hn => if e : i = k then absurd hn (by omega) else h.inj i j (by omega) hj hn⟩
theorem PmTo.more {n : Int} {p : Nat → Nat} {k : Nat} (h : PmTo n p k) (hn : (k : Int) < n) (hl : (p k : Int) < n) (hz : ∀ j, j < k → p j ≠ p k) : PmTo n p (k + 1) :=
  ⟨fun i hi hn' => if e : i = k then absurd hn (by omega) else h.zero i (by omega) hn', fun i hi hn => if e : i = k then e ▸ hl else h.lt i (by omega) hn,
   fun i j hi hj hn => if e : i = k then by subst e; exact fun h' => hz j hj h'.symm else h.inj i j (by omega) hj hn⟩
theorem PmTo.all {n : Int} {p : Nat → Nat} (h : PmTo n p 10) (h1 : 1 ≤ n) (h2 : n ≤ 10) : isPm n p = true :=
  isPm_true.2 ⟨h1, h2, h.zero, h.lt, h.inj⟩

/-- The rows of a table are permutations, and those behind are 0. -/
structure IsRw (n : Int) (t : Nat → Nat → Nat) : Prop where
  row : ∀ x : Nat, x < 10 → (x : Int) < n → IsPm n (t x)
  zero : ∀ x y : Nat, x < 10 → y < 10 → n ≤ (x : Int) → t x y = 0
open Classical in
noncomputable def isRw (n : Int) (t : Nat → Nat → Nat) : Bool := decide (IsRw n t)
theorem isRw_true {n : Int} {t : Nat → Nat → Nat} : isRw n t = true ↔ IsRw n t := by simp [isRw]
theorem isRw_false {n : Int} {t : Nat → Nat → Nat} : isRw n t = false ↔ ¬ IsRw n t := by simp [isRw]

/-- A square: rows and columns are permutations. -/
structure IsSq (n : Int) (t : Nat → Nat → Nat) : Prop where
  lo : 1 ≤ n
  hi : n ≤ 10
  rows : IsRw n t
  cols : IsRw n (fun x y => t y x)
open Classical in
noncomputable def isSq (n : Int) (t : Nat → Nat → Nat) : Bool := decide (IsSq n t)
theorem isSq_true {n : Int} {t : Nat → Nat → Nat} : isSq n t = true ↔ IsSq n t := by simp [isSq]
theorem isSq_false {n : Int} {t : Nat → Nat → Nat} : isSq n t = false ↔ ¬ IsSq n t := by simp [isSq]

/-- A loop: 0 is neutral. -/
structure IsLp (n : Int) (t : Nat → Nat → Nat) : Prop where
  sq : IsSq n t
  left : ∀ x : Nat, x < 10 → (x : Int) < n → t 0 x = x
  right : ∀ x : Nat, x < 10 → (x : Int) < n → t x 0 = x
open Classical in
noncomputable def isLp (n : Int) (t : Nat → Nat → Nat) : Bool := decide (IsLp n t)
theorem isLp_true {n : Int} {t : Nat → Nat → Nat} : isLp n t = true ↔ IsLp n t := by simp [isLp]
theorem isLp_false {n : Int} {t : Nat → Nat → Nat} : isLp n t = false ↔ ¬ IsLp n t := by simp [isLp]

/-! ### One map of numbers into themselves: what leads no two to one has all -/
theorem surj_of_inj : ∀ (N : Nat) (f : Nat → Nat), (∀ i, i < N → f i < N) → (∀ i j, i < N → j < N → f i = f j → i = j) → ∀ v, v < N → ∃ i, i < N ∧ f i = v
  | 0, _, _, _, _, hv => absurd hv (by omega)
  | N + 1, f, hl, hi, v, hv => by
    have ih := surj_of_inj N (fun i => if f i = N then f N else f i) (fun i hiN => by
      have h1 := hl i (by omega)
      have h2 := hl N (by omega)
      split
      · rename_i h
        have : f N ≠ N := fun h' => by have := hi i N (by omega) (by omega) (by omega); omega
        omega
      · omega) (fun i j hiN hjN h => by
      have h1 := hi i j (by omega) (by omega)
      have h2 := hi i N (by omega) (by omega)
      have h3 := hi j N (by omega) (by omega)
      split at h <;> split at h
      · rename_i a b; exact h1 (by omega)
      · rename_i a b; exact absurd (h3 h.symm) (by omega)
      · rename_i a b; exact absurd (h2 h) (by omega)
      · exact h1 h)
    by_cases hN : f N = v
    · exact ⟨N, by omega, hN⟩
    by_cases hv' : v = N
    · subst hv'
      obtain ⟨i, hi1, hi2⟩ := ih (f v) (by have := hl v (by omega); omega)
      split at hi2
      · rename_i h; exact ⟨i, by omega, h⟩
      · have := hi i v (by omega) (by omega) hi2; omega
    · obtain ⟨i, hi1, hi2⟩ := ih v (by omega)
      split at hi2
      · exact absurd hi2 hN
      · exact ⟨i, by omega, hi2⟩
theorem inj_of_surj (N : Nat) (f : Nat → Nat) (hs : ∀ v, v < N → ∃ i, i < N ∧ f i = v) : ∀ i j, i < N → j < N → f i = f j → i = j := by
  have hg : ∃ g : Nat → Nat, ∀ v, v < N → g v < N ∧ f (g v) = v := by
    refine ⟨fun v => if h : v < N then Classical.choose (hs v h) else 0, fun v hv => ?_⟩
    simp only [hv, dif_pos]
    exact Classical.choose_spec (hs v hv)
  obtain ⟨g, hg⟩ := hg
  have hsur := surj_of_inj N g (fun i hi => (hg i hi).1) (fun i j hi hj h => by rw [← (hg i hi).2, ← (hg j hj).2, h])
  intro i j hi hj h
  obtain ⟨a, ha, rfl⟩ := hsur i hi
  obtain ⟨b, hb, rfl⟩ := hsur j hj
  rw [(hg a ha).2, (hg b hb).2] at h
  rw [h]

/-! ### Sets of numbers as bits -/
theorem wrap_i64_nat (a : Nat) (ha : a < 9223372036854775808) : IntKind.i64.wrap (a : Int) = a := by
  have h : IntKind.i64.wrap (a : Int) = Go.RowKit.wrap64 a := by
    simp only [IntKind.wrap, IntKind.bits, IntKind.signed, Go.RowKit.wrap64]
    simp
    split <;> omega
  rw [h]; unfold Go.RowKit.wrap64; omega
theorem ofInt_i64_nat (a : Nat) (ha : a < 9223372036854775808) : (BitVec.ofInt 64 (a : Int)).toNat = a := by
  rw [BitVec.ofInt_natCast, BitVec.toNat_ofNat]; exact Nat.mod_eq_of_lt (by omega)
theorem bits_or_i64_nat (a b : Nat) (ha : a < 9223372036854775808) (hb : b < 9223372036854775808) : bits .or .i64 (a : Int) (b : Int) = ((a ||| b : Nat) : Int) := by
  have hx : a ||| b < 2 ^ 63 := Nat.or_lt_two_pow (by omega) (by omega)
  show IntKind.i64.wrap ((BitVec.ofInt 64 (a : Int) ||| BitVec.ofInt 64 (b : Int)).toNat : Int) = _
  rw [BitVec.toNat_or, ofInt_i64_nat a ha, ofInt_i64_nat b hb]
  exact wrap_i64_nat _ (by omega)
theorem bits_and_i64_nat (a b : Nat) (ha : a < 9223372036854775808) (hb : b < 9223372036854775808) : bits .and .i64 (a : Int) (b : Int) = ((a &&& b : Nat) : Int) := by
  have hx : a &&& b < 2 ^ 63 := Nat.and_lt_two_pow _ (by omega)
  show IntKind.i64.wrap ((BitVec.ofInt 64 (a : Int) &&& BitVec.ofInt 64 (b : Int)).toNat : Int) = _
  rw [BitVec.toNat_and, ofInt_i64_nat a ha, ofInt_i64_nat b hb]
  exact wrap_i64_nat _ (by omega)
theorem bits_or_pow (a k : Nat) (ha : a < 1024) (hk : k < 10) : bits .or .i64 (a : Int) (Go.RowKit.wrap64 (2 ^ k)) = ((a ||| 2 ^ k : Nat) : Int) := by
  have h : (2 : Nat) ^ k < 2 ^ 10 := Nat.pow_lt_pow_right (by omega) hk
  have e : Go.RowKit.wrap64 (2 ^ k) = ((2 ^ k : Nat) : Int) := by
    rw [show ((2 : Int) ^ k) = ((2 ^ k : Nat) : Int) by norm_cast]
    generalize 2 ^ k = m at h ⊢
    unfold Go.RowKit.wrap64
    omega
  rw [e]
  exact bits_or_i64_nat _ _ (by omega) (by omega)
/-- The bits of the first k values of f. -/
def msk (f : Nat → Nat) : Nat → Nat
  | 0 => 0
  | k + 1 => msk f k ||| 2 ^ f k
theorem msk_bit (f : Nat → Nat) (v : Nat) : ∀ k, (msk f k).testBit v = true ↔ ∃ i, i < k ∧ f i = v
  | 0 => by simp [msk]
  | k + 1 => by
    simp only [msk, Nat.testBit_or, Nat.testBit_two_pow, Bool.or_eq_true, msk_bit f v k, decide_eq_true_eq]
    constructor
    · rintro (⟨i, h1, h2⟩ | h)
      · exact ⟨i, by omega, h2⟩
      · exact ⟨k, by omega, h⟩
    · rintro ⟨i, h1, h2⟩
      by_cases h : i = k
      · subst h; exact .inr h2
      · exact .inl ⟨i, by omega, h2⟩
theorem msk_lt (f : Nat → Nat) (N : Nat) : ∀ k, (∀ i, i < k → f i < N) → msk f k < 2 ^ N
  | 0, _ => by simp [msk]; exact Nat.two_pow_pos N
  | k + 1, h => by
    refine Nat.or_lt_two_pow (msk_lt f N k fun i hi => h i (by omega)) ?_
    exact Nat.pow_lt_pow_right (by omega) (h k (by omega))
theorem msk_full (f : Nat → Nat) (N : Nat) (hl : ∀ i, i < N → f i < N) : msk f N = 2 ^ N - 1 ↔ ∀ i j, i < N → j < N → f i = f j → i = j := by
  constructor
  · intro h
    refine inj_of_surj N f fun v hv => ?_
    have : (msk f N).testBit v = true := by rw [h, Nat.testBit_two_pow_sub_one]; simpa using hv
    exact (msk_bit f v N).1 this
  · intro h
    apply Nat.eq_of_testBit_eq
    intro v
    rw [Nat.testBit_two_pow_sub_one]
    by_cases hv : v < N
    · obtain ⟨i, h1, h2⟩ := surj_of_inj N f hl h v hv
      simp [hv, (msk_bit f v N).2 ⟨i, h1, h2⟩]
    · simp only [hv, decide_false]
      rw [← Bool.not_eq_true, msk_bit]
      rintro ⟨i, h1, h2⟩
      have := hl i h1
      omega
theorem full64 {N : Nat} (h : N ≤ 10) : Go.RowKit.wrap64 (Go.RowKit.wrap64 (2 ^ N) - 1) = ((2 ^ N - 1 : Nat) : Int) := by
  have h2 : (2 : Nat) ^ N ≤ 2 ^ 10 := Nat.pow_le_pow_right (by omega) h
  have h3 : 0 < (2 : Nat) ^ N := Nat.two_pow_pos N
  rw [show ((2 : Int) ^ N) = ((2 ^ N : Nat) : Int) by norm_cast]
  generalize 2 ^ N = m at h2 h3 ⊢
  unfold Go.RowKit.wrap64
  omega
/-- One number more among the bits of a row, as the walk writes it. -/
theorem msk_step {f : Nat → Nat} {l N : Nat} (hl : l < N) (hN : N ≤ 10) (hlt : ∀ i, i ≤ l → f i < N) : bits .or .i64 ((msk f (min l N) : Nat) : Int) (Go.RowKit.wrap64 (2 ^ f l)) = ((msk f (min (l + 1) N) : Nat) : Int) := by
  rw [show min l N = l by omega, show min (l + 1) N = l + 1 by omega]
  have h1 := msk_lt f 10 l fun i hi => by have := hlt i (by omega); omega
  exact bits_or_pow _ _ (by omega) (by have := hlt l (by omega); omega)
end Go.Proofs.Ytjdfjlgjpjgnhaa
