/- Squares and permutations of up to ten numbers as plain mathematics. -/
import Derived.Test.YtinjjaoikofkdaaDoorQ1
import Derived.ArgAppend
namespace Go.Proofs.YtinjjaoikofkdaaDoor
set_option linter.unusedSimpArgs false
set_option linter.unusedVariables false

/-- Ten bytes; ten rows of ten bytes. -/
structure Byt (p : Nat → Nat) : Prop where
  at_ : ∀ i : Nat, i < 10 → p i < 256
structure Byt2 (t : Nat → Nat → Nat) : Prop where
  at_ : ∀ x y : Nat, x < 10 → y < 10 → t x y < 256
theorem Byt2.row {t : Nat → Nat → Nat} (h : Byt2 t) {x : Nat} (hx : x < 10) : Byt (t x) := ⟨fun y hy => h.at_ x y hx hy⟩
theorem Byt2.turn {t : Nat → Nat → Nat} (h : Byt2 t) : Byt2 (fun x y => t y x) := ⟨fun x y hx hy => h.at_ y x hy hx⟩

/-- Ten places hold a permutation of n numbers, and 0 behind. -/
structure IsPm (n : Int) (p : Nat → Nat) : Prop where
  lo : 1 ≤ n
  hi : n ≤ 10
  zero : ∀ i : Nat, i < 10 → n ≤ (i : Int) → p i = 0
  lt : ∀ i : Nat, i < 10 → (i : Int) < n → (p i : Int) < n
  inj : ∀ i j : Nat, i < 10 → j < i → (i : Int) < n → p i ≠ p j
open Classical in
noncomputable def isPm (n : Int) (p : Nat → Nat) : Bool := decide (IsPm n p)
theorem isPm_true {n : Int} {p : Nat → Nat} : isPm n p = true ↔ IsPm n p := by simp [isPm]
theorem isPm_false {n : Int} {p : Nat → Nat} : isPm n p = false ↔ ¬ IsPm n p := by simp [isPm]

/-- As far as k the places are those of a permutation. -/
structure PmTo (n : Int) (p : Nat → Nat) (k : Nat) : Prop where
  zero : ∀ i : Nat, i < k → n ≤ (i : Int) → p i = 0
  lt : ∀ i : Nat, i < k → (i : Int) < n → (p i : Int) < n
  inj : ∀ i j : Nat, i < k → j < i → (i : Int) < n → p i ≠ p j
theorem PmTo.start (n : Int) (p : Nat → Nat) : PmTo n p 0 := ⟨fun _ h => absurd h (by omega), fun _ h => absurd h (by omega), fun _ _ h => absurd h (by omega)⟩
theorem PmTo.behind {n : Int} {p : Nat → Nat} {k : Nat} (h : PmTo n p k) (hn : n ≤ (k : Int)) (hz : p k = 0) : PmTo n p (k + 1) :=
  ⟨fun i hi hn => if e : i = k then e ▸ hz else h.zero i (by omega) hn, fun i hi hn => if e : i = k then absurd hn (by omega) else h.lt i (by omega) hn,
   fun i j hi hj hn => if e : i = k then absurd hn (by omega) else h.inj i j (by omega) hj hn⟩
theorem PmTo.more {n : Int} {p : Nat → Nat} {k : Nat} (h : PmTo n p k) (hn : (k : Int) < n) (hl : (p k : Int) < n) (hz : ∀ j, j < k → p j ≠ p k) : PmTo n p (k + 1) :=
  ⟨fun i hi hn' => if e : i = k then absurd hn (by omega) else h.zero i (by omega) hn', fun i hi hn => if e : i = k then e ▸ hl else h.lt i (by omega) hn,
   fun i j hi hj hn => if e : i = k then by subst e; exact fun h' => hz j hj h'.symm else h.inj i j (by omega) hj hn⟩
theorem PmTo.all {n : Int} {p : Nat → Nat} (h : PmTo n p 10) (h1 : 1 ≤ n) (h2 : n ≤ 10) : isPm n p = true :=
  isPm_true.2 ⟨h1, h2, h.zero, h.lt, h.inj⟩

/-- The rows of a table are permutations, and those behind are 0. -/
structure IsRw (n : Int) (t : Nat → Nat → Nat) : Prop where
  row : ∀ x : Nat, x < 10 → (x : Int) < n → IsPm n (t x)
  zero : ∀ x y : Nat, x < 10 → y < 10 → n ≤ (x : Int) → t x y = 0
open Classical in
noncomputable def isRw (n : Int) (t : Nat → Nat → Nat) : Bool := decide (IsRw n t)
theorem isRw_true {n : Int} {t : Nat → Nat → Nat} : isRw n t = true ↔ IsRw n t := by simp [isRw]
theorem isRw_false {n : Int} {t : Nat → Nat → Nat} : isRw n t = false ↔ ¬ IsRw n t := by simp [isRw]

/-- A square: rows and columns are permutations. -/
structure IsSq (n : Int) (t : Nat → Nat → Nat) : Prop where
  lo : 1 ≤ n
  hi : n ≤ 10
  rows : IsRw n t
  cols : IsRw n (fun x y => t y x)
open Classical in
noncomputable def isSq (n : Int) (t : Nat → Nat → Nat) : Bool := decide (IsSq n t)
theorem isSq_true {n : Int} {t : Nat → Nat → Nat} : isSq n t = true ↔ IsSq n t := by simp [isSq]
theorem isSq_false {n : Int} {t : Nat → Nat → Nat} : isSq n t = false ↔ ¬ IsSq n t := by simp [isSq]

/-- A loop: 0 is neutral. -/
structure IsLp (n : Int) (t : Nat → Nat → Nat) : Prop where
  sq : IsSq n t
  left : ∀ x : Nat, x < 10 → (x : Int) < n → t 0 x = x
  right : ∀ x : Nat, x < 10 → (x : Int) < n → t x 0 = x
open Classical in
noncomputable def isLp (n : Int) (t : Nat → Nat → Nat) : Bool := decide (IsLp n t)
theorem isLp_true {n : Int} {t : Nat → Nat → Nat} : isLp n t = true ↔ IsLp n t := by simp [isLp]
theorem isLp_false {n : Int} {t : Nat → Nat → Nat} : isLp n t = false ↔ ¬ IsLp n t := by simp [isLp]

/-! ### One map of numbers into themselves: what leads no two to one has all -/
theorem surj_of_inj : ∀ (N : Nat) (f : Nat → Nat), (∀ i, i < N → f i < N) → (∀ i j, i < N → j < N → f i = f j → i = j) → ∀ v, v < N → ∃ i, i < N ∧ f i = v
  | 0, _, _, _, _, hv => absurd hv (by omega)
  | N + 1, f, hl, hi, v, hv => by
    have ih := surj_of_inj N (fun i => if f i = N then f N else f i) (fun i hiN => by
      have h1 := hl i (by omega)
      have h2 := hl N (by omega)
      split
      · rename_i h
        have : f N ≠ N := fun h' => by have := hi i N (by omega) (by omega) (by omega); omega
        omega
      · omega) (fun i j hiN hjN h => by
      have h1 := hi i j (by omega) (by omega)
      have h2 := hi i N (by omega) (by omega)
      have h3 := hi j N (by omega) (by omega)
      split at h <;> split at h
      · rename_i a b; exact h1 (by omega)
      · rename_i a b; exact absurd (h3 h.symm) (by omega)
      · rename_i a b; exact absurd (h2 h) (by omega)
      · exact h1 h)
    by_cases hN : f N = v
    · exact ⟨N, by omega, hN⟩
    by_cases hv' : v = N
    · subst hv'
      obtain ⟨i, hi1, hi2⟩ := ih (f v) (by have := hl v (by omega); omega)
      split at hi2
      · rename_i h; exact ⟨i, by omega, h⟩
      · have := hi i v (by omega) (by omega) hi2; omega
    · obtain ⟨i, hi1, hi2⟩ := ih v (by omega)
      split at hi2
      · exact absurd hi2 hN
      · exact ⟨i, by omega, hi2⟩
theorem inj_of_surj (N : Nat) (f : Nat → Nat) (hs : ∀ v, v < N → ∃ i, i < N ∧ f i = v) : ∀ i j, i < N → j < N → f i = f j → i = j := by
  have hg : ∃ g : Nat → Nat, ∀ v, v < N → g v < N ∧ f (g v) = v := by
    refine ⟨fun v => if h : v < N then Classical.choose (hs v h) else 0, fun v hv => ?_⟩
    simp only [hv, dif_pos]
    exact Classical.choose_spec (hs v hv)
  obtain ⟨g, hg⟩ := hg
  have hsur := surj_of_inj N g (fun i hi => (hg i hi).1) (fun i j hi hj h => by rw [← (hg i hi).2, ← (hg j hj).2, h])
  intro i j hi hj h
  obtain ⟨a, ha, rfl⟩ := hsur i hi
  obtain ⟨b, hb, rfl⟩ := hsur j hj
  rw [(hg a ha).2, (hg b hb).2] at h
  rw [h]

/-! ### Sets of numbers as bits -/
theorem wrap_i64_nat (a : Nat) (ha : a < 9223372036854775808) : IntKind.i64.wrap (a : Int) = a := by
  have h : IntKind.i64.wrap (a : Int) = Go.RowKit.wrap64 a := by
    simp only [IntKind.wrap, IntKind.bits, IntKind.signed, Go.RowKit.wrap64]
    simp
    split <;> omega
  rw [h]; unfold Go.RowKit.wrap64; omega
theorem ofInt_i64_nat (a : Nat) (ha : a < 9223372036854775808) : (BitVec.ofInt 64 (a : Int)).toNat = a := by
  rw [BitVec.ofInt_natCast, BitVec.toNat_ofNat]; exact Nat.mod_eq_of_lt (by omega)
theorem bits_or_i64_nat (a b : Nat) (ha : a < 9223372036854775808) (hb : b < 9223372036854775808) : bits .or .i64 (a : Int) (b : Int) = ((a ||| b : Nat) : Int) := by
  have hx : a ||| b < 2 ^ 63 := Nat.or_lt_two_pow (by omega) (by omega)
  show IntKind.i64.wrap ((BitVec.ofInt 64 (a : Int) ||| BitVec.ofInt 64 (b : Int)).toNat : Int) = _
  rw [BitVec.toNat_or, ofInt_i64_nat a ha, ofInt_i64_nat b hb]
  exact wrap_i64_nat _ (by omega)
theorem bits_and_i64_nat (a b : Nat) (ha : a < 9223372036854775808) (hb : b < 9223372036854775808) : bits .and .i64 (a : Int) (b : Int) = ((a &&& b : Nat) : Int) := by
  have hx : a &&& b < 2 ^ 63 := Nat.and_lt_two_pow _ (by omega)
  show IntKind.i64.wrap ((BitVec.ofInt 64 (a : Int) &&& BitVec.ofInt 64 (b : Int)).toNat : Int) = _
  rw [BitVec.toNat_and, ofInt_i64_nat a ha, ofInt_i64_nat b hb]
  exact wrap_i64_nat _ (by omega)
theorem bits_or_pow (a k : Nat) (ha : a < 1024) (hk : k < 10) : bits .or .i64 (a : Int) (Go.RowKit.wrap64 (2 ^ k)) = ((a ||| 2 ^ k : Nat) : Int) := by
  have h : (2 : Nat) ^ k < 2 ^ 10 := Nat.pow_lt_pow_right (by omega) hk
  have e : Go.RowKit.wrap64 (2 ^ k) = ((2 ^ k : Nat) : Int) := by
    rw [show ((2 : Int) ^ k) = ((2 ^ k : Nat) : Int) by norm_cast]
    generalize 2 ^ k = m at h ⊢
    unfold Go.RowKit.wrap64
    omega
  rw [e]
  exact bits_or_i64_nat _ _ (by omega) (by omega)
/-- The bits of the first k values of f. -/
def msk (f : Nat → Nat) : Nat → Nat
  | 0 => 0
  | k + 1 => msk f k ||| 2 ^ f k
theorem msk_bit (f : Nat → Nat) (v : Nat) : ∀ k, (msk f k).testBit v = true ↔ ∃ i, i < k ∧ f i = v
  | 0 => by simp [msk]
  | k + 1 => by
    simp only [msk, Nat.testBit_or, Nat.testBit_two_pow, Bool.or_eq_true, msk_bit f v k, decide_eq_true_eq]
    constructor
    · rintro (⟨i, h1, h2⟩ | h)
      · exact ⟨i, by omega, h2⟩
      · exact ⟨k, by omega, h⟩
    · rintro ⟨i, h1, h2⟩
      by_cases h : i = k
      · subst h; exact .inr h2
      · exact .inl ⟨i, by omega, h2⟩
theorem msk_lt (f : Nat → Nat) (N : Nat) : ∀ k, (∀ i, i < k → f i < N) → msk f k < 2 ^ N
  | 0, _ => by simp [msk]; exact Nat.two_pow_pos N
  | k + 1, h => by
    refine Nat.or_lt_two_pow (msk_lt f N k fun i hi => h i (by omega)) ?_
    exact Nat.pow_lt_pow_right (by omega) (h k (by omega))
theorem msk_full (f : Nat → Nat) (N : Nat) (hl : ∀ i, i < N → f i < N) : msk f N = 2 ^ N - 1 ↔ ∀ i j, i < N → j < N → f i = f j → i = j := by
  constructor
  · intro h
    refine inj_of_surj N f fun v hv => ?_
    have : (msk f N).testBit v = true := by rw [h, Nat.testBit_two_pow_sub_one]; simpa using hv
    exact (msk_bit f v N).1 this
  · intro h
    apply Nat.eq_of_testBit_eq
    intro v
    rw [Nat.testBit_two_pow_sub_one]
    by_cases hv : v < N
    · obtain ⟨i, h1, h2⟩ := surj_of_inj N f hl h v hv
      simp [hv, (msk_bit f v N).2 ⟨i, h1, h2⟩]
    · simp only [hv, decide_false]
      rw [← Bool.not_eq_true, msk_bit]
      rintro ⟨i, h1, h2⟩
      have := hl i h1
      omega
theorem full64 {N : Nat} (h : N ≤ 10) : Go.RowKit.wrap64 (Go.RowKit.wrap64 (2 ^ N) - 1) = ((2 ^ N - 1 : Nat) : Int) := by
  have h2 : (2 : Nat) ^ N ≤ 2 ^ 10 := Nat.pow_le_pow_right (by omega) h
  have h3 : 0 < (2 : Nat) ^ N := Nat.two_pow_pos N
  rw [show ((2 : Int) ^ N) = ((2 ^ N : Nat) : Int) by norm_cast]
  generalize 2 ^ N = m at h2 h3 ⊢
  unfold Go.RowKit.wrap64
  omega
/-- One number more among the bits of a row, as the walk writes it. -/
theorem msk_step {f : Nat → Nat} {l N : Nat} (hl : l < N) (hN : N ≤ 10) (hlt : ∀ i, i ≤ l → f i < N) : bits .or .i64 ((msk f (min l N) : Nat) : Int) (Go.RowKit.wrap64 (2 ^ f l)) = ((msk f (min (l + 1) N) : Nat) : Int) := by
  rw [show min l N = l by omega, show min (l + 1) N = l + 1 by omega]
  have h1 := msk_lt f 10 l fun i hi => by have := hlt i (by omega); omega
  exact bits_or_pow _ _ (by omega) (by have := hlt l (by omega); omega)
end Go.Proofs.YtinjjaoikofkdaaDoor

/- Permutations, triples and isotopes as plain functions. -/
namespace Go.Proofs.YtinjjaoikofkdaaDoor
set_option linter.unusedSimpArgs false
set_option linter.unusedVariables false

/-- The first k numbers, each at its own place. -/
def idTo (k : Nat) : Nat → Nat := fun i => if i < k then i else 0
/-- p then q, as far as k. -/
def thTo (p q : Nat → Nat) (k : Nat) : Nat → Nat := fun i => if i < k then q (p i) else 0
/-- What leads back the first k places. -/
def bkTo (p : Nat → Nat) : Nat → Nat → Nat
  | 0 => fun _ => 0
  | k + 1 => fun v => if v = p k then k else bkTo p k v
/-- A column, as far as k. -/
def clTo (t : Nat → Nat → Nat) (y k : Nat) : Nat → Nat := fun x => if x < k then t x y else 0

theorem grow_ext {f : Nat → Nat} {k v : Nat} : (bys fun j => if j < k then f j else 0).setIfInBounds k (.int .u8 (v : Int)) = bys fun j => if j = k then v else if j < k then f j else 0 := bys_set _ _ _
theorem idTo_set (k : Nat) : (bys (idTo k)).setIfInBounds k (.int .u8 (k : Int)) = bys (idTo (k + 1)) := bys_grow (fun i => i) k
theorem thTo_set (p q : Nat → Nat) (k : Nat) : (bys (thTo p q k)).setIfInBounds k (.int .u8 (q (p k) : Int)) = bys (thTo p q (k + 1)) := bys_grow (fun i => q (p i)) k
theorem clTo_set (t : Nat → Nat → Nat) (y k : Nat) : (bys (clTo t y k)).setIfInBounds k (.int .u8 (t k y : Int)) = bys (clTo t y (k + 1)) := bys_grow (fun i => t i y) k
theorem bkTo_set (p : Nat → Nat) (k : Nat) : (bys (bkTo p k)).setIfInBounds (p k) (.int .u8 (k : Int)) = bys (bkTo p (k + 1)) := bys_set _ _ _
theorem clTo_all (t : Nat → Nat → Nat) (y : Nat) : ∀ i, i < 10 → clTo t y 10 i = (fun x => t x y) i := fun i hi => by simp [clTo, hi]
/-- 0 and e exchanged among the first N numbers. -/
def xch (N e : Nat) : Nat → Nat := fun i => if i = e then 0 else if i = 0 then e else idTo N i
/-- The table to which three maps lead a table of order N, behind m steps. -/
def isoW (N : Nat) (t : Nat → Nat → Nat) (f g h : Nat → Nat) : Nat → Nat → Nat → Nat
  | 0 => fun _ _ => 0
  | m + 1 => fun i j => if i = f (m / N) ∧ j = g (m % N) then h (t (m / N) (m % N)) else isoW N t f g h m i j
end Go.Proofs.YtinjjaoikofkdaaDoor

/- All isomorphisms that extend a part of one, in order. -/
namespace Go.Proofs.YtinjjaoikofkdaaDoor
set_option linter.unusedSimpArgs false
set_option linter.unusedVariables false

theorem flatMap_congr' {α β : Type} {l : List α} {f g : α → List β} (h : ∀ a ∈ l, f a = g a) : l.flatMap f = l.flatMap g := by
  induction l with
  | nil => rfl
  | cons a l ih => rw [List.flatMap_cons, List.flatMap_cons, h a (by simp), ih fun b hb => h b (by simp [hb])]
theorem nodup_flatMap' {α β : Type} {f : α → List β} : ∀ {l : List α}, (∀ a ∈ l, (f a).Nodup) → l.Pairwise (fun a b => ∀ x ∈ f a, ∀ y ∈ f b, x ≠ y) → (l.flatMap f).Nodup
  | [], _, _ => by simp
  | a :: l, h1, h2 => by
    rw [List.flatMap_cons, List.nodup_append]
    refine ⟨h1 a (by simp), nodup_flatMap' (fun b hb => h1 b (by simp [hb])) (List.pairwise_cons.1 h2).2, fun x hx y hy => ?_⟩
    obtain ⟨b, hb, hyb⟩ := List.mem_flatMap.1 hy
    exact (List.pairwise_cons.1 h2).1 b hb x hx y hyb

/-- All words of k numbers below N, in order. -/
def words (N : Nat) : Nat → List (List Nat)
  | 0 => [[]]
  | k + 1 => (List.range N).flatMap fun y => (words N k).map (y :: ·)
theorem mem_words {N : Nat} : ∀ {k : Nat} {p : List Nat}, p ∈ words N k ↔ p.length = k ∧ ∀ v ∈ p, v < N
  | 0, p => by
    simp only [words, List.mem_singleton]
    constructor
    · rintro rfl; simp
    · rintro ⟨h, _⟩; exact List.eq_nil_of_length_eq_zero h
  | k + 1, p => by
    simp only [words, List.mem_flatMap, List.mem_range, List.mem_map]
    constructor
    · rintro ⟨y, hy, q, hq, rfl⟩
      obtain ⟨h1, h2⟩ := mem_words.1 hq
      refine ⟨by simp [h1], fun v hv => ?_⟩
      rcases List.mem_cons.1 hv with rfl | hv
      · exact hy
      · exact h2 v hv
    · rintro ⟨h1, h2⟩
      cases p with
      | nil => simp at h1
      | cons y q => exact ⟨y, h2 y (by simp), q, mem_words.2 ⟨by simpa using h1, fun v hv => h2 v (by simp [hv])⟩, rfl⟩

/-- A list that is put together of those parts whose key is 0, 1, .. : where the words that count agree ahead of the place x. -/
theorem words_split (N : Nat) : ∀ (k x : Nat) (a : Nat → Nat) (Q : List Nat → Bool), x < k → (∀ p, p ∈ words N k → Q p = true → ∀ i, i < x → p.getD i 0 = a i) →
    (words N k).filter Q = (List.range N).flatMap fun y => (words N k).filter fun p => Q p && decide (p.getD x 0 = y)
  | 0, _, _, _, h, _ => absurd h (by omega)
  | k + 1, 0, a, Q, _, _ => by
    have key : ∀ y, y < N → ((words N (k + 1)).filter fun p => Q p && decide (p.getD 0 0 = y)) = ((words N k).map (y :: ·)).filter Q := by
      intro y hy
      simp only [words, List.filter_flatMap]
      have h1 : ∀ z, (((words N k).map (z :: ·)).filter fun p => Q p && decide (p.getD 0 0 = y)) = if z = y then ((words N k).map (y :: ·)).filter Q else [] := by
        intro z
        split
        · rename_i h; subst h
          refine List.filter_congr fun p hp => ?_
          obtain ⟨q, _, rfl⟩ := List.mem_map.1 hp
          simp
        · rename_i h
          refine List.filter_eq_nil_iff.2 fun p hp => ?_
          obtain ⟨q, _, rfl⟩ := List.mem_map.1 hp
          simp [h]
      simp only [h1]
      have h2 : ∀ (l : List Nat) (c : List (List Nat)), l.Nodup → (l.flatMap fun z => if z = y then c else []) = if y ∈ l then c else [] := by
        intro l c
        induction l with
        | nil => intro _; simp
        | cons z l ih =>
          intro hn
          rw [List.flatMap_cons, ih (List.nodup_cons.1 hn).2]
          by_cases hz : z = y
          · subst hz
            have := (List.nodup_cons.1 hn).1
            simp [this]
          · have : ¬ y = z := fun h => hz h.symm
            simp [hz, this]
      rw [h2 _ _ List.nodup_range]
      simp [hy]
    have h3 : (words N (k + 1)).filter Q = (List.range N).flatMap fun y => ((words N k).map (y :: ·)).filter Q := by simp only [words, List.filter_flatMap]
    rw [h3]
    refine flatMap_congr' fun y hy => ?_
    exact (key y (List.mem_range.1 hy)).symm
  | k + 1, x + 1, a, Q, h, hQ => by
    have ih := fun z : Nat => words_split N k x (fun i => a (i + 1)) (fun p => Q (z :: p)) (by omega)
    have hz : ∀ z, z < N → ((words N k).map (z :: ·)).filter Q = (List.range N).flatMap fun y => ((words N k).map (z :: ·)).filter fun p => Q p && decide (p.getD (x + 1) 0 = y) := by
      intro z hz
      have := ih z fun p hp hq i hi => by
        have := hQ (z :: p) (mem_words.2 ⟨by simp [(mem_words.1 hp).1], fun v hv => by
          rcases List.mem_cons.1 hv with rfl | hv
          · exact hz
          · exact (mem_words.1 hp).2 v hv⟩) hq (i + 1) (by omega)
        simpa using this
      simp only [List.filter_map, Function.comp_def]
      rw [this, List.map_flatMap]
      refine flatMap_congr' fun y _ => ?_
      simp
    by_cases hany : ∃ p, p ∈ words N (k + 1) ∧ Q p = true
    · obtain ⟨p0, hp0, hq0⟩ := hany
      have ha : ∀ z, z ≠ a 0 → ∀ p ∈ words N k, z < N → Q (z :: p) = false := by
        intro z hz p hp hzN
        cases hq : Q (z :: p) with
        | false => rfl
        | true =>
          have := hQ (z :: p) (mem_words.2 ⟨by simp [(mem_words.1 hp).1], fun v hv => by
            rcases List.mem_cons.1 hv with rfl | hv
            · exact hzN
            · exact (mem_words.1 hp).2 v hv⟩) hq 0 (by omega)
          simp at this
          exact absurd this hz
      have ha0 : a 0 < N := by
        have h1 := hQ p0 hp0 hq0 0 (by omega)
        obtain ⟨h2, h3⟩ := mem_words.1 hp0
        cases p0 with
        | nil => simp at h2
        | cons v q => simp at h1; exact h1 ▸ h3 v (by simp)
      have only : ∀ (R : List Nat → Bool), (∀ p, R p = true → Q p = true) → (words N (k + 1)).filter R = ((words N k).map (a 0 :: ·)).filter R := by
        intro R hR
        simp only [words, List.filter_flatMap]
        have h1 : ∀ z ∈ List.range N, ((words N k).map (z :: ·)).filter R = if z = a 0 then ((words N k).map (a 0 :: ·)).filter R else [] := by
          intro z hzr
          split
          · rename_i h; rw [h]
          · rename_i h
            refine List.filter_eq_nil_iff.2 fun p hp => ?_
            obtain ⟨q, hq, rfl⟩ := List.mem_map.1 hp
            intro hr
            have := ha z h q hq (List.mem_range.1 hzr)
            rw [hR _ hr] at this
            cases this
        rw [flatMap_congr' h1]
        have h2 : ∀ (l : List Nat) (c : List (List Nat)), l.Nodup → (l.flatMap fun z => if z = a 0 then c else []) = if a 0 ∈ l then c else [] := by
          intro l c
          induction l with
          | nil => intro _; simp
          | cons z l ih =>
            intro hn
            rw [List.flatMap_cons, ih (List.nodup_cons.1 hn).2]
            by_cases hz : z = a 0
            · have := (List.nodup_cons.1 hn).1
              rw [hz] at this
              simp [hz, this]
            · have : ¬ a 0 = z := fun h => hz h.symm
              simp [hz, this]
        rw [h2 _ _ List.nodup_range]
        simp [ha0]
      rw [only Q fun _ h => h, hz (a 0) ha0]
      refine flatMap_congr' fun y _ => ?_
      rw [only _ fun p hp => by simp at hp; exact hp.1]
    · have h0 : ∀ (R : List Nat → Bool), (∀ p, R p = true → Q p = true) → (words N (k + 1)).filter R = [] := by
        intro R hR
        refine List.filter_eq_nil_iff.2 fun p hp hr => hany ⟨p, hp, hR p hr⟩
      rw [h0 Q fun _ h => h]
      symm
      rw [List.flatMap_eq_nil_iff]
      intro y _
      exact h0 _ fun p hp => by simp at hp; exact hp.1

/-- An isomorphism from t to u, as a word. -/
structure IsIso (N : Nat) (t u : Nat → Nat → Nat) (p : List Nat) : Prop where
  hom : ∀ x y, x < N → y < N → p.getD (t x y) 0 = u (p.getD x 0) (p.getD y 0)
  inj : ∀ x y, x < N → y < N → p.getD x 0 = p.getD y 0 → x = y
/-- A word has what a part of a map has. -/
def Ext (N : Nat) (m : Nat → Option Nat) (p : List Nat) : Prop := ∀ x y, x < N → m x = some y → p.getD x 0 = y
noncomputable def isoB (N : Nat) (t u : Nat → Nat → Nat) (m : Nat → Option Nat) (p : List Nat) : Bool := @decide (IsIso N t u p ∧ Ext N m p) (Classical.propDecidable _)
theorem isoB_true {N : Nat} {t u : Nat → Nat → Nat} {m : Nat → Option Nat} {p : List Nat} : isoB N t u m p = true ↔ IsIso N t u p ∧ Ext N m p := by simp [isoB]
/-- All isomorphisms that extend m, in order. -/
noncomputable def isos (N : Nat) (t u : Nat → Nat → Nat) (m : Nat → Option Nat) : List (List Nat) := (words N N).filter (isoB N t u m)
theorem mem_isos {N : Nat} {t u : Nat → Nat → Nat} {m : Nat → Option Nat} {p : List Nat} : p ∈ isos N t u m ↔ (p.length = N ∧ ∀ v ∈ p, v < N) ∧ IsIso N t u p ∧ Ext N m p := by
  simp [isos, mem_words, isoB_true]
/-- A map with one place more. -/
def upd (m : Nat → Option Nat) (x y : Nat) : Nat → Option Nat := fun i => if i = x then some y else m i

theorem isos_congr {N : Nat} {t u : Nat → Nat → Nat} {m m' : Nat → Option Nat} (h : ∀ p, p.length = N → (∀ v ∈ p, v < N) → IsIso N t u p → (Ext N m p ↔ Ext N m' p)) : isos N t u m = isos N t u m' := by
  unfold isos
  refine List.filter_congr fun p hp => ?_
  obtain ⟨h1, h2⟩ := mem_words.1 hp
  rw [Bool.eq_iff_iff, isoB_true, isoB_true]
  exact ⟨fun h3 => ⟨h3.1, (h p h1 h2 h3.1).1 h3.2⟩, fun h3 => ⟨h3.1, (h p h1 h2 h3.1).2 h3.2⟩⟩
theorem isos_nil {N : Nat} {t u : Nat → Nat → Nat} {m : Nat → Option Nat} (h : ∀ p, p.length = N → (∀ v ∈ p, v < N) → IsIso N t u p → ¬ Ext N m p) : isos N t u m = [] := by
  unfold isos
  refine List.filter_eq_nil_iff.2 fun p hp => ?_
  obtain ⟨h1, h2⟩ := mem_words.1 hp
  rw [isoB_true, not_and]
  exact fun hi => h p h1 h2 hi
theorem isos_split {N : Nat} {t u : Nat → Nat → Nat} {m : Nat → Option Nat} {x : Nat} (hx : x < N) (hm : ∀ i, i < x → m i ≠ none) (hx0 : m x = none) :
    isos N t u m = (List.range N).flatMap fun y => isos N t u (upd m x y) := by
  have h := words_split N N x (fun i => (m i).getD 0) (isoB N t u m) hx fun p _ hq i hi => by
    rw [isoB_true] at hq
    cases hmi : m i with
    | none => exact absurd hmi (hm i hi)
    | some v => exact hq.2 i v (by omega) hmi
  unfold isos
  rw [h]
  refine flatMap_congr' fun y _ => ?_
  refine List.filter_congr fun p _ => ?_
  rw [Bool.eq_iff_iff, isoB_true, Bool.and_eq_true, isoB_true, decide_eq_true_eq]
  constructor
  · rintro ⟨⟨h1, h2⟩, h3⟩
    refine ⟨h1, fun i v hi hv => ?_⟩
    unfold upd at hv
    split at hv
    · rename_i e; subst e; rw [← Option.some.inj hv]; exact h3
    · exact h2 i v hi hv
  · rintro ⟨h1, h2⟩
    refine ⟨⟨h1, fun i v hi hv => h2 i v hi ?_⟩, h2 x y hx (by simp [upd])⟩
    unfold upd
    rw [if_neg (fun e => by subst e; rw [hx0] at hv; cases hv)]
    exact hv

/-- The word of a map that has all. -/
def wordOf (N : Nat) (m : Nat → Option Nat) : List Nat := (List.range N).map fun i => (m i).getD 0
theorem words_nodup (N : Nat) : ∀ k, (words N k).Nodup
  | 0 => by simp [words]
  | k + 1 => by
    unfold words
    refine nodup_flatMap' (fun y _ => ?_) ?_
    · have := words_nodup N k
      rw [List.Nodup, List.pairwise_map]
      exact this.imp fun h e => h (by simpa using e)
    · refine List.nodup_range.imp fun {a b} hab p hp q hq => ?_
      obtain ⟨r, _, rfl⟩ := List.mem_map.1 hp
      obtain ⟨s, _, rfl⟩ := List.mem_map.1 hq
      intro e
      simp at e
      exact hab e.1
theorem isos_total {N : Nat} {t u : Nat → Nat → Nat} {m : Nat → Option Nat} (hall : ∀ i, i < N → ∃ v, m i = some v ∧ v < N) (ht : ∀ x y, x < N → y < N → t x y < N)
    (hhom : ∀ x y a b, x < N → y < N → m x = some a → m y = some b → m (t x y) = some (u a b)) (hinj : ∀ x y a, x < N → y < N → m x = some a → m y = some a → x = y) : isos N t u m = [wordOf N m] := by
  have hget : ∀ i, i < N → (wordOf N m).getD i 0 = (m i).getD 0 := fun i hi => by simp [wordOf, List.getD_eq_getElem?_getD, hi]
  have hmem : wordOf N m ∈ isos N t u m := by
    refine mem_isos.2 ⟨⟨by simp [wordOf], fun v hv => ?_⟩, ⟨fun x y hx hy => ?_, fun x y hx hy h => ?_⟩, fun x y hx h => by rw [hget x hx, h]; rfl⟩
    · simp only [wordOf, List.mem_map, List.mem_range] at hv
      obtain ⟨i, hi, rfl⟩ := hv
      obtain ⟨w, hw, hlt⟩ := hall i hi
      rw [hw]; exact hlt
    · rw [hget _ (ht x y hx hy), hget x hx, hget y hy]
      obtain ⟨a, ha, _⟩ := hall x hx
      obtain ⟨b, hb, _⟩ := hall y hy
      rw [hhom x y a b hx hy ha hb, ha, hb]; rfl
    · rw [hget x hx, hget y hy] at h
      obtain ⟨a, ha, _⟩ := hall x hx
      obtain ⟨b, hb, _⟩ := hall y hy
      rw [ha, hb] at h
      exact hinj x y a hx hy ha (by rw [hb]; exact congrArg some h.symm)
  have huniq : ∀ p ∈ isos N t u m, p = wordOf N m := by
    intro p hp
    obtain ⟨⟨h1, _⟩, _, h3⟩ := mem_isos.1 hp
    refine List.ext_getElem (by simp [wordOf, h1]) fun i hi1 hi2 => ?_
    have hi : i < N := by omega
    obtain ⟨a, ha, _⟩ := hall i hi
    have := h3 i a hi ha
    simp [List.getD_eq_getElem?_getD, hi1] at this
    simp [wordOf, ha, this]
  have hnd : (isos N t u m).Nodup := (words_nodup N N).filter _
  cases hl : isos N t u m with
  | nil => rw [hl] at hmem; cases hmem
  | cons a l =>
    have h1 := huniq a (by rw [hl]; simp)
    cases l with
    | nil => rw [h1]
    | cons b l =>
      have h2 := huniq b (by rw [hl]; simp)
      rw [hl] at hnd
      simp [h1, h2] at hnd
end Go.Proofs.YtinjjaoikofkdaaDoor

/- The reference's closing of a part of an isomorphism, as a plain function, and what it gives. -/
namespace Go.Proofs.YtinjjaoikofkdaaDoor
set_option linter.unusedSimpArgs false
set_option linter.unusedVariables false

/-- A part of a map: where each element is led (less than 0: nowhere), what is used, how many there are. -/
structure PM where
  to : Nat → Int
  used : Nat → Int
  size : Int
def PM.add (m : PM) (x y : Nat) : PM := { to := fun i => if i = x then (y : Int) else m.to i, used := fun i => if i = y then 1 else m.used i, size := m.size + 1 }
/-- The part as a partial map. -/
def PM.abs (m : PM) : Nat → Option Nat := fun x => if m.to x < 0 then none else some (m.to x).toNat

/-- How many of the first k elements are led nowhere. -/
def um (f : Nat → Int) : Nat → Nat
  | 0 => 0
  | k + 1 => um f k + if f k < 0 then 1 else 0
theorem um_mono {f g : Nat → Int} : ∀ k, (∀ z, z < k → 0 ≤ f z → 0 ≤ g z) → um g k ≤ um f k
  | 0, _ => Nat.le_refl _
  | k + 1, h => by
    have ih := um_mono k fun z hz => h z (by omega)
    have := h k (by omega)
    simp only [um]
    split <;> split <;> omega
theorem um_add {f : Nat → Int} {x : Nat} {y : Int} (hx : f x < 0) (hy : 0 ≤ y) : ∀ k, um (fun i => if i = x then y else f i) k + (if x < k then 1 else 0) = um f k
  | 0 => rfl
  | k + 1 => by
    have ih := um_add hx hy k
    simp only [um]
    by_cases e : k = x
    · subst e
      simp only [if_true, if_pos hx, Nat.lt_irrefl, if_false, Nat.lt_add_one] at ih ⊢
      rw [if_neg (by omega)]
      omega
    · simp only [e, if_false]
      split at ih <;> split <;> split <;> omega
theorem um_zero {f : Nat → Int} : ∀ {k : Nat}, um f k = 0 → ∀ z, z < k → 0 ≤ f z
  | 0, _, _, h => absurd h (by omega)
  | k + 1, h, z, hz => by
    simp only [um] at h
    by_cases e : z = k
    · subst e
      by_cases hf : f z < 0
      · rw [if_pos hf] at h; omega
      · omega
    · exact um_zero (k := k) (by omega) z (by omega)
theorem um_pos {f : Nat → Int} : ∀ {k : Nat}, um f k ≠ 0 → ∃ z, z < k ∧ f z < 0 ∧ ∀ i, i < z → 0 ≤ f i
  | 0, h => absurd rfl h
  | k + 1, h => by
    by_cases h0 : um f k = 0
    · simp only [um, h0] at h
      refine ⟨k, by omega, ?_, um_zero h0⟩
      by_cases hf : f k < 0
      · exact hf
      · rw [if_neg hf] at h; exact absurd rfl h
    · obtain ⟨z, h1, h2⟩ := um_pos (k := k) h0
      exact ⟨z, by omega, h2⟩
theorem um_le (f : Nat → Int) : ∀ k, um f k ≤ k
  | 0 => Nat.le_refl _
  | k + 1 => by have := um_le f k; simp only [um]; split <;> omega

structure Va (N : Nat) (m : PM) : Prop where
  lt : ∀ x, x < N → m.to x < N
  inj : ∀ x y, x < N → y < N → 0 ≤ m.to x → m.to x = m.to y → x = y
  used : ∀ v : Nat, v < N → (0 < m.used v ↔ ∃ x, x < N ∧ m.to x = v)
  size : m.size = (N : Int) - um m.to N
theorem Va.add {N : Nat} {m : PM} (h : Va N m) {x y : Nat} (hx : x < N) (hy : y < N) (hx0 : m.to x < 0) (hy0 : ¬ 0 < m.used y) : Va N (m.add x y) where
  lt z hz := by
    unfold PM.add; dsimp only
    split
    · omega
    · exact h.lt z hz
  inj a b ha hb h0 he := by
    unfold PM.add at h0 he; dsimp only at h0 he
    have hn : ∀ z, z < N → m.to z ≠ y := fun z hz e => hy0 ((h.used y hy).2 ⟨z, hz, e⟩)
    split at he <;> split at he
    · omega
    · rename_i h1 h2; exact absurd he.symm (hn b hb)
    · rename_i h1 h2; exact absurd he (hn a ha)
    · rename_i h1 h2; rw [if_neg h1] at h0; exact h.inj a b ha hb h0 he
  used v hv := by
    unfold PM.add; dsimp only
    by_cases e : v = y
    · subst e
      rw [if_pos rfl]
      exact ⟨fun _ => ⟨x, hx, by rw [if_pos rfl]⟩, fun _ => by omega⟩
    · rw [if_neg e, h.used v hv]
      constructor
      · rintro ⟨z, hz, hzv⟩
        refine ⟨z, hz, ?_⟩
        rw [if_neg (fun e' => by subst e'; omega)]; exact hzv
      · rintro ⟨z, hz, hzv⟩
        split at hzv
        · exact absurd hzv (by omega)
        · exact ⟨z, hz, hzv⟩
  size := by
    have := um_add (f := m.to) (x := x) (y := (y : Int)) hx0 (by omega) N
    rw [if_pos hx] at this
    show m.size + 1 = _
    rw [h.size]
    show _ = (N : Int) - (um (fun i => if i = x then (y : Int) else m.to i) N : Nat)
    omega

/-- m' has what m has. -/
def Sub (N : Nat) (m m' : PM) : Prop := ∀ z, z < N → 0 ≤ m.to z → m'.to z = m.to z
theorem Sub.refl (N : Nat) (m : PM) : Sub N m m := fun _ _ _ => rfl
theorem Sub.trans {N : Nat} {a b c : PM} (h : Sub N a b) (k : Sub N b c) : Sub N a c := fun z hz h0 => by
  have := h z hz h0
  rw [k z hz (by omega), this]
/-- The product of a and b is led where it should be. -/
def Cons (t u : Nat → Nat → Nat) (m : PM) (a b : Nat) : Prop := m.to (t a b) = (u (m.to a).toNat (m.to b).toNat : Int)
theorem Cons.sub {N : Nat} {t u : Nat → Nat → Nat} {m m' : PM} {a b : Nat} (h : Cons t u m a b) (hs : Sub N m m') (ht : t a b < N) (ha : a < N) (hb : b < N) (ha0 : 0 ≤ m.to a) (hb0 : 0 ≤ m.to b) : Cons t u m' a b := by
  unfold Cons at *
  rw [hs _ ht (by omega), hs _ ha ha0, hs _ hb hb0]
  exact h
/-- A homomorphism that leads no two to one and has what m has. -/
structure Hom (N : Nat) (t u : Nat → Nat → Nat) (m : PM) (P : Nat → Nat) : Prop where
  hom : ∀ a b, a < N → b < N → P (t a b) = u (P a) (P b)
  inj : ∀ a b, a < N → b < N → P a = P b → a = b
  has : ∀ z, z < N → 0 ≤ m.to z → (P z : Int) = m.to z

def closeL (f : PM → Nat → Nat → PM × Bool) (t u : Nat → Nat → Nat) (x y : Nat) : Nat → Nat → PM → PM × Bool
  | 0, _, m => (m, true)
  | r + 1, a, m =>
    if m.to a < 0 then closeL f t u x y r (a + 1) m else
    if (f m (t x a) (u y (m.to a).toNat)).2 = false then ((f m (t x a) (u y (m.to a).toNat)).1, false) else
    if (f (f m (t x a) (u y (m.to a).toNat)).1 (t a x) (u (m.to a).toNat y)).2 = false then ((f (f m (t x a) (u y (m.to a).toNat)).1 (t a x) (u (m.to a).toNat y)).1, false) else
    closeL f t u x y r (a + 1) (f (f m (t x a) (u y (m.to a).toNat)).1 (t a x) (u (m.to a).toNat y)).1
def closeF (N : Nat) (t u : Nat → Nat → Nat) : Nat → PM → Nat → Nat → PM × Bool
  | 0, m, _, _ => (m, false)
  | K + 1, m, x, y => if 0 ≤ m.to x ∨ 0 < m.used y then (m, decide (m.to x = y)) else closeL (closeF N t u K) t u x y N 0 (m.add x y)

/-- What closing gives. -/
structure Closes (N : Nat) (t u : Nat → Nat → Nat) (m : PM) (x y : Nat) (r : PM × Bool) : Prop where
  va : r.2 = true → Va N r.1
  sub : r.2 = true → Sub N m r.1
  at_ : r.2 = true → r.1.to x = y
  new : r.2 = true → ∀ z c, z < N → c < N → m.to z < 0 → 0 ≤ r.1.to z → 0 ≤ r.1.to c → Cons t u r.1 z c ∧ Cons t u r.1 c z
  forced : ∀ P, Hom N t u m P → P x = y → r.2 = true ∧ Hom N t u r.1 P

theorem closeL_closes {N K : Nat} {t u : Nat → Nat → Nat} {x y : Nat} (hx : x < N) (hy : y < N) (ht : ∀ a b, a < N → b < N → t a b < N) (hu : ∀ a b, a < N → b < N → u a b < N) (f : PM → Nat → Nat → PM × Bool)
    (hf : ∀ m x y, Va N m → x < N → y < N → um m.to N < K → Closes N t u m x y (f m x y)) (m1 : PM) (hm1 : um m1.to N < K) (hx1 : m1.to x = y) :
    ∀ (r a : Nat) (m : PM), a + r = N → Va N m → Sub N m1 m →
      (∀ z c, z < N → c < N → m1.to z < 0 → 0 ≤ m.to z → 0 ≤ m.to c → Cons t u m z c ∧ Cons t u m c z) →
      (∀ c, c < N → 0 ≤ m.to c → (c < a ∨ m1.to c < 0) → Cons t u m x c ∧ Cons t u m c x) →
      let R := closeL f t u x y r a m
      (R.2 = true → Va N R.1 ∧ Sub N m R.1 ∧ (∀ z c, z < N → c < N → m1.to z < 0 → 0 ≤ R.1.to z → 0 ≤ R.1.to c → Cons t u R.1 z c ∧ Cons t u R.1 c z) ∧ (∀ c, c < N → 0 ≤ R.1.to c → Cons t u R.1 x c ∧ Cons t u R.1 c x)) ∧
      (∀ P, Hom N t u m P → R.2 = true ∧ Hom N t u R.1 P)
  | 0, a, m, ha, hv, hs, hnew, hX => by
    refine ⟨fun _ => ⟨hv, Sub.refl _ _, hnew, fun c hc h0 => hX c hc h0 (.inl (by omega))⟩, fun P hP => ⟨rfl, hP⟩⟩
  | r + 1, a, m, ha, hv, hs, hnew, hX => by
    have haN : a < N := by omega
    have hmx : m.to x = y := by rw [hs x hx (by omega), hx1]
    simp only [closeL]
    by_cases h0 : m.to a < 0
    · rw [if_pos h0]
      exact closeL_closes hx hy ht hu f hf m1 hm1 hx1 r (a + 1) m (by omega) hv hs hnew fun c hc hc0 hca => hX c hc hc0 (by
        rcases hca with h | h
        · by_cases e : c = a
          · subst e; omega
          · exact .inl (by omega)
        · exact .inr h)
    · rw [if_neg h0]
      have hma : (m.to a).toNat < N := by have := hv.lt a haN; omega
      have humm : um m.to N < K := Nat.lt_of_le_of_lt (um_mono N fun z hz h => by rw [hs z hz h]; exact h) hm1
      have C1 := hf m (t x a) (u y (m.to a).toNat) hv (ht x a hx haN) (hu _ _ hy hma) humm
      generalize f m (t x a) (u y (m.to a).toNat) = R1 at C1 ⊢
      have hP1 : ∀ P, Hom N t u m P → R1.2 = true ∧ Hom N t u R1.1 P := fun P hP => C1.forced P hP (by
        have e1 := hP.has x hx (by omega)
        have e2 := hP.has a haN (by omega)
        rw [hP.hom x a hx haN, show P x = y by omega, show P a = (m.to a).toNat by omega])
      by_cases k1 : R1.2 = false
      · rw [if_pos k1]
        exact ⟨fun h => (by cases h), fun P hP => by have := (hP1 P hP).1; rw [k1] at this; cases this⟩
      · have k1' : R1.2 = true := by simpa using k1
        rw [if_neg k1]
        have v1 := C1.va k1'
        have s1 := C1.sub k1'
        have hR1x : R1.1.to x = y := by rw [s1 x hx (by omega), hmx]
        have hR1a : R1.1.to a = m.to a := s1 a haN (by omega)
        have hc1 : Cons t u R1.1 x a := by
          unfold Cons
          rw [C1.at_ k1', hR1x, hR1a]; simp
        have new1 : ∀ z c, z < N → c < N → m1.to z < 0 → 0 ≤ R1.1.to z → 0 ≤ R1.1.to c → Cons t u R1.1 z c ∧ Cons t u R1.1 c z := by
          intro z c hz hc hz1 hzR hcR
          by_cases hzm : m.to z < 0
          · exact C1.new k1' z c hz hc hzm hzR hcR
          · by_cases hcm : m.to c < 0
            · exact (C1.new k1' c z hc hz hcm hcR hzR).symm
            · have := hnew z c hz hc hz1 (by omega) (by omega)
              exact ⟨this.1.sub s1 (ht _ _ hz hc) hz hc (by omega) (by omega), this.2.sub s1 (ht _ _ hc hz) hc hz (by omega) (by omega)⟩
        have X1 : ∀ c, c < N → 0 ≤ R1.1.to c → (c < a ∨ m1.to c < 0) → Cons t u R1.1 x c ∧ Cons t u R1.1 c x := by
          intro c hc hcR hca
          by_cases hcm : m.to c < 0
          · exact (C1.new k1' c x hc hx hcm hcR (by omega)).symm
          · have := hX c hc (by omega) hca
            exact ⟨this.1.sub s1 (ht _ _ hx hc) hx hc (by omega) (by omega), this.2.sub s1 (ht _ _ hc hx) hc hx (by omega) (by omega)⟩
        have humR : um R1.1.to N < K := Nat.lt_of_le_of_lt (um_mono N fun z hz h => by rw [s1 z hz h]; exact h) humm
        have C2 := hf R1.1 (t a x) (u (m.to a).toNat y) v1 (ht a x haN hx) (hu _ _ hma hy) humR
        generalize f R1.1 (t a x) (u (m.to a).toNat y) = R2 at C2 ⊢
        have hP2 : ∀ P, Hom N t u m P → R2.2 = true ∧ Hom N t u R2.1 P := fun P hP => C2.forced P (hP1 P hP).2 (by
          have e1 := hP.has x hx (by omega)
          have e2 := hP.has a haN (by omega)
          rw [hP.hom a x haN hx, show P x = y by omega, show P a = (m.to a).toNat by omega])
        by_cases k2 : R2.2 = false
        · rw [if_pos k2]
          exact ⟨fun h => (by cases h), fun P hP => by have := (hP2 P hP).1; rw [k2] at this; cases this⟩
        · have k2' : R2.2 = true := by simpa using k2
          rw [if_neg k2]
          have v2 := C2.va k2'
          have s2 := C2.sub k2'
          have hR2x : R2.1.to x = y := by rw [s2 x hx (by omega), hR1x]
          have hR2a : R2.1.to a = m.to a := by rw [s2 a haN (by omega), hR1a]
          have hc2 : Cons t u R2.1 a x := by
            unfold Cons
            rw [C2.at_ k2', hR2x, hR2a]; simp
          have new2 : ∀ z c, z < N → c < N → m1.to z < 0 → 0 ≤ R2.1.to z → 0 ≤ R2.1.to c → Cons t u R2.1 z c ∧ Cons t u R2.1 c z := by
            intro z c hz hc hz1 hzR hcR
            by_cases hzm : R1.1.to z < 0
            · exact C2.new k2' z c hz hc hzm hzR hcR
            · by_cases hcm : R1.1.to c < 0
              · exact (C2.new k2' c z hc hz hcm hcR hzR).symm
              · have := new1 z c hz hc hz1 (by omega) (by omega)
                exact ⟨this.1.sub s2 (ht _ _ hz hc) hz hc (by omega) (by omega), this.2.sub s2 (ht _ _ hc hz) hc hz (by omega) (by omega)⟩
          have X2 : ∀ c, c < N → 0 ≤ R2.1.to c → (c < a + 1 ∨ m1.to c < 0) → Cons t u R2.1 x c ∧ Cons t u R2.1 c x := by
            intro c hc hcR hca
            by_cases hcm : R1.1.to c < 0
            · exact (C2.new k2' c x hc hx hcm hcR (by omega)).symm
            · by_cases e : c = a
              · subst e
                exact ⟨hc1.sub s2 (ht _ _ hx hc) hx hc (by omega) (by omega), hc2⟩
              · have := X1 c hc (by omega) (hca.imp_left fun h => by omega)
                exact ⟨this.1.sub s2 (ht _ _ hx hc) hx hc (by omega) (by omega), this.2.sub s2 (ht _ _ hc hx) hc hx (by omega) (by omega)⟩
          have hrec := closeL_closes hx hy ht hu f hf m1 hm1 hx1 r (a + 1) R2.1 (by omega) v2 ((hs.trans s1).trans s2) new2 X2
          refine ⟨fun h => ?_, fun P hP => hrec.2 P (hP2 P hP).2⟩
          obtain ⟨g1, g2, g3, g4⟩ := hrec.1 h
          exact ⟨g1, (s1.trans s2).trans g2, g3, g4⟩

theorem closeF_closes {N : Nat} {t u : Nat → Nat → Nat} (ht : ∀ a b, a < N → b < N → t a b < N) (hu : ∀ a b, a < N → b < N → u a b < N) :
    ∀ (K : Nat) (m : PM) (x y : Nat), Va N m → x < N → y < N → um m.to N < K → Closes N t u m x y (closeF N t u K m x y)
  | 0, _, _, _, _, _, _, h => absurd h (by omega)
  | K + 1, m, x, y, hv, hx, hy, hK => by
    simp only [closeF]
    by_cases h : 0 ≤ m.to x ∨ 0 < m.used y
    · rw [if_pos h]
      refine ⟨fun _ => hv, fun _ => Sub.refl _ _, fun h' => by simpa using h', fun _ z c hz hc h1 h2 => by dsimp only at h2; omega, fun P hP hPx => ⟨?_, hP⟩⟩
      simp only [decide_eq_true_eq]
      rcases h with h | h
      · rw [← hP.has x hx h, hPx]
      · obtain ⟨z, hz, hzy⟩ := (hv.used y hy).1 h
        have h1 := hP.has z hz (by omega)
        have : z = x := hP.inj z x hz hx (by omega)
        subst this; exact hzy
    · rw [if_neg h]
      have hx0 : m.to x < 0 := by omega
      have hy0 : ¬ 0 < m.used y := fun h' => h (.inr h')
      have va := hv.add hx hy hx0 hy0
      have hum : um (m.add x y).to N < K := by
        have := um_add (f := m.to) (x := x) (y := (y : Int)) hx0 (by omega) N
        rw [if_pos hx] at this
        show um (fun i => if i = x then (y : Int) else m.to i) N < K
        omega
      have hx1 : (m.add x y).to x = y := by simp [PM.add]
      have hsub : Sub N m (m.add x y) := fun z hz h0 => by simp only [PM.add]; rw [if_neg (fun e => by subst e; omega)]
      have hrec := closeL_closes hx hy ht hu (closeF N t u K) (fun m x y hv hx hy h => closeF_closes ht hu K m x y hv hx hy h) (m.add x y) hum hx1 N 0 (m.add x y) (by omega) va (Sub.refl _ _)
        (fun z c _ _ h1 h2 => by omega) (fun c hc h0 h1 => by omega)
      generalize closeL (closeF N t u K) t u x y N 0 (m.add x y) = R at hrec ⊢
      refine ⟨fun h => (hrec.1 h).1, fun h => hsub.trans (hrec.1 h).2.1, fun h => by rw [(hrec.1 h).2.1 x hx (by omega), hx1], fun h z c hz hc h1 h2 h3 => ?_, fun P hP hPx => hrec.2 P ⟨hP.hom, hP.inj, fun z hz h0 => ?_⟩⟩
      · obtain ⟨_, _, g3, g4⟩ := hrec.1 h
        by_cases e : z = x
        · subst e; exact g4 c hc h3
        · exact g3 z c hz hc (by simp only [PM.add]; rw [if_neg e]; exact h1) h2 h3
      · simp only [PM.add] at h0 ⊢
        split at h0
        · rename_i e; subst e; rw [if_pos rfl, hPx]
        · rename_i e; rw [if_neg e]; exact hP.has z hz h0
end Go.Proofs.YtinjjaoikofkdaaDoor

/- How the reference's search splits: plain laws. -/
namespace Go.Proofs.YtinjjaoikofkdaaDoor
set_option linter.unusedSimpArgs false
set_option linter.unusedVariables false

/-- All products of what is led are led where they should be. -/
def Cl (N : Nat) (t u : Nat → Nat → Nat) (m : PM) : Prop := ∀ a b, a < N → b < N → 0 ≤ m.to a → 0 ≤ m.to b → Cons t u m a b

theorem abs_some {m : PM} {x y : Nat} : m.abs x = some y ↔ m.to x = y := by
  unfold PM.abs
  by_cases h : m.to x < 0
  · rw [if_pos h]; constructor
    · intro h'; cases h'
    · intro h'; omega
  · rw [if_neg h, Option.some.injEq]; omega
theorem abs_none {m : PM} {x : Nat} : m.abs x = none ↔ m.to x < 0 := by
  unfold PM.abs
  by_cases h : m.to x < 0
  · simp [h]
  · simp [h]

theorem hom_of {N : Nat} {t u : Nat → Nat → Nat} {m : PM} {p : List Nat} (hi : IsIso N t u p) (he : ∀ z, z < N → 0 ≤ m.to z → (p.getD z 0 : Int) = m.to z) : Hom N t u m (fun i => p.getD i 0) :=
  ⟨fun a b ha hb => hi.hom a b ha hb, fun a b ha hb h => hi.inj a b ha hb h, he⟩
theorem ext_has {N : Nat} {m : PM} {p : List Nat} (he : Ext N m.abs p) : ∀ z, z < N → 0 ≤ m.to z → (p.getD z 0 : Int) = m.to z := fun z hz h0 => by
  have := he z (m.to z).toNat hz (abs_some.2 (by omega))
  omega
theorem has_ext {N : Nat} {m : PM} {p : List Nat} (h : ∀ z, z < N → 0 ≤ m.to z → (p.getD z 0 : Int) = m.to z) : Ext N m.abs p := fun z y hz hy => by
  have h1 := abs_some.1 hy
  have := h z hz (by omega)
  omega
theorem ext_upd {N : Nat} {m : PM} {p : List Nat} {x y : Nat} (hx : x < N) (hx0 : m.to x < 0) : Ext N (upd m.abs x y) p ↔ Ext N m.abs p ∧ p.getD x 0 = y := by
  constructor
  · intro h
    refine ⟨fun z v hz hv => h z v hz ?_, h x y hx (by simp [upd])⟩
    unfold upd
    rw [if_neg (fun e => by subst e; rw [abs_none.2 hx0] at hv; cases hv)]
    exact hv
  · rintro ⟨h1, h2⟩ z v hz hv
    unfold upd at hv
    split at hv
    · rename_i e; subst e; rw [← Option.some.inj hv]; exact h2
    · exact h1 z v hz hv

/-- A place that is used leads to no isomorphism. -/
theorem isos_used {N : Nat} {t u : Nat → Nat → Nat} {m : PM} (hv : Va N m) {x y : Nat} (hx : x < N) (hy : y < N) (hx0 : m.to x < 0) (hu : 0 < m.used y) : isos N t u (upd m.abs x y) = [] := by
  refine isos_nil fun p _ _ hi he => ?_
  obtain ⟨h1, h2⟩ := (ext_upd hx hx0).1 he
  obtain ⟨z, hz, hzy⟩ := (hv.used y hy).1 hu
  have := ext_has h1 z hz (by omega)
  have e := hi.inj z x hz hx (by omega)
  subst e; omega
theorem isos_closed {N : Nat} {t u : Nat → Nat → Nat} {m : PM} {x y : Nat} {R : PM × Bool} (hx : x < N) (hx0 : m.to x < 0) (hC : Closes N t u m x y R) (h2 : R.2 = true) :
    isos N t u (upd m.abs x y) = isos N t u R.1.abs := by
  refine isos_congr fun p _ _ hi => ?_
  rw [ext_upd hx hx0]
  constructor
  · rintro ⟨h1, h3⟩
    exact has_ext (hC.forced _ (hom_of hi (ext_has h1)) h3).2.has
  · intro he
    have hh := ext_has he
    refine ⟨has_ext fun z hz h0 => ?_, ?_⟩
    · have := hC.sub h2 z hz h0
      rw [hh z hz (by omega), this]
    · have := hC.at_ h2
      have := hh x hx (by omega)
      omega
theorem isos_failed {N : Nat} {t u : Nat → Nat → Nat} {m : PM} {x y : Nat} {R : PM × Bool} (hx : x < N) (hx0 : m.to x < 0) (hC : Closes N t u m x y R) (h2 : R.2 = false) :
    isos N t u (upd m.abs x y) = [] := by
  refine isos_nil fun p _ _ hi he => ?_
  obtain ⟨h1, h3⟩ := (ext_upd hx hx0).1 he
  have := (hC.forced _ (hom_of hi (ext_has h1)) h3).1
  rw [h2] at this; cases this
theorem closed_cl {N : Nat} {t u : Nat → Nat → Nat} {m : PM} {x y : Nat} {R : PM × Bool} (ht : ∀ a b, a < N → b < N → t a b < N) (hm : Cl N t u m) (hC : Closes N t u m x y R) (h2 : R.2 = true) : Cl N t u R.1 := by
  intro a b ha hb ha0 hb0
  by_cases h1 : m.to a < 0
  · exact (hC.new h2 a b ha hb h1 ha0 hb0).1
  · by_cases h3 : m.to b < 0
    · exact (hC.new h2 b a hb ha h3 hb0 ha0).2
    · exact (hm a b ha hb (by omega) (by omega)).sub (hC.sub h2) (ht _ _ ha hb) ha hb (by omega) (by omega)
theorem closed_um {N : Nat} {t u : Nat → Nat → Nat} {m : PM} {x y : Nat} {R : PM × Bool} (hx : x < N) (hx0 : m.to x < 0) (hC : Closes N t u m x y R) (h2 : R.2 = true) : um R.1.to N < um m.to N := by
  have h := um_add (f := m.to) (x := x) (y := (y : Int)) hx0 (by omega) N
  rw [if_pos hx] at h
  have := um_mono (f := fun i => if i = x then (y : Int) else m.to i) (g := R.1.to) N fun z hz h0 => by
    by_cases e : z = x
    · subst e; have := hC.at_ h2; omega
    · rw [if_neg e] at h0
      have := hC.sub h2 z hz h0; omega
  omega
theorem isos_full {N : Nat} {t u : Nat → Nat → Nat} {m : PM} (ht : ∀ a b, a < N → b < N → t a b < N) (hv : Va N m) (hc : Cl N t u m) (h0 : um m.to N = 0) : isos N t u m.abs = [wordOf N m.abs] := by
  have hall := um_zero h0
  refine isos_total (fun i hi => ⟨(m.to i).toNat, abs_some.2 (by have := hall i hi; omega), by have := hv.lt i hi; have := hall i hi; omega⟩) ht (fun x y a b hx hy ha hb => ?_) (fun x y a hx hy ha hb => ?_)
  · have h1 := abs_some.1 ha
    have h2 := abs_some.1 hb
    have := hc x y hx hy (by omega) (by omega)
    unfold Cons at this
    rw [h1, h2] at this
    exact abs_some.2 (by simpa using this)
  · have h1 := abs_some.1 ha
    have h2 := abs_some.1 hb
    exact hv.inj x y hx hy (by omega) (by omega)
theorem isos_first {N : Nat} {t u : Nat → Nat → Nat} {m : PM} {x : Nat} (hx : x < N) (hm : ∀ i, i < x → 0 ≤ m.to i) (hx0 : m.to x < 0) : isos N t u m.abs = (List.range N).flatMap fun y => isos N t u (upd m.abs x y) :=
  isos_split hx (fun i hi h => by have := abs_none.1 h; have := hm i hi; omega) (abs_none.2 hx0)
theorem take_grow {α : Type} {A B : List α} {n : Nat} (h : (A.take n).length = n) : (A ++ B).take n = A.take n := by
  rw [List.take_append, show n - A.length = 0 by rw [List.length_take] at h; omega, List.take_zero, List.append_nil]
theorem take_step {α : Type} (A B : List α) (n : Nat) : (A.take n ++ B).take n = (A ++ B).take n := by
  rw [List.take_append, List.take_take, Nat.min_self, List.take_append, List.length_take]
  by_cases h : A.length ≤ n
  · rw [Nat.min_eq_right h]
  · rw [Nat.min_eq_left (by omega), Nat.sub_self, show n - A.length = 0 by omega]
/-- The part that has nothing is a part. -/
theorem zero_va (N : Nat) : Va N ⟨fun _ => -1, fun _ => 0, 0⟩ where
  lt x hx := by show (-1 : Int) < _; omega
  inj x y _ _ h _ := by have h' : (0 : Int) ≤ -1 := h; omega
  used v _ := ⟨fun h => by have h' : (0 : Int) < 0 := h; omega, fun ⟨x, _, h⟩ => by have : (-1 : Int) = v := h; omega⟩
  size := by
    have : ∀ k, um (fun _ => -1) k = k := fun k => by
      induction k with
      | zero => rfl
      | succ k ih => simp [um, ih]
    show (0 : Int) = N - (um (fun _ => -1) N : Nat)
    rw [this]; omega
theorem zero_cl (N : Nat) (t u : Nat → Nat → Nat) : Cl N t u ⟨fun _ => -1, fun _ => 0, 0⟩ := fun a b _ _ h _ => by have h' : (0 : Int) ≤ -1 := h; omega
theorem zero_abs : PM.abs ⟨fun _ => -1, fun _ => 0, 0⟩ = fun _ => none := rfl
end Go.Proofs.YtinjjaoikofkdaaDoor

/- The program's closing of a part of an isomorphism, by a queue, as a plain function, and what it gives. -/
namespace Go.Proofs.YtinjjaoikofkdaaDoor
set_option linter.unusedSimpArgs false
set_option linter.unusedVariables false

/-- What follows from x being led to y. -/
def news (N : Nat) (t u : Nat → Nat → Nat) (m : PM) (x y : Nat) : Nat → List (Nat × Nat)
  | 0 => []
  | k + 1 => news N t u m x y k ++ (if m.to k < 0 then [] else [(t x k, u y (m.to k).toNat), (t k x, u (m.to k).toNat y)])
def putF (N : Nat) (t u : Nat → Nat → Nat) : Nat → PM → List (Nat × Nat) → PM × Bool
  | 0, m, _ => (m, false)
  | _ + 1, m, [] => (m, true)
  | K + 1, m, (x, y) :: q =>
    if m.to x = y then putF N t u K m q else
    if 0 ≤ m.to x ∨ 0 < m.used y then (m, false) else
    putF N t u K (m.add x y) (q ++ news N t u (m.add x y) x y N)

theorem news_length (N : Nat) (t u : Nat → Nat → Nat) (m : PM) (x y : Nat) : ∀ k, (news N t u m x y k).length ≤ 2 * k
  | 0 => by simp [news]
  | k + 1 => by
    have := news_length N t u m x y k
    simp only [news, List.length_append]
    split <;> simp <;> omega
theorem mem_news {N : Nat} {t u : Nat → Nat → Nat} {m : PM} {x y : Nat} {p : Nat × Nat} : ∀ {k}, p ∈ news N t u m x y k ↔ ∃ z, z < k ∧ 0 ≤ m.to z ∧ (p = (t x z, u y (m.to z).toNat) ∨ p = (t z x, u (m.to z).toNat y))
  | 0 => by simp [news]
  | k + 1 => by
    simp only [news, List.mem_append, mem_news (k := k)]
    constructor
    · rintro (⟨z, h1, h2, h3⟩ | h)
      · exact ⟨z, by omega, h2, h3⟩
      · split at h
        · simp at h
        · rename_i h0
          refine ⟨k, by omega, by omega, ?_⟩
          simpa using h
    · rintro ⟨z, h1, h2, h3⟩
      by_cases e : z = k
      · subst e
        right
        rw [if_neg (by omega)]
        simpa using h3
      · exact .inl ⟨z, by omega, h2, h3⟩

theorem putF_closes {N : Nat} {t u : Nat → Nat → Nat} (ht : ∀ a b, a < N → b < N → t a b < N) (hu : ∀ a b, a < N → b < N → u a b < N) (m0 : PM) (x0 y0 : Nat) :
    ∀ (K : Nat) (m : PM) (Q : List (Nat × Nat)), Va N m → Sub N m0 m → (∀ p ∈ Q, p.1 < N ∧ p.2 < N) →
      (∀ z c, z < N → c < N → m0.to z < 0 → 0 ≤ m.to z → 0 ≤ m.to c → (Cons t u m z c ∨ (t z c, u (m.to z).toNat (m.to c).toNat) ∈ Q) ∧ (Cons t u m c z ∨ (t c z, u (m.to c).toNat (m.to z).toNat) ∈ Q)) →
      (m.to x0 = y0 ∨ (x0, y0) ∈ Q) → (∀ P, Hom N t u m0 P → P x0 = y0 → Hom N t u m P ∧ ∀ p ∈ Q, P p.1 = p.2) → Q.length + (2 * N + 1) * um m.to N < K →
      Closes N t u m0 x0 y0 (putF N t u K m Q)
  | 0, _, _, _, _, _, _, _, _, h => absurd h (by omega)
  | K + 1, m, [], hv, hs, _, hp, ha, hf, _ => by
    simp only [putF]
    refine ⟨fun _ => hv, fun _ => hs, fun _ => ?_, fun _ z c hz hc h1 h2 h3 => ?_, fun P hP hx => ⟨rfl, (hf P hP hx).1⟩⟩
    · rcases ha with h | h
      · exact h
      · simp at h
    · obtain ⟨g1, g2⟩ := hp z c hz hc h1 h2 h3
      exact ⟨g1.resolve_right (by simp), g2.resolve_right (by simp)⟩
  | K + 1, m, (x, y) :: q, hv, hs, hq, hp, ha, hf, hK => by
    obtain ⟨hx, hy⟩ := hq (x, y) (by simp)
    simp only at hx hy
    simp only [putF]
    simp only [List.length_cons] at hK
    by_cases h1 : m.to x = y
    · rw [if_pos h1]
      refine putF_closes ht hu m0 x0 y0 K m q hv hs (fun p h => hq p (by simp [h])) (fun z c hz hc a1 a2 a3 => ?_) ?_ (fun P hP hx => ⟨(hf P hP hx).1, fun p h => (hf P hP hx).2 p (by simp [h])⟩) (by omega)
      · obtain ⟨g1, g2⟩ := hp z c hz hc a1 a2 a3
        have key : ∀ i j, (i, j) ∈ (x, y) :: q → m.to i = j ∨ (i, j) ∈ q := fun i j h => by
          rcases List.mem_cons.1 h with h | h
          · cases h; exact .inl h1
          · exact .inr h
        exact ⟨g1.elim .inl fun h => key _ _ h, g2.elim .inl fun h => key _ _ h⟩
      · rcases ha with h | h
        · exact .inl h
        · rcases List.mem_cons.1 h with h | h
          · cases h; exact .inl h1
          · exact .inr h
    · rw [if_neg h1]
      by_cases h2 : 0 ≤ m.to x ∨ 0 < m.used y
      · rw [if_pos h2]
        refine ⟨fun h => (by cases h), fun h => (by cases h), fun h => (by cases h), fun h => (by cases h), fun P hP hx0 => ?_⟩
        exfalso
        obtain ⟨hH, hQ⟩ := hf P hP hx0
        have hPx := hQ (x, y) (by simp)
        simp only at hPx
        rcases h2 with h | h
        · have := hH.has x hx h; omega
        · obtain ⟨z, hz, hzy⟩ := (hv.used y hy).1 h
          have h3 := hH.has z hz (by omega)
          have e := hH.inj z x hz hx (by omega)
          subst e; exact h1 hzy
      · rw [if_neg h2]
        have hx0 : m.to x < 0 := by omega
        have hy0 : ¬ 0 < m.used y := fun h => h2 (.inr h)
        have hum := um_add (f := m.to) (x := x) (y := (y : Int)) hx0 (by omega) N
        rw [if_pos hx] at hum
        have hum' : um (m.add x y).to N + 1 = um m.to N := hum
        have hsub : Sub N m (m.add x y) := fun z hz h0 => by simp only [PM.add]; rw [if_neg (fun e => by subst e; omega)]
        have hxx : (m.add x y).to x = y := by simp [PM.add]
        have hother : ∀ z, z ≠ x → (m.add x y).to z = m.to z := fun z e => by simp [PM.add, e]
        have hva := hv.add hx hy hx0 hy0
        refine putF_closes ht hu m0 x0 y0 K (m.add x y) _ hva (hs.trans hsub) (fun p h => ?_) (fun z c hz hc a1 a2 a3 => ?_) ?_ (fun P hP hPx => ?_) ?_
        · rcases List.mem_append.1 h with h | h
          · exact hq p (by simp [h])
          · obtain ⟨z, hz, h0, h⟩ := mem_news.1 h
            have hlz := hva.lt z hz
            rcases h with h | h
            · subst h; exact ⟨ht _ _ hx hz, hu _ _ hy (by omega)⟩
            · subst h; exact ⟨ht _ _ hz hx, hu _ _ (by omega) hy⟩
        · by_cases ez : z = x
          · subst ez
            rw [hxx]
            refine ⟨.inr (List.mem_append.2 (.inr (mem_news.2 ⟨c, hc, a3, .inl (by simp)⟩))), .inr (List.mem_append.2 (.inr (mem_news.2 ⟨c, hc, a3, .inr (by simp)⟩)))⟩
          · by_cases ec : c = x
            · subst ec
              rw [hxx]
              exact ⟨.inr (List.mem_append.2 (.inr (mem_news.2 ⟨z, hz, a2, .inr (by simp)⟩))), .inr (List.mem_append.2 (.inr (mem_news.2 ⟨z, hz, a2, .inl (by simp)⟩)))⟩
            · rw [hother z ez] at a2 ⊢
              rw [hother c ec] at a3 ⊢
              obtain ⟨g1, g2⟩ := hp z c hz hc a1 a2 a3
              have key : ∀ i j, i < N → j < N → 0 ≤ m.to i → 0 ≤ m.to j → i ≠ x → j ≠ x → (Cons t u m i j ∨ (t i j, u (m.to i).toNat (m.to j).toNat) ∈ (x, y) :: q) → Cons t u (m.add x y) i j ∨ (t i j, u (m.to i).toNat (m.to j).toNat) ∈ q ++ news N t u (m.add x y) x y N := by
                intro i j hi hj i0 j0 ei ej h
                rcases h with h | h
                · exact .inl (h.sub hsub (ht _ _ hi hj) hi hj i0 j0)
                · rcases List.mem_cons.1 h with h | h
                  · left
                    unfold Cons
                    rw [hother i ei, hother j ej]
                    have e1 := congrArg Prod.fst h
                    have e2 := congrArg Prod.snd h
                    simp only at e1 e2
                    rw [e1, e2, hxx]
                  · exact .inr (List.mem_append.2 (.inl h))
              exact ⟨key z c hz hc a2 a3 ez ec g1, key c z hc hz a3 a2 ec ez g2⟩
        · rcases ha with h | h
          · by_cases e : x0 = x
            · subst e; omega
            · exact .inl (by rw [hother x0 e]; exact h)
          · rcases List.mem_cons.1 h with h | h
            · cases h; exact .inl hxx
            · exact .inr (List.mem_append.2 (.inl h))
        · obtain ⟨hH, hQ⟩ := hf P hP hPx
          have hPxy := hQ (x, y) (by simp)
          simp only at hPxy
          have hH' : Hom N t u (m.add x y) P := ⟨hH.hom, hH.inj, fun z hz h0 => by
            by_cases e : z = x
            · subst e; rw [hxx, hPxy]
            · rw [hother z e] at h0 ⊢; exact hH.has z hz h0⟩
          refine ⟨hH', fun p h => ?_⟩
          rcases List.mem_append.1 h with h | h
          · exact hQ p (by simp [h])
          · obtain ⟨z, hz, h0, h⟩ := mem_news.1 h
            have hPz := hH'.has z hz h0
            rcases h with h | h
            · subst h; simp only; rw [hH.hom x z hx hz, hPxy]; congr 1; omega
            · subst h; simp only; rw [hH.hom z x hz hx, hPxy]; congr 1; omega
        · have := news_length N t u (m.add x y) x y N
          rw [← hum', Nat.mul_add] at hK
          rw [List.length_append]
          omega

/-- THE LAW OF THE QUEUE: closing with one pair. -/
theorem put_closes {N : Nat} {t u : Nat → Nat → Nat} (ht : ∀ a b, a < N → b < N → t a b < N) (hu : ∀ a b, a < N → b < N → u a b < N) {K : Nat} {m : PM} {x y : Nat} (hv : Va N m) (hx : x < N) (hy : y < N)
    (hK : 1 + (2 * N + 1) * um m.to N < K) : Closes N t u m x y (putF N t u K m [(x, y)]) :=
  putF_closes ht hu m x y K m [(x, y)] hv (Sub.refl N m) (fun p h => by simp at h; subst h; exact ⟨hx, hy⟩) (fun z c _ _ h1 h2 _ => by omega) (.inr (by simp)) (fun P hP hPx => ⟨hP, fun p h => by simp at h; subst h; exact hPx⟩) (by simpa using hK)
end Go.Proofs.YtinjjaoikofkdaaDoor

/- How many isomorphisms there are at most; loops at elements are squares. -/
namespace Go.Proofs.YtinjjaoikofkdaaDoor
set_option linter.unusedSimpArgs false
set_option linter.unusedVariables false

/-- Rows and columns tell their places. -/
structure Lat (N : Nat) (t : Nat → Nat → Nat) : Prop where
  lt : ∀ x y, x < N → y < N → t x y < N
  left : ∀ x y z, x < N → y < N → z < N → t x y = t x z → y = z
  right : ∀ x y z, x < N → y < N → z < N → t y x = t z x → y = z
theorem pm_inj {n : Int} {p : Nat → Nat} (h : IsPm n p) {i j : Nat} (hi : (i : Int) < n) (hj : (j : Int) < n) (e : p i = p j) : i = j := by
  have := h.hi
  rcases Nat.lt_trichotomy i j with h2 | h2 | h2
  · exact absurd e.symm (h.inj j i (by omega) h2 hj)
  · exact h2
  · exact absurd e (h.inj i j (by omega) h2 hi)
theorem Lat.of_sq {N : Nat} {t : Nat → Nat → Nat} (h : IsSq (N : Int) t) : Lat N t where
  lt x y hx hy := by
    have := h.hi
    have := (h.rows.row x (by omega) (by omega)).lt y (by omega) (by omega)
    omega
  left x y z hx hy hz e := by
    have := h.hi
    exact pm_inj (h.rows.row x (by omega) (by omega)) (by omega) (by omega) e
  right x y z hx hy hz e := by
    have := h.hi
    exact pm_inj (h.cols.row x (by omega) (by omega)) (i := y) (j := z) (by omega) (by omega) e

/-- Where a part leads, and where it does not. -/
def dm (N : Nat) (f : Nat → Int) : List Nat := (List.range N).filter fun z => decide (0 ≤ f z)
def dn (N : Nat) (f : Nat → Int) : List Nat := (List.range N).filter fun z => decide (f z < 0)
theorem dm_len (f : Nat → Int) : ∀ N, (dm N f).length + um f N = N
  | 0 => by simp [dm, um]
  | N + 1 => by
    have ih := dm_len f N
    unfold dm at *
    rw [List.range_succ, List.filter_append, List.length_append]
    simp only [um, List.filter_cons, List.filter_nil]
    by_cases h : f N < 0
    · rw [if_pos h, if_neg (by simp; omega)]; simp; omega
    · rw [if_neg h, if_pos (by simp; omega)]; simp; omega
theorem dn_len (f : Nat → Int) : ∀ N, (dn N f).length = um f N
  | 0 => by simp [dn, um]
  | N + 1 => by
    have ih := dn_len f N
    unfold dn at *
    rw [List.range_succ, List.filter_append, List.length_append, ih]
    simp only [um, List.filter_cons, List.filter_nil]
    by_cases h : f N < 0
    · rw [if_pos h, if_pos (by simpa using h)]; simp
    · rw [if_neg h, if_neg (by simpa using h)]; simp
theorem nodup_map' {α β : Type} {f : α → β} : ∀ {l : List α}, l.Nodup → (∀ a ∈ l, ∀ b ∈ l, f a = f b → a = b) → (l.map f).Nodup
  | [], _, _ => by simp
  | a :: l, h, hi => by
    rw [List.map_cons, List.nodup_cons]
    obtain ⟨h1, h2⟩ := List.nodup_cons.1 h
    refine ⟨fun hm => ?_, nodup_map' h2 fun x hx y hy => hi x (by simp [hx]) y (by simp [hy])⟩
    obtain ⟨b, hb, e⟩ := List.mem_map.1 hm
    exact h1 (hi b (by simp [hb]) a (by simp) e ▸ hb)
/-- A part that is closed and does not lead all leads half of all at most. -/
theorem half {N : Nat} {t u : Nat → Nat → Nat} {m : PM} (hl : Lat N t) (hc : Cl N t u m) {x : Nat} (hx : x < N) (hx0 : m.to x < 0) : 2 * (N - um m.to N) ≤ N := by
  have hcl : ∀ a b, a < N → b < N → 0 ≤ m.to a → 0 ≤ m.to b → 0 ≤ m.to (t a b) := fun a b ha hb h1 h2 => by
    have := hc a b ha hb h1 h2
    unfold Cons at this; omega
  have hnew : ∀ z, z < N → 0 ≤ m.to z → m.to (t x z) < 0 := fun z hz hz0 => by
    rcases Int.lt_or_le (m.to (t x z)) 0 with h | h
    · exact h
    · exfalso
      obtain ⟨i, hi, he⟩ := surj_of_inj N (fun i => if 0 ≤ m.to i then t i z else i) (fun i hi => by
        split
        · exact hl.lt _ _ hi hz
        · exact hi) (fun i j hi hj e => by
        split at e <;> split at e
        · exact hl.right z i j hz hi hj e
        · rename_i h1 h2; exact absurd (e ▸ hcl i z hi hz h1 hz0) h2
        · rename_i h1 h2; exact absurd (e ▸ hcl j z hj hz h2 hz0) h1
        · exact e) (t x z) (hl.lt x z hx hz)
      split at he
      · rename_i h1
        have := hl.right z i x hz hi hx he
        subst this; omega
      · rename_i h1; exact h1 (he ▸ h)
  have h1 := dm_len m.to N
  have h2 := dn_len m.to N
  have h3 := List.Nodup.length_le_of_subset (l₁ := (dm N m.to).map (t x)) (l₂ := dn N m.to) (nodup_map' (List.Pairwise.filter _ List.nodup_range) fun a ha b hb e => by
    simp only [dm, List.mem_filter, List.mem_range] at ha hb
    exact hl.left x a b hx ha.1 hb.1 e) fun v hv => by
    obtain ⟨z, hz, rfl⟩ := List.mem_map.1 hv
    simp only [dm, List.mem_filter, List.mem_range, decide_eq_true_eq] at hz
    simp only [dn, List.mem_filter, List.mem_range, decide_eq_true_eq]
    exact ⟨hl.lt x z hx hz.1, hnew z hz.1 hz.2⟩
  rw [List.length_map] at h3
  omega

theorem flatMap_len {α : Type} {f : Nat → List α} {B : Nat} : ∀ {N : Nat}, (∀ y, y < N → (f y).length ≤ B) → ((List.range N).flatMap f).length ≤ N * B
  | 0, _ => by simp
  | N + 1, h => by
    rw [List.range_succ, List.flatMap_append, List.length_append, List.flatMap_singleton, Nat.succ_mul]
    exact Nat.add_le_add (flatMap_len fun y hy => h y (by omega)) (h N (by omega))
def gq (N d : Nat) : Nat := if d = N then 0 else N / 2 + 1 - d
theorem isos_bound {N : Nat} {t u : Nat → Nat → Nat} (hl : Lat N t) (hu : ∀ a b, a < N → b < N → u a b < N) : ∀ (K : Nat) (m : PM), Va N m → Cl N t u m → um m.to N < K → (isos N t u m.abs).length ≤ N ^ gq N (N - um m.to N)
  | 0, _, _, _, h => absurd h (by omega)
  | K + 1, m, hv, hc, hK => by
    by_cases h0 : um m.to N = 0
    · rw [isos_full hl.lt hv hc h0, h0, Nat.sub_zero, gq, if_pos rfl]; simp
    · obtain ⟨x, hx, hx0, hxm⟩ := um_pos h0
      have hul := um_le m.to N
      have hh := half hl hc hx hx0
      rw [isos_first hx hxm hx0]
      have hg : gq N (N - um m.to N) = (gq N (N - um m.to N) - 1) + 1 := by
        unfold gq; rw [if_neg (by omega)]; omega
      rw [hg, Nat.pow_succ, Nat.mul_comm]
      refine flatMap_len fun y hy => ?_
      have hC := closeF_closes hl.lt hu (um m.to N + 1) m x y hv hx hy (by omega)
      cases h2 : (closeF N t u (um m.to N + 1) m x y).2 with
      | false => rw [isos_failed hx hx0 hC h2]; exact Nat.zero_le _
      | true =>
        have hum := closed_um hx hx0 hC h2
        have hcl := closed_cl hl.lt hc hC h2
        rw [isos_closed hx hx0 hC h2]
        refine Nat.le_trans (isos_bound hl hu K _ (hC.va h2) hcl (by omega)) (Nat.pow_le_pow_right (by omega) ?_)
        generalize (closeF N t u (um m.to N + 1) m x y).1 = m' at hum hcl
        have hul' := um_le m'.to N
        by_cases h3 : um m'.to N = 0
        · rw [h3, Nat.sub_zero]; unfold gq; rw [if_pos rfl]; exact Nat.zero_le _
        · obtain ⟨x', hx', hx0', _⟩ := um_pos h3
          have := half hl hcl hx' hx0'
          unfold gq; rw [if_neg (by omega), if_neg (by omega)]; omega
theorem iso_most {N : Nat} {t u : Nat → Nat → Nat} (h1 : N ≤ 10) (hl : Lat N t) (hu : ∀ a b, a < N → b < N → u a b < N) : (isos N t u fun _ => none).length ≤ 1000000 := by
  have h := isos_bound hl hu (N + 1) ⟨fun _ => -1, fun _ => 0, 0⟩ (zero_va N) (zero_cl N t u) (by have := um_le (fun _ => (-1 : Int)) N; show um (fun _ => -1) N < N + 1; omega)
  rw [zero_abs] at h
  refine Nat.le_trans h ?_
  have hg : gq N (N - um (fun _ => (-1 : Int)) N) ≤ 6 := by
    unfold gq; split <;> omega
  have e1 : ∀ k, k ≤ 6 → N ^ k ≤ 10 ^ 6 := fun k hk => Nat.le_trans (Nat.pow_le_pow_left h1 k) (Nat.pow_le_pow_right (by omega) hk)
  exact e1 _ hg

/-! ### Isotopes of squares -/
structure Pm (N : Nat) (f : Nat → Nat) : Prop where
  lt : ∀ i, i < N → f i < N
  inj : ∀ i j, i < N → j < N → f i = f j → i = j
theorem Pm.surj {N : Nat} {f : Nat → Nat} (h : Pm N f) {v : Nat} (hv : v < N) : ∃ i, i < N ∧ f i = v := surj_of_inj N f h.lt h.inj v hv
theorem isoW_at {N : Nat} {t : Nat → Nat → Nat} {f g h : Nat → Nat} (hf : Pm N f) (hg : Pm N g) : ∀ m, m ≤ N * N → ∀ x y, x < N → y < N → isoW N t f g h m (f x) (g y) = if x * N + y < m then h (t x y) else 0
  | 0, _, x, y, _, _ => by simp [isoW]
  | m + 1, hm, x, y, hx, hy => by
    have hN : 0 < N := by omega
    have h1 : m / N < N := Nat.div_lt_of_lt_mul (by omega)
    have h2 : m % N < N := Nat.mod_lt _ hN
    have h3 := Nat.div_add_mod m N
    rw [Nat.mul_comm] at h3
    simp only [isoW]
    by_cases e : x = m / N ∧ y = m % N
    · obtain ⟨rfl, rfl⟩ := e
      rw [if_pos ⟨rfl, rfl⟩, if_pos (by omega)]
    · rw [if_neg (fun hc => e ⟨hf.inj _ _ hx h1 hc.1, hg.inj _ _ hy h2 hc.2⟩), isoW_at hf hg m (by omega) x y hx hy]
      have hne : x * N + y ≠ m := fun hc => e (by
        have e1 : (x * N + y) / N = x := by rw [Nat.mul_comm, Nat.mul_add_div hN, Nat.div_eq_of_lt hy]; rfl
        have e2 : (x * N + y) % N = y := by rw [Nat.mul_comm, Nat.mul_add_mod]; exact Nat.mod_eq_of_lt hy
        rw [hc] at e1 e2
        exact ⟨e1.symm, e2.symm⟩)
      by_cases c : x * N + y < m
      · rw [if_pos c, if_pos (by omega)]
      · rw [if_neg c, if_neg (by omega)]
theorem isoW_all {N : Nat} {t : Nat → Nat → Nat} {f g h : Nat → Nat} (hf : Pm N f) (hg : Pm N g) {x y : Nat} (hx : x < N) (hy : y < N) : isoW N t f g h (N * N) (f x) (g y) = h (t x y) := by
  rw [isoW_at hf hg _ (Nat.le_refl _) x y hx hy, if_pos]
  have : (x + 1) * N ≤ N * N := Nat.mul_le_mul_right _ hx
  rw [Nat.succ_mul] at this; omega
theorem lat_isoW {N : Nat} {t : Nat → Nat → Nat} {f g h : Nat → Nat} (hl : Lat N t) (hf : Pm N f) (hg : Pm N g) (hh : Pm N h) : Lat N (isoW N t f g h (N * N)) where
  lt i j hi hj := by
    obtain ⟨x, hx, rfl⟩ := hf.surj hi
    obtain ⟨y, hy, rfl⟩ := hg.surj hj
    rw [isoW_all hf hg hx hy]; exact hh.lt _ (hl.lt _ _ hx hy)
  left i j k hi hj hk e := by
    obtain ⟨x, hx, rfl⟩ := hf.surj hi
    obtain ⟨y, hy, rfl⟩ := hg.surj hj
    obtain ⟨z, hz, rfl⟩ := hg.surj hk
    rw [isoW_all hf hg hx hy, isoW_all hf hg hx hz] at e
    rw [hl.left x y z hx hy hz (hh.inj _ _ (hl.lt _ _ hx hy) (hl.lt _ _ hx hz) e)]
  right i j k hi hj hk e := by
    obtain ⟨x, hx, rfl⟩ := hg.surj hi
    obtain ⟨y, hy, rfl⟩ := hf.surj hj
    obtain ⟨z, hz, rfl⟩ := hf.surj hk
    rw [isoW_all hf hg hy hx, isoW_all hf hg hz hx] at e
    rw [hl.right x y z hx hy hz (hh.inj _ _ (hl.lt _ _ hy hx) (hl.lt _ _ hz hx) e)]
theorem pm_xch {N e : Nat} (he : e < N) : Pm N (xch N e) where
  lt i hi := by unfold xch idTo; split <;> (try split) <;> (try split) <;> omega
  inj i j hi hj h := by
    unfold xch idTo at h
    repeat' split at h
    all_goals omega
theorem pm_then {N : Nat} {p q : Nat → Nat} (hp : Pm N p) (hq : Pm N q) : Pm N (thTo p q N) where
  lt i hi := by unfold thTo; rw [if_pos hi]; exact hq.lt _ (hp.lt i hi)
  inj i j hi hj h := by unfold thTo at h; rw [if_pos hi, if_pos hj] at h; exact hp.inj i j hi hj (hq.inj _ _ (hp.lt i hi) (hp.lt j hj) h)
theorem Lat.row {N : Nat} {t : Nat → Nat → Nat} (h : Lat N t) {a : Nat} (ha : a < N) : Pm N (t a) := ⟨fun i hi => h.lt a i ha hi, fun i j hi hj e => h.left a i j ha hi hj e⟩
theorem Lat.col {N : Nat} {t : Nat → Nat → Nat} (h : Lat N t) {b : Nat} (hb : b < N) : Pm N (fun x => t x b) := ⟨fun i hi => h.lt i b hi hb, fun i j hi hj e => h.right b i j hb hi hj e⟩
/-- The maps that lead a square to its loop at two elements. -/
def toF (N : Nat) (t : Nat → Nat → Nat) (a b : Nat) : Nat → Nat := thTo (fun x => t x b) (xch N (t a b)) N
def toG (N : Nat) (t : Nat → Nat → Nat) (a b : Nat) : Nat → Nat := thTo (t a) (xch N (t a b)) N
def toH (N : Nat) (t : Nat → Nat → Nat) (a b : Nat) : Nat → Nat := xch N (t a b)
theorem pm_toF {N : Nat} {t : Nat → Nat → Nat} (h : Lat N t) {a b : Nat} (ha : a < N) (hb : b < N) : Pm N (toF N t a b) := pm_then (h.col hb) (pm_xch (h.lt a b ha hb))
theorem pm_toG {N : Nat} {t : Nat → Nat → Nat} (h : Lat N t) {a b : Nat} (ha : a < N) (hb : b < N) : Pm N (toG N t a b) := pm_then (h.row ha) (pm_xch (h.lt a b ha hb))
theorem pm_toH {N : Nat} {t : Nat → Nat → Nat} (h : Lat N t) {a b : Nat} (ha : a < N) (hb : b < N) : Pm N (toH N t a b) := pm_xch (h.lt a b ha hb)
/-- The loop of a square at two elements. -/
def loopAt (N : Nat) (t : Nat → Nat → Nat) (a b : Nat) : Nat → Nat → Nat := isoW N t (toF N t a b) (toG N t a b) (toH N t a b) (N * N)
theorem lat_loopAt {N : Nat} {t : Nat → Nat → Nat} (h : Lat N t) {a b : Nat} (ha : a < N) (hb : b < N) : Lat N (loopAt N t a b) := lat_isoW h (pm_toF h ha hb) (pm_toG h ha hb) (pm_toH h ha hb)
end Go.Proofs.YtinjjaoikofkdaaDoor

/- The program's list of the elements of a square, and its check of loops: contracts. -/
namespace Go.Proofs.YtinjjaoikofkdaaDoor
set_option linter.unusedSimpArgs false
set_option linter.unusedVariables false
open Go.RowKit

theorem und_sl8 : Tryd.prog.underlying 74 = some (.slice 5) := by kernel_rfl
theorem inf_el8 : (Tryd.prog.info? 5).map (fun i => (i.zero, i.size, i.bytes)) = some (some (.int .u8 0), 1, 1) := by kernel_rfl

/-- A slice of new memory whose elements are 0, 1, .. . -/
def IsElems (N : Nat) (w : World) (e : Ending) (w' : World) : Prop :=
  ∃ g cap, e = .returned (.slice (some ⟨g, 0, none⟩) N cap) ∧ Below w.heap.size w w' ∧ w.heap.size ≤ g ∧ rds w' g N (fun j => .int .u8 (j : Int))

theorem flat_u8 (x : Int) : flat #[.int .u8 x] := by intro v hv; simp at hv; subst hv; rfl

set_option maxRecDepth 100000 in
set_option maxHeartbeats 1000000 in
theorem elements_any (n : Int) (t : Nat → Nat → Nat) (w : World) (h1 : 1 ≤ n) (h2 : n ≤ 10) :
    Calls Tryd.prog 52 #[.agg (sqs n t)] w (IsElems n.toNat w) := by
  have so := sqs_order n t
  go_enter Tryd.func52, Tryd.ntmps52
  go_wp2
  go_loopw [3, 4, 9] (fun v _ i wr => ∃ k : Nat, (k : Int) ≤ n ∧ i = .int .u8 k ∧ Below w.heap.size w wr ∧ wr.ownsRow w.heap.size 5 1 v k ((List.range k).map fun j : Nat => .int .u8 (j : Int))) (fun _ _ i _ => (n - intOf i).toNat)
  case atStart =>
    refine ⟨0, by omega, rfl, ?_, ?_⟩
    · exact ((Below.refl _ _).alloc (by simp) _).alloc (by simp) _
    · exact own_empty _ _ _ _ _ (by simp) (by simp)
  case round =>
    obtain ⟨k, hk, rfl, hB, hown⟩ := hrel
    by_cases hlt : (k : Int) < n
    · go_wp2_with (refine wpList_app1 rfl _ _ 74 rfl w.heap.size 5 (.int .u8 0) 1 1 und_sl8 inf_el8 rfl (by decide) (by decide) _ _ _ rfl (hown.alloc _) _ rfl _ (blk_new _ _ _ _ rfl) rfl (flat_u8 _) (by omega) (by simp; have := hB.size; omega) ?_; intro v1 w1 hown1 hg hat)
      go_roundw
      case rel =>
        refine ⟨k + 1, by omega, by go_num, (hB.alloc hB.size _).grown hg (by simp; have := hB.size; omega) (fun j hj => (hown.lt j hj).1), ?_⟩
        rw [List.range_succ, List.map_append]
        exact hown1
      case measure => simp [intOf]; omega
    · have hkn : k = n.toNat := by omega
      go_wp2
      go_ret
      subst hkn
      obtain ⟨g, cap, rfl, hg, _, hr⟩ := own_rds hown (by omega)
      refine ⟨g, cap, rfl, hB, hg, hr.lt, fun j hj => ?_⟩
      rw [hr.at_ j (by omega)]
      simp [List.getD_eq_getElem?_getD, hj]

/-- An element is neutral. -/
def unitB (n : Int) (t : Nat → Nat → Nat) (e : Nat) : Bool := decide (∀ x ∈ List.range n.toNat, t e x = x ∧ t x e = x)
theorem unitB_true {n : Int} {t : Nat → Nat → Nat} {e : Nat} : unitB n t e = true ↔ ∀ x : Nat, (x : Int) < n → t e x = x ∧ t x e = x := by
  simp only [unitB, decide_eq_true_eq, List.mem_range]
  exact ⟨fun h x hx => h x (by omega), fun h x hx => h x (by omega)⟩
theorem unitB_false {n : Int} {t : Nat → Nat → Nat} {e : Nat} : unitB n t e = false ↔ ¬ ∀ x : Nat, (x : Int) < n → t e x = x ∧ t x e = x := by
  rw [← unitB_true]; simp

set_option maxRecDepth 100000 in
set_option maxHeartbeats 1000000 in
theorem isUnit_any (n : Int) (t : Nat → Nat → Nat) (u : Nat) (w : World) (h1 : 1 ≤ n) (h2 : n ≤ 10) (hu : u < 10) (hby : Byt2 t) :
    Calls Tryd.prog 73 #[.agg (sqs n t), .int .u8 u] w fun e w' => e = .returned (.bool (unitB n t u)) ∧ Below w.heap.size w w' := by
  have b1 := blk_new w (sqs n t) 36 w.heap.size rfl
  have hB : Below w.heap.size w (w.alloc (.cells (sqs n t) 36)) := (Below.refl _ _).alloc (by simp) _
  go_enter Tryd.func73, Tryd.ntmps73
  go_wp2_with (first | (refine wpList_load_part rfl 36 _ rfl _ _ rfl (sqs n t) _ und_sqs rfl inf_sqs (cells_of_blk0 b1) ?_) | (go_at_call 52; ((with_reducible refine (elements_any _ _ _ h1 h2).mono ?_); rintro e w1 ⟨g, cap, rfl, hb, hg, hr⟩)))
  have b2 := b1.later hb
  have hB2 := below_self hB hb
  clear b1
  go_loopw [4, 6, 10] (fun _ _ i wr => ∃ k : Nat, (k : Int) ≤ n ∧ i = .int .i64 k ∧ Below w.heap.size w wr ∧ blk wr w.heap.size (sqs n t) 36 ∧ rds wr g n.toNat (fun j => .int .u8 (j : Int)) ∧
      ∀ x : Nat, x < k → t u x = x ∧ t x u = x) (fun _ _ i _ => (n - intOf i).toNat)
  case atStart => exact ⟨0, by omega, rfl, hB2, b2, hr, fun _ h => absurd h (by omega)⟩
  case round =>
    obtain ⟨k, hk, rfl, hB3, b3, hr3, hx⟩ := hrel
    have HR := Hid2.mk hx
    clear hx hr b2 hB2
    by_cases hlt : (k : Int) < n
    · have c0 := hr3.at_ k (by omega)
      have c1 := b3.cell _ _ (sqs_get (n := n) (t := t) (x := u) (y := k) (by omega) (by omega))
      have c2 := b3.cell _ _ (sqs_get (n := n) (t := t) (x := k) (y := u) (by omega) (by omega))
      by_cases h1 : t u k = k
      · by_cases h2 : t k u = k
        · go_wp2
          go_roundw
          case rel =>
            refine ⟨k + 1, by omega, by go_num, hB3, b3, hr3, fun x hx => ?_⟩
            by_cases h : x = k
            · subst h; exact ⟨h1, h2⟩
            · exact HR.out x (by omega)
          case measure => simp [intOf]; omega
        · have hF : unitB n t u = false := unitB_false.2 fun h => h2 (h k hlt).2
          go_wp2
          go_ret
          exact ⟨by first | rfl | exact ret_b hF, hB3⟩
      · have hF : unitB n t u = false := unitB_false.2 fun h => h1 (h k hlt).1
        go_wp2
        go_ret
        exact ⟨by first | rfl | exact ret_b hF, hB3⟩
    · have hT : unitB n t u = true := unitB_true.2 fun x hx => HR.out x (by omega)
      go_wp2
      go_ret
      exact ⟨by first | rfl | exact ret_b hT, hB3⟩
end Go.Proofs.YtinjjaoikofkdaaDoor

/- Drawn regions with operations that float, over what is known of memory. -/
namespace Go.Proofs.YtinjjaoikofkdaaDoor
set_option linter.unusedSimpArgs false
set_option linter.unusedVariables false
open Go Go.RowKit

section
variable {P : Program} {D : Nat → Prop} {w0 w : World} {L : List Ent} {ops : Array Oper} {o : Oper} {a af : Act} {Q : Exit → Act → World → Prop}

theorem Mm.suffix : ∀ {Lg : List Ent}, Mm D w0 w (Lg ++ L) → Mm D w0 w L
  | [], M => M
  | _ :: _, M => Mm.suffix (Lg := _) (M.drop 0)

/-- What an operation gives, by a walk. -/
theorem yield_walk (hg : o.guard = none) {d : Nat} (hd : o.dst = some d) (hlt : d < a.tmps.size) {R : Value → World → Prop} (h : wpList P ops (fun e a' w' => e = .normal ∧ a'.defers = a.defers ∧ R (a'.tmps.getD d undef) w') [o] a w) : yield P o a w R := by
  unfold wpList at h
  rw [if_pos (by simp [Region.wanted, hg])] at h
  have hput : ∀ u, (a.put o.dst u).tmps.getD d undef = u := fun u => by simp [Act.put, hd, hlt]
  rcases h with h | ⟨_, a', w', he, _⟩
  case inr => cases he
  unfold Oper.wp at h
  unfold yield
  generalize (execOp a.eval o).run P w = r at *
  cases r with
  | ok n w' =>
    cases n <;> simp only [Oper.upon, wpList] at h <;> simp only [yieldR]
    case value u => obtain ⟨_, _, h⟩ := h; rwa [hput] at h
    case skip => obtain ⟨_, _, h⟩ := h; rwa [hput] at h
    case defer x =>
      obtain ⟨_, h, _⟩ := h
      simp [Act.put, hd] at h
    case enter f args =>
      refine h.mono fun e w'' he => ?_
      cases e with
      | returned u => obtain ⟨_, _, he⟩ := he; rw [hput] at he; exact ⟨u, rfl, he⟩
      | panicked c => cases he.1
      | outgrown => obtain ⟨_, _, h, _⟩ := he; cases h
    case row row args => exact Rows.mono h fun u w'' he => by obtain ⟨_, _, he⟩ := he; rwa [hput] at he
  | halt x w' => cases x <;> simp [Oper.upon] at h

/-- What is known when some floating operations have been done. -/
def Stg (St : List Value → List Ent → Prop) (D : Nat → Prop) (w0 : World) (L : List Ent) (g : List Value) (w : World) : Prop := ∃ Lg, St g Lg ∧ Mm D w0 w (Lg ++ L)
/-- ONE OPERATION FLOATS. -/
theorem wp_region_mmf1 {id : Nat} {l : List Oper} (M : Mm D w0 w L) (I : List Nat) (s1 n : Nat) (o1 : Oper) (St : List Value → List Ent → Prop) (hm : P.follows .mixedOrders = true) (hB : newI l.toArray I [s1] n = true) (h1 : l[s1]? = some o1) (hg1 : o1.guard = none) (h0 : St [] [])
    (ht : wpTextG P (Stg St D w0 L) l.toArray (I.filterMap fun i => l[i]?) a af) (hA : ∀ Lg w, St [] Lg → Mm D w0 w (Lg ++ L) → yield P o1 af w fun u w' => Stg St D w0 L [u] w')
    (hQ : ∀ v Lg w', St [v] Lg → Mm D w0 w' (Lg ++ L) → wpList P l.toArray Q (l.drop n) (af.put o1.dst v) w') : (Code.region id l.toArray true).wp P Q a w :=
  wp_region_float1 I s1 n o1 (Stg St D w0 L) hm hB h1 hg1 (fun w ⟨Lg, h, M⟩ => hA Lg w h M) ⟨[], h0, M.drew⟩ ht fun v w' ⟨Lg, h, M⟩ => hQ v Lg w' h M
/-- TWO OPERATIONS FLOAT. -/
theorem wp_region_mmf2 {id : Nat} {l : List Oper} (M : Mm D w0 w L) (I : List Nat) (s1 s2 n : Nat) (o1 o2 : Oper) (St : List Value → List Ent → Prop) (hm : P.follows .mixedOrders = true) (hB : newI l.toArray I [s1, s2] n = true) (h1 : l[s1]? = some o1) (hg1 : o1.guard = none) (h2 : l[s2]? = some o2) (hg2 : o2.guard = none) (h0 : St [] [])
    (ht : wpTextG P (Stg St D w0 L) l.toArray (I.filterMap fun i => l[i]?) a af) (hA : ∀ Lg w, St [] Lg → Mm D w0 w (Lg ++ L) → yield P o1 af w fun u w' => Stg St D w0 L [u] w')
    (hA2 : ∀ v Lg w, St [v] Lg → Mm D w0 w (Lg ++ L) → yield P o2 (af.put o1.dst v) w fun u w' => Stg St D w0 L [v, u] w')
    (hQ : ∀ v u Lg w', St [v, u] Lg → Mm D w0 w' (Lg ++ L) → wpList P l.toArray Q (l.drop n) ((af.put o1.dst v).put o2.dst u) w') : (Code.region id l.toArray true).wp P Q a w :=
  wp_region_float2 I s1 s2 n o1 o2 (Stg St D w0 L) hm hB h1 hg1 h2 hg2 (fun w ⟨Lg, h, M⟩ => hA Lg w h M) (fun v w ⟨Lg, h, M⟩ => hA2 v Lg w h M) ⟨[], h0, M.drew⟩ ht fun v u w' ⟨Lg, h, M⟩ => hQ v u Lg w' h M
/-- THREE OPERATIONS FLOAT. -/
theorem wp_region_mmf3 {id : Nat} {l : List Oper} (M : Mm D w0 w L) (I : List Nat) (s1 s2 s3 n : Nat) (o1 o2 o3 : Oper) (St : List Value → List Ent → Prop) (hm : P.follows .mixedOrders = true) (hB : newI l.toArray I [s1, s2, s3] n = true) (h1 : l[s1]? = some o1) (hg1 : o1.guard = none) (h2 : l[s2]? = some o2) (hg2 : o2.guard = none) (h3 : l[s3]? = some o3) (hg3 : o3.guard = none) (h0 : St [] [])
    (ht : wpTextG P (Stg St D w0 L) l.toArray (I.filterMap fun i => l[i]?) a af) (hA : ∀ Lg w, St [] Lg → Mm D w0 w (Lg ++ L) → yield P o1 af w fun u w' => Stg St D w0 L [u] w')
    (hA2 : ∀ v Lg w, St [v] Lg → Mm D w0 w (Lg ++ L) → yield P o2 (af.put o1.dst v) w fun u w' => Stg St D w0 L [v, u] w')
    (hA3 : ∀ v u Lg w, St [v, u] Lg → Mm D w0 w (Lg ++ L) → yield P o3 ((af.put o1.dst v).put o2.dst u) w fun x w' => Stg St D w0 L [v, u, x] w')
    (hQ : ∀ v u x Lg w', St [v, u, x] Lg → Mm D w0 w' (Lg ++ L) → wpList P l.toArray Q (l.drop n) (((af.put o1.dst v).put o2.dst u).put o3.dst x) w') : (Code.region id l.toArray true).wp P Q a w :=
  wp_region_float3 I s1 s2 s3 n o1 o2 o3 (Stg St D w0 L) hm hB h1 hg1 h2 hg2 h3 hg3 (fun w ⟨Lg, h, M⟩ => hA Lg w h M) (fun v w ⟨Lg, h, M⟩ => hA2 v Lg w h M) (fun v u w ⟨Lg, h, M⟩ => hA3 v u Lg w h M) ⟨[], h0, M.drew⟩ ht fun v u x w' ⟨Lg, h, M⟩ => hQ v u x Lg w' h M
/-- A new variable among them. -/
def StA (w0 : World) (cs : Array Value) (ty : Nat) : List Value → List Ent → Prop
  | [], Lg => Lg = []
  | v :: _, Lg => ∃ b, v = .pointer (some ⟨b, 0, none⟩) ∧ w0.heap.size ≤ b ∧ Lg = [.box b cs ty]
theorem yield_allocM (M : Mm D w0 w L) {ty : Nat} {cs : Array Value} (ho : isAlloc o.op ty = true) {z : Value} (hz : ∀ w, (zeroValue ty).run P w = .ok z w) (hc : z.cells = cs) : yield P o a w fun u w' => Stg (StA w0 cs ty) D w0 L [u] w' := by
  have h := isAlloc_spec ho
  subst hc
  unfold yield
  have e : (Instr.alloc ty true (.tuple #[])).run P w = .ok (.pointer (some ⟨w.heap.size, 0, none⟩)) (w.alloc (.cells z.cells ty)) := by
    simp [Instr.alloc, newVar, Sem.run_bind, hz]
    first | done | rfl
  simp only [execOp, h, Sem.run_bind, e, Result.andThen_ok, Sem.run_pure, yieldR]
  exact ⟨_, ⟨_, rfl, M.size, rfl⟩, M.alloc _ _⟩
theorem wp_region_mma {id : Nat} {l : List Oper} (M : Mm D w0 w L) (I : List Nat) (s1 n : Nat) (o1 : Oper) (ty : Nat) (cs : Array Value) (hm : P.follows .mixedOrders = true) (hB : newI l.toArray I [s1] n = true) (h1 : l[s1]? = some o1) (hg1 : o1.guard = none)
    (ho : isAlloc o1.op ty = true) {z : Value} (hz : ∀ w, (zeroValue ty).run P w = .ok z w) (hc : z.cells = cs)
    (ht : wpTextG P (Stg (StA w0 cs ty) D w0 L) l.toArray (I.filterMap fun i => l[i]?) a af)
    (hQ : ∀ b w', w0.heap.size ≤ b → Mm D w0 w' (.box b cs ty :: L) → wpList P l.toArray Q (l.drop n) (af.put o1.dst (.pointer (some ⟨b, 0, none⟩))) w') : (Code.region id l.toArray true).wp P Q a w :=
  wp_region_mmf1 M I s1 n o1 (StA w0 cs ty) hm hB h1 hg1 rfl ht (fun Lg w h M => by
    have h' : Lg = [] := h
    subst h'
    exact yield_allocM M ho hz hc) fun v Lg w' h M => by
    obtain ⟨b, rfl, hb, rfl⟩ := h
    exact hQ b w' hb M
/-- A new slice of given parts among them. -/
def StB (w0 : World) (cs : Array Value) (e len : Nat) : List Value → List Ent → Prop
  | [], Lg => Lg = []
  | v :: _, Lg => ∃ b, v = .slice (some ⟨b, 0, none⟩) len len ∧ w0.heap.size ≤ b ∧ Lg = [.box b cs e]
theorem wp_region_mmb {id : Nat} {l : List Oper} (M : Mm D w0 w L) (I : List Nat) (s1 n : Nat) (o1 : Oper) (ty len e : Nat) (vals : List (Nat × Value)) (cs : Array Value) (hm : P.follows .mixedOrders = true) (hB : newI l.toArray I [s1] n = true) (h1 : l[s1]? = some o1) (hg1 : o1.guard = none)
    (ho : isBsl o1.op ty len = true)
    (ht : wpTextG P (Stg (StB w0 cs e len) D w0 L) l.toArray (I.filterMap fun i => l[i]?) a af)
    (hv : (bslParts o1.op).map (fun p => (p.1, af.eval p.2)) = vals) (hb : ∀ w : World, (Instr.buildSlice ty len vals.toArray).run P w = .ok (.slice (some ⟨w.heap.size, 0, none⟩) len len) (w.alloc (.cells cs e)))
    (hQ : ∀ b w', w0.heap.size ≤ b → Mm D w0 w' (.box b cs e :: L) → wpList P l.toArray Q (l.drop n) (af.put o1.dst (.slice (some ⟨b, 0, none⟩) len len)) w') : (Code.region id l.toArray true).wp P Q a w :=
  wp_region_mmf1 M I s1 n o1 (StB w0 cs e len) hm hB h1 hg1 rfl ht (fun Lg w h M => by
    have h' : Lg = [] := h
    subst h'
    subst hv
    unfold yield
    have hs := isBsl_spec ho
    rw [show execOp af.eval o1 = (do pure (.value (← Instr.buildSlice ty len ((bslParts o1.op).map (fun p => (p.1, af.eval p.2))).toArray))) by unfold execOp; rw [hs]; simp [bslParts]]
    simp only [Sem.run_bind, hb, Result.andThen_ok, Sem.run_pure, yieldR]
    exact ⟨_, ⟨_, rfl, M.size, rfl⟩, M.alloc _ _⟩) fun v Lg w' h M => by
    obtain ⟨b, rfl, hb, rfl⟩ := h
    exact hQ b w' hb M
end
end Go.Proofs.YtinjjaoikofkdaaDoor

/- Two results, of which the first is a struct in a cell of its own. -/
namespace Go.Proofs.YtinjjaoikofkdaaDoor
set_option linter.unusedSimpArgs false
set_option linter.unusedVariables false
open Go Go.RowKit

theorem results_part2 {P : Program} {fn : Func} {p q : Tmp} {ty : TypeId} (h : fn.results = #[.cell p ty, .tmp q]) (tmps : Array Value) (w : World) (b off : Nat) (part : Array Value) (d : TypeDesc)
    (hp : tmps.getD p undef = .pointer (some ⟨b, off, none⟩)) (hu : P.underlying ty = some d) (hd : (match d with | .struct _ | .array _ _ => true | _ => false) = true) (hi : (P.info? ty).map (·.size) = some part.size)
    (hc : ∀ j v, part[j]? = some v → w.cell? ⟨b, off + j, none⟩ = some v) (v : Value) (hv : tmps.getD q undef = v) :
    (results fn tmps).run P w = .ok (.tuple #[.agg part, v]) w := by
  have hp' : tmps[p]?.getD undef = .pointer (some ⟨b, off, none⟩) := by simpa using hp
  have hv' : tmps[q]?.getD undef = v := by simpa using hv
  simp [results, h, hp', hv', asAddr, run_load_part w b off ty part d hu hd hi hc]
end Go.Proofs.YtinjjaoikofkdaaDoor

/- Permutations made in one loop: contracts. -/
namespace Go.Proofs.YtinjjaoikofkdaaDoor
set_option linter.unusedSimpArgs false
set_option linter.unusedVariables false
open Go.RowKit

theorem build_plc (w : World) : (Instr.build 52 #[]).run Tryd.prog w = .ok (.agg (bys fun _ => 0)) w := by kernel_rfl

end Go.Proofs.YtinjjaoikofkdaaDoor

/- The cells of a triple of permutations. -/
namespace Go.Proofs.YtinjjaoikofkdaaDoor
set_option linter.unusedSimpArgs false
set_option linter.unusedVariables false
open Go.RowKit

def trs (f g h : Nat → Nat) : Array Value := tab 30 fun i => .int .u8 ((if i < 10 then f i else if i < 20 then g (i - 10) else h (i - 20) : Nat) : Int)
theorem trs_size (f g h : Nat → Nat) : (trs f g h).size = 30 := tab_size _ _
theorem flat_trs (f g h : Nat → Nat) : flat (trs f g h) := flat_tab fun _ _ => rfl
theorem trs_first {f g h : Nat → Nat} : ∀ j v, (bys f)[j]? = some v → (trs f g h)[0 + j]? = some v := by
  intro j v hv
  obtain ⟨hj, rfl⟩ := tab_get_some hv
  unfold trs; rw [tab_get (by omega), if_pos (by omega), Nat.zero_add]
theorem trs_second {f g h : Nat → Nat} : ∀ j v, (bys g)[j]? = some v → (trs f g h)[10 + j]? = some v := by
  intro j v hv
  obtain ⟨hj, rfl⟩ := tab_get_some hv
  unfold trs; rw [tab_get (by omega), if_neg (by omega), if_pos (by omega), Nat.add_sub_cancel_left]
theorem trs_third {f g h : Nat → Nat} : ∀ j v, (bys h)[j]? = some v → (trs f g h)[20 + j]? = some v := by
  intro j v hv
  obtain ⟨hj, rfl⟩ := tab_get_some hv
  unfold trs; rw [tab_get (by omega), if_neg (by omega), if_neg (by omega), Nat.add_sub_cancel_left]
theorem trs_get1 {f g h : Nat → Nat} {i : Nat} (hi : i < 10) : (trs f g h)[i]? = some (.int .u8 (f i)) := by
  have := trs_first (f := f) (g := g) (h := h) i _ (bys_get hi); rwa [Nat.zero_add] at this
theorem trs_get2 {f g h : Nat → Nat} {i : Nat} (hi : i < 10) : (trs f g h)[10 + i]? = some (.int .u8 (g i)) := trs_second i _ (bys_get hi)
theorem trs_get3 {f g h : Nat → Nat} {i : Nat} (hi : i < 10) : (trs f g h)[20 + i]? = some (.int .u8 (h i)) := trs_third i _ (bys_get hi)
theorem trs_ext {f g h p q r : Nat → Nat} (h1 : ∀ i, i < 10 → f i = p i) (h2 : ∀ i, i < 10 → g i = q i) (h3 : ∀ i, i < 10 → h i = r i) : trs f g h = trs p q r := by
  refine tab_ext fun i hi => ?_
  by_cases c1 : i < 10
  · rw [if_pos c1, if_pos c1, h1 i c1]
  · rw [if_neg c1, if_neg c1]
    by_cases c2 : i < 20
    · rw [if_pos c2, if_pos c2, h2 _ (by omega)]
    · rw [if_neg c2, if_neg c2, h3 _ (by omega)]
end Go.Proofs.YtinjjaoikofkdaaDoor

/- Triples of permutations: contracts. -/
namespace Go.Proofs.YtinjjaoikofkdaaDoor
set_option linter.unusedSimpArgs false
set_option linter.unusedVariables false
open Go.RowKit





end Go.Proofs.YtinjjaoikofkdaaDoor

/- Cells of a part of an isomorphism; two results of which the first is a struct. -/
namespace Go.Proofs.YtinjjaoikofkdaaDoor
set_option linter.unusedSimpArgs false
set_option linter.unusedVariables false
open Go Go.RowKit

def pms (m : PM) : Array Value := tab 21 fun i => .int .i64 (if i < 10 then m.to i else if i < 20 then m.used (i - 10) else m.size)
theorem pms_size (m : PM) : (pms m).size = 21 := tab_size _ _
theorem flat_pms (m : PM) : flat (pms m) := flat_tab fun _ _ => rfl
theorem pms_to (m : PM) {i : Nat} (h : i < 10) : (pms m)[i]? = some (.int .i64 (m.to i)) := by
  unfold pms; rw [tab_get (by omega), if_pos h]
theorem pms_used (m : PM) {i : Nat} (h : i < 10) : (pms m)[10 + i]? = some (.int .i64 (m.used i)) := by
  unfold pms; rw [tab_get (by omega), if_neg (by omega), if_pos (by omega), Nat.add_sub_cancel_left]
theorem pms_sz (m : PM) : (pms m)[20]? = some (.int .i64 m.size) := by
  unfold pms; rw [tab_get (by omega)]; rfl
theorem pms_set_to (m : PM) {x : Nat} (v : Int) (hx : x < 10) : (pms m).setIfInBounds x (.int .i64 v) = pms { m with to := fun i => if i = x then v else m.to i } := by
  unfold pms; rw [tab_set]
  refine tab_ext fun j hj => ?_
  dsimp only
  by_cases e : j = x
  · subst e; rw [if_pos rfl, if_pos hx, if_pos rfl]
  · rw [if_neg e, if_neg e]
theorem pms_set_used (m : PM) {y : Nat} (v : Int) (hy : y < 10) : (pms m).setIfInBounds (10 + y) (.int .i64 v) = pms { m with used := fun i => if i = y then v else m.used i } := by
  unfold pms; rw [tab_set]
  refine tab_ext fun j hj => ?_
  dsimp only
  by_cases e : j = 10 + y
  · subst e; rw [if_pos rfl, if_neg (by omega), if_pos (by omega), if_pos (by omega)]
  · rw [if_neg e]
    by_cases h : j < 10
    · rw [if_pos h, if_pos h]
    · rw [if_neg h, if_neg h]
      by_cases h2 : j < 20
      · rw [if_pos h2, if_pos h2, if_neg (by omega)]
      · rw [if_neg h2, if_neg h2]
theorem pms_set_sz (m : PM) (v : Int) : (pms m).setIfInBounds 20 (.int .i64 v) = pms { m with size := v } := by
  unfold pms; rw [tab_set]
  refine tab_ext fun j hj => ?_
  dsimp only
  by_cases e : j = 20
  · subst e; rfl
  · rw [if_neg e, if_pos (show j < 20 by omega), if_pos (show j < 20 by omega)]
theorem pms_add (m : PM) {x y : Nat} (hx : x < 10) (hy : y < 10) : (((pms m).setIfInBounds x (.int .i64 (y : Int))).setIfInBounds (10 + y) (.int .i64 1)).setIfInBounds 20 (.int .i64 (m.size + 1)) = pms (m.add x y) := by
  rw [pms_set_to m _ hx, pms_set_used _ _ hy, pms_set_sz]; rfl

theorem zero_l2m (w : World) : (zeroValue 122).run Tryd.prog w = .ok (.agg (pms ⟨fun _ => 0, fun _ => 0, 0⟩)) w := by kernel_rfl
theorem build_l2m (w : World) : (Instr.build 122 #[]).run Tryd.prog w = .ok (.agg (pms ⟨fun _ => 0, fun _ => 0, 0⟩)) w := by kernel_rfl
theorem und_l2m : Tryd.prog.underlying 122 = some (.struct (Tryd.prog.fieldsOf 122)) := by kernel_rfl
theorem inf_l2m : (Tryd.prog.info? 122).map (·.size) = some 21 := by kernel_rfl

theorem ret_two {a b : Array Value} {c d : Bool} (h : a = b) (k : c = d) : Ending.returned (.tuple #[.agg a, .bool c]) = Ending.returned (.tuple #[.agg b, .bool d]) := by rw [h, k]
end Go.Proofs.YtinjjaoikofkdaaDoor

/- The reference's closing of a part: a contract. -/
namespace Go.Proofs.YtinjjaoikofkdaaDoor
set_option linter.unusedSimpArgs false
set_option linter.unusedVariables false
open Go Go.RowKit

set_option maxRecDepth 100000 in
set_option maxHeartbeats 4000000 in
theorem l02Close_any (N : Nat) (t u : Nat → Nat → Nat) (h0 : 1 ≤ N) (h1 : N ≤ 10) (ht : ∀ x y : Nat, x < N → y < N → t x y < N) (hu : ∀ x y : Nat, x < N → y < N → u x y < N) :
    ∀ (K : Nat) (m : PM) (x y : Nat) (w : World), Va N m → x < N → y < N → um m.to N < K →
    Calls Tryd.prog 91 #[.agg (sqs (N : Int) t), .agg (sqs (N : Int) u), .agg (pms m), .int .i64 (x : Int), .int .i64 (y : Int)] w fun e w' =>
      e = .returned (.tuple #[.agg (pms (closeF N t u K m x y).1), .bool (closeF N t u K m x y).2]) ∧ Below w.heap.size w w' := by
  intro K
  induction K with
  | zero => exact fun _ _ _ _ _ _ _ h => absurd h (by omega)
  | succ K IH0 =>
    intro m x y w hv hx hy hK
    have IH := Hid2.mk IH0
    clear IH0
    have HT := Hid2.mk ht
    have HU := Hid2.mk hu
    clear ht hu
    have hz := zero_l2m
    have q1 := (((blk_new w (sqs (N : Int) t) 36 w.heap.size rfl).alloc (.cells (sqs (N : Int) u) 36)).alloc (.cells (pms m) 122)).alloc (.cells (pms ⟨fun _ => 0, fun _ => 0, 0⟩) 122)
    have q2 := ((blk_new (w.alloc (.cells (sqs (N : Int) t) 36)) (sqs (N : Int) u) 36 (w.heap.size + 1) (by simp)).alloc (.cells (pms m) 122)).alloc (.cells (pms ⟨fun _ => 0, fun _ => 0, 0⟩) 122)
    have q3 := (blk_new ((w.alloc (.cells (sqs (N : Int) t) 36)).alloc (.cells (sqs (N : Int) u) 36)) (pms m) 122 (w.heap.size + 1 + 1) (by simp)).alloc (.cells (pms ⟨fun _ => 0, fun _ => 0, 0⟩) 122)
    have q4 := blk_new (((w.alloc (.cells (sqs (N : Int) t) 36)).alloc (.cells (sqs (N : Int) u) 36)).alloc (.cells (pms m) 122)) (pms ⟨fun _ => 0, fun _ => 0, 0⟩) 122 (w.heap.size + 1 + 1 + 1) (by simp)
    have qB : Below w.heap.size w ((((w.alloc (.cells (sqs (N : Int) t) 36)).alloc (.cells (sqs (N : Int) u) 36)).alloc (.cells (pms m) 122)).alloc (.cells (pms ⟨fun _ => 0, fun _ => 0, 0⟩) 122)) := by
      repeat (first | exact Below.refl _ _ | (refine below_alloc ?_ _))
    have c1 := q3.cell _ _ (pms_to m (i := x) (by omega))
    have c2 := q3.cell _ _ (pms_used m (i := y) (by omega))
    have f1 := q3.free x
    by_cases hc : 0 ≤ m.to x ∨ 0 < m.used y
    · have hF : closeF N t u (K + 1) m x y = (m, decide (m.to x = y)) := by simp only [closeF]; rw [if_pos hc]
      rw [hF]
      clear IH hF
      by_cases hA : 0 ≤ m.to x
      · go_enter Tryd.func91, Tryd.ntmps91
        go_wp2
        clear hz
        apply wp_region_new1 7 _ (fun g w' => Below w.heap.size w w' ∧ blk w' (w.heap.size + 1 + 1) (pms m) 122 ∧ blk w' (w.heap.size + 1 + 1 + 1) (bif g.isEmpty then pms ⟨fun _ => 0, fun _ => 0, 0⟩ else pms m) 122) (by kernel_rfl) (by kernel_rfl) rfl rfl; (case hS => exact ⟨by exact qB.drew, q3.drew, q4.drew⟩); (case ht => simp only [List.take_succ_cons, List.take_zero]; repeat (first | exact wpTextG_nil | (apply wpTextG_cons; (intro g w2 hS; obtain ⟨hB2, d3, d4⟩ := hS; have k1 := d3.cell _ _ (pms_to m (i := x) (by omega)); go_wp2_with (first | (refine wpList_load_part rfl 122 _ rfl (w.heap.size + 1 + 1) (0) rfl (pms m) _ und_l2m rfl inf_l2m (cells_of_blk0 d3) ?_)); (first | exact ⟨rfl, rfl, hB2, d3, d4⟩)); rfl))); (case hA => intro w2 hS; obtain ⟨hB2, d3, d4⟩ := hS; refine yield_store (ops := #[]) (by exact rfl) (by exact rfl) ?_ ; go_wp2_with (first | (refine wpList_store_row rfl 122 _ _ rfl _ rfl _ rfl inf_l2m _ _ (d4) (by simp [pms_size]) (flat_pms _) ?_)) ; exact ⟨below_put hB2 (by omega) _ _, blk_put_other d3 (by omega), blk_put d4 _⟩)
        (intro v9 w2 hS; simp only [List.drop_succ_cons, List.drop_zero]; obtain ⟨hB2, d3, d4⟩ := hS)
        go_wp2
        refine bodyPost_ret (v := .tuple #[.agg (pms m), .bool (decide (m.to x = y))]) (by exact results_part2 rfl _ _ _ _ (pms m) _ rfl und_l2m rfl inf_l2m (cells_of_blk0 (d4)) _ rfl) rfl ?_
        exact ⟨by first | rfl | (congr 1), hB2⟩
      · have hc' : m.to x < 0 := by omega
        have hc2 : 0 < m.used y := by omega
        go_enter Tryd.func91, Tryd.ntmps91
        go_wp2
        clear hz
        apply wp_region_new1 7 _ (fun g w' => Below w.heap.size w w' ∧ blk w' (w.heap.size + 1 + 1) (pms m) 122 ∧ blk w' (w.heap.size + 1 + 1 + 1) (bif g.isEmpty then pms ⟨fun _ => 0, fun _ => 0, 0⟩ else pms m) 122) (by kernel_rfl) (by kernel_rfl) rfl rfl; (case hS => exact ⟨by exact qB.drew, q3.drew, q4.drew⟩); (case ht => simp only [List.take_succ_cons, List.take_zero]; repeat (first | exact wpTextG_nil | (apply wpTextG_cons; (intro g w2 hS; obtain ⟨hB2, d3, d4⟩ := hS; have k1 := d3.cell _ _ (pms_to m (i := x) (by omega)); go_wp2_with (first | (refine wpList_load_part rfl 122 _ rfl (w.heap.size + 1 + 1) (0) rfl (pms m) _ und_l2m rfl inf_l2m (cells_of_blk0 d3) ?_)); (first | exact ⟨rfl, rfl, hB2, d3, d4⟩)); rfl))); (case hA => intro w2 hS; obtain ⟨hB2, d3, d4⟩ := hS; refine yield_store (ops := #[]) (by exact rfl) (by exact rfl) ?_ ; go_wp2_with (first | (refine wpList_store_row rfl 122 _ _ rfl _ rfl _ rfl inf_l2m _ _ (d4) (by simp [pms_size]) (flat_pms _) ?_)) ; exact ⟨below_put hB2 (by omega) _ _, blk_put_other d3 (by omega), blk_put d4 _⟩)
        (intro v9 w2 hS; simp only [List.drop_succ_cons, List.drop_zero]; obtain ⟨hB2, d3, d4⟩ := hS)
        go_wp2
        refine bodyPost_ret (v := .tuple #[.agg (pms m), .bool (decide (m.to x = y))]) (by exact results_part2 rfl _ _ _ _ (pms m) _ rfl und_l2m rfl inf_l2m (cells_of_blk0 (d4)) _ rfl) rfl ?_
        exact ⟨by first | rfl | (congr 1), hB2⟩
    · have hx0 : m.to x < 0 := by omega
      have hy0 : ¬ 0 < m.used y := fun h => hc (.inr h)
      have hy1 : m.used y ≤ 0 := by omega
      have hF : closeF N t u (K + 1) m x y = closeL (closeF N t u K) t u x y N 0 (m.add x y) := by simp only [closeF]; rw [if_neg hc]
      rw [hF]
      clear hF hc
      have hva := hv.add hx hy hx0 hy0
      have hum : um (m.add x y).to N < K := by
        have := um_add (f := m.to) (x := x) (y := (y : Int)) hx0 (by omega) N
        rw [if_pos hx] at this
        show um (fun i => if i = x then (y : Int) else m.to i) N < K
        omega
      have hsz := hv.size
      have hul := um_le m.to N
      obtain ⟨sz, hsz1⟩ : ∃ sz : Nat, m.size = sz := ⟨N - um m.to N, by omega⟩
      have a1 : ((pms m).setIfInBounds x (.int .i64 (y : Int)))[10 + y]? = some (.int .i64 (m.used y)) := by rw [pms_set_to m _ (by omega), pms_used _ (by omega)]
      have a2 : (((pms m).setIfInBounds x (.int .i64 (y : Int))).setIfInBounds (10 + y) (.int .i64 1))[20]? = some (.int .i64 (sz : Int)) := by rw [pms_set_to m _ (by omega), pms_set_used _ _ (by omega), pms_sz, ← hsz1]
      have a3 : (((pms m).setIfInBounds x (.int .i64 (y : Int))).setIfInBounds (10 + y) (.int .i64 1)).setIfInBounds 20 (.int .i64 ((sz : Int) + 1)) = pms (m.add x y) := by rw [← hsz1]; exact pms_add m (by omega) (by omega)
      have a0 := pms_to m (i := x) (by omega)
      clear q1 q2 q3 q4 qB
--LOOP
      go_enter Tryd.func91, Tryd.ntmps91
      go_wp2
      clear a0 a1 a2 a3 c1 c2 f1
      go_loopw [12, 13, 14, 15, 16] (fun i _ _ _ _ wr => ∃ (a : Nat) (M : PM), a ≤ N ∧ i = .int .i64 (a : Int) ∧ Below w.heap.size w wr ∧ blk wr w.heap.size (sqs (N : Int) t) 36 ∧ blk wr (w.heap.size + 1) (sqs (N : Int) u) 36 ∧ blk wr (w.heap.size + 1 + 1) (pms M) 122 ∧ blk wr (w.heap.size + 1 + 1 + 1) (pms ⟨fun _ => 0, fun _ => 0, 0⟩) 122 ∧ Va N M ∧ um M.to N < K ∧
        closeL (closeF N t u K) t u x y (N - a) a M = closeL (closeF N t u K) t u x y N 0 (m.add x y)) (fun i _ _ _ _ _ => N - (intOf i).toNat)
      case atStart =>
        refine ⟨0, m.add x y, by omega, rfl, ?_, ?_, ?_, ?_, ?_, hva, hum, rfl⟩
        · repeat (first | exact Below.refl _ _ | (refine below_alloc ?_ _))
        all_goals (repeat (first | (refine blk_new _ _ _ _ ?_; (simp; done)) | apply blk.alloc))
      case round =>
        obtain ⟨a, M, ha, rfl, hB, b1, b2, b3, b4, vM, uM, hR⟩ := hrel
        clear hva hum hv hK hx0 hy1 hy0
        have c0 := b1.cell 0 _ (sqs_order (N : Int) t)
        by_cases hlt : a < N
        · have hlt' : (a : Int) < (N : Int) := by omega
          rw [show N - a = (N - (a + 1)) + 1 by omega] at hR
          simp only [closeL] at hR
          have c1 := b3.cell _ _ (pms_to M (i := a) (by omega))
          by_cases hma : M.to a < 0
          · rw [if_pos hma] at hR
            go_wp2
            go_roundw
            case rel => exact ⟨a + 1, M, by omega, by go_num, hB, b1, b2, b3, b4, vM, uM, hR⟩
            case measure => simp [intOf]; omega
          · rw [if_neg hma] at hR
            obtain ⟨v, hv⟩ : ∃ v : Nat, M.to a = v := ⟨(M.to a).toNat, by omega⟩
            have hvN : v < N := by have := vM.lt a hlt; omega
            rw [hv] at c1 hR
            have hma0 : ¬ ((v : Int) < 0) := by omega
            simp only [Int.toNat_natCast] at hR
            have hxa := HT.out x a hx hlt
            have hax := HT.out a x hlt hx
            have hyv := HU.out y v hy hvN
            have hvy := HU.out v y hvN hy
            have hC1 := closeF_closes HT.out HU.out K M (t x a) (u y v) vM hxa hyv uM
            have hI1 := IH.out M (t x a) (u y v)
            generalize hR1 : closeF N t u K M (t x a) (u y v) = R1 at hR hC1 hI1
            go_wp2
            apply wp_region_new2 24 _ _ (fun g w' => Below w.heap.size w w' ∧ blk w' w.heap.size (sqs (N : Int) t) 36 ∧ blk w' (w.heap.size + 1) (sqs (N : Int) u) 36 ∧ blk w' (w.heap.size + 1 + 1) (pms M) 122 ∧ blk w' (w.heap.size + 1 + 1 + 1) (pms ⟨fun _ => 0, fun _ => 0, 0⟩) 122 ∧ Got g w' (w.heap.size + 1 + 1 + 1 + 1) (bif g.tail.isEmpty then pms ⟨fun _ => 0, fun _ => 0, 0⟩ else pms R1.1) 122) (by kernel_rfl) (by kernel_rfl) rfl rfl rfl rfl; (case hS => exact ⟨hB.drew, b1.drew, b2.drew, b3.drew, b4.drew, Got.none _ _ _ _⟩); (case ht => simp only [List.take_succ_cons, List.take_zero]; repeat (first | exact wpTextG_nil | (apply wpTextG_cons; (intro g w2 hS; obtain ⟨hB5, e1, e2, e3, e4, e5⟩ := hS; have k1 := e1.cell _ _ (sqs_get (n := (N : Int)) (t := t) (x := x) (y := a) (by omega) (by omega)) ; have k2 := e2.cell _ _ (sqs_get (n := (N : Int)) (t := u) (x := y) (y := v) (by omega) (by omega)) ; have k3 := (e3.cell _ _ (pms_to M (i := a) (by omega))).trans (by rw [hv]); go_wp2_with (first | (refine wpList_load_part rfl 36 _ rfl (w.heap.size) (0) rfl (sqs (N : Int) t) _ und_sqs rfl inf_sqs (cells_of_blk0 e1) ?_) | (refine wpList_load_part rfl 36 _ rfl (w.heap.size + 1) (0) rfl (sqs (N : Int) u) _ und_sqs rfl inf_sqs (cells_of_blk0 e2) ?_) | (refine wpList_load_part rfl 122 _ rfl (w.heap.size + 1 + 1) (0) rfl (pms M) _ und_l2m rfl inf_l2m (cells_of_blk0 e3) ?_) | (go_at_call 91; ((with_reducible refine (hI1 _ vM hxa hyv uM).mono ?_); rintro e w3 ⟨rfl, hb⟩))); (first | exact ⟨rfl, rfl, hB5, e1, e2, e3, e4, e5⟩ | exact ⟨rfl, rfl, below_self hB5 hb, e1.later hb, e2.later hb, e3.later hb, e4.later hb, e5.later hb⟩)); rfl))); (case hA => intro w2 hS; obtain ⟨hB5, e1, e2, e3, e4, e5⟩ := hS; have hl4 := e4.lt ; exact yield_alloc (by exact rfl) zero_l2m ⟨below_alloc hB5 _, e1.alloc _, e2.alloc _, e3.alloc _, e4.alloc _, Got.new _ _ (by omega)⟩); (case hA2 => intro v9 w2 hS; obtain ⟨hB5, e1, e2, e3, e4, e5⟩ := hS; obtain ⟨b9, rfl, hb, e7⟩ := e5 v9 [] rfl ; refine yield_store (ops := #[]) (by exact rfl) (by exact rfl) ?_ ; go_wp2_with (first | (refine wpList_store_row rfl 122 _ _ rfl _ rfl _ rfl inf_l2m _ _ (e7) (by simp [pms_size]) (flat_pms _) ?_)) ; exact ⟨below_put hB5 (by omega) _ _, blk_put_other e1 (by omega), blk_put_other e2 (by omega), blk_put_other e3 (by omega), blk_put_other e4 (by omega), Got.made hb (blk_put e7 _) _⟩)
            (intro v9 u9 w2 hS; simp only [List.drop_succ_cons, List.drop_zero]; obtain ⟨hB4, d1, d2, d3, d4, d5⟩ := hS)
            obtain ⟨b, rfl, hb, d6⟩ := d5 _ _ rfl
            have d7 : blk w2 b (pms R1.1) 122 := d6
            clear d5 d6 b1 b2 b3 b4 hB c0 c1
            cases h1 : R1.2 with
            | false =>
              rw [if_pos h1] at hR
              go_wp2_with (first | (refine wpList_load_part rfl 122 _ rfl (b) (0) rfl (pms R1.1) _ und_l2m rfl inf_l2m (cells_of_blk0 d7) ?_) | (refine wpList_store_row rfl 122 _ _ rfl _ rfl _ rfl inf_l2m _ _ (d4) (by simp [pms_size]) (flat_pms _) ?_))
              refine bodyPost_ret (v := .tuple #[.agg (pms R1.1), .bool false]) (by exact results_part2 rfl _ _ _ _ (pms R1.1) _ rfl und_l2m rfl inf_l2m (cells_of_blk0 (blk_put d4 _)) _ rfl) rfl ?_
              rw [← hR]
              exact ⟨by first | rfl | exact ret_two rfl rfl, below_put hB4 (by omega) _ _⟩
            | true =>
              rw [if_neg (by rw [h1]; simp)] at hR
              have hv1 := hC1.va h1
              have hu1 : um R1.1.to N < K := Nat.lt_of_le_of_lt (um_mono N fun z hz h => by rw [hC1.sub h1 z hz h]; exact h) uM
              have hC2 := closeF_closes HT.out HU.out K R1.1 (t a x) (u v y) hv1 hax hvy hu1
              have hI2 := IH.out R1.1 (t a x) (u v y)
              generalize hR2 : closeF N t u K R1.1 (t a x) (u v y) = R2 at hR hC2 hI2
              go_wp2
              apply wp_region_new2 24 _ _ (fun g w' => Below w.heap.size w w' ∧ blk w' w.heap.size (sqs (N : Int) t) 36 ∧ blk w' (w.heap.size + 1) (sqs (N : Int) u) 36 ∧ blk w' (w.heap.size + 1 + 1) (pms M) 122 ∧ blk w' (w.heap.size + 1 + 1 + 1) (pms ⟨fun _ => 0, fun _ => 0, 0⟩) 122 ∧ blk w' b (pms R1.1) 122 ∧ Got g w' (b + 1) (bif g.tail.isEmpty then pms ⟨fun _ => 0, fun _ => 0, 0⟩ else pms R2.1) 122) (by kernel_rfl) (by kernel_rfl) rfl rfl rfl rfl; (case hS => exact ⟨hB4.drew, d1.drew, d2.drew, d3.drew, d4.drew, d7.drew, Got.none _ _ _ _⟩); (case ht => simp only [List.take_succ_cons, List.take_zero]; repeat (first | exact wpTextG_nil | (apply wpTextG_cons; (intro g w2 hS; obtain ⟨hB5, e1, e2, e3, e4, e6, e5⟩ := hS; have k1 := e1.cell _ _ (sqs_get (n := (N : Int)) (t := t) (x := a) (y := x) (by omega) (by omega)) ; have k2 := e2.cell _ _ (sqs_get (n := (N : Int)) (t := u) (x := v) (y := y) (by omega) (by omega)) ; have k3 := (e3.cell _ _ (pms_to M (i := a) (by omega))).trans (by rw [hv]); go_wp2_with (first | (refine wpList_load_part rfl 36 _ rfl (w.heap.size) (0) rfl (sqs (N : Int) t) _ und_sqs rfl inf_sqs (cells_of_blk0 e1) ?_) | (refine wpList_load_part rfl 36 _ rfl (w.heap.size + 1) (0) rfl (sqs (N : Int) u) _ und_sqs rfl inf_sqs (cells_of_blk0 e2) ?_) | (refine wpList_load_part rfl 122 _ rfl (b) (0) rfl (pms R1.1) _ und_l2m rfl inf_l2m (cells_of_blk0 e6) ?_) | (go_at_call 91; ((with_reducible refine (hI2 _ hv1 hax hvy hu1).mono ?_); rintro e w3 ⟨rfl, hb⟩))); (first | exact ⟨rfl, rfl, hB5, e1, e2, e3, e4, e6, e5⟩ | exact ⟨rfl, rfl, below_self hB5 hb, e1.later hb, e2.later hb, e3.later hb, e4.later hb, e6.later hb, e5.later hb⟩)); rfl))); (case hA => intro w2 hS; obtain ⟨hB5, e1, e2, e3, e4, e6, e5⟩ := hS; have hl4 := e6.lt ; exact yield_alloc (by exact rfl) zero_l2m ⟨below_alloc hB5 _, e1.alloc _, e2.alloc _, e3.alloc _, e4.alloc _, e6.alloc _, Got.new _ _ (by omega)⟩); (case hA2 => intro v9 w2 hS; obtain ⟨hB5, e1, e2, e3, e4, e6, e5⟩ := hS; obtain ⟨b9, rfl, hb, e7⟩ := e5 v9 [] rfl ; refine yield_store (ops := #[]) (by exact rfl) (by exact rfl) ?_ ; go_wp2_with (first | (refine wpList_store_row rfl 122 _ _ rfl _ rfl _ rfl inf_l2m _ _ (e7) (by simp [pms_size]) (flat_pms _) ?_)) ; exact ⟨below_put hB5 (by omega) _ _, blk_put_other e1 (by omega), blk_put_other e2 (by omega), blk_put_other e3 (by omega), blk_put_other e4 (by omega), blk_put_other e6 (by omega), Got.made hb (blk_put e7 _) _⟩)
              (intro v9 u9 w2 hS; simp only [List.drop_succ_cons, List.drop_zero]; obtain ⟨hB6, d1, d2, d3, d4, d5, d6⟩ := hS)
              obtain ⟨b9, rfl, hb9, d8⟩ := d6 _ _ rfl
              have d9 : blk w2 b9 (pms R2.1) 122 := d8
              clear d6 d8 d7
              cases h2 : R2.2 with
              | false =>
                rw [if_pos h2] at hR
                go_wp2_with (first | (refine wpList_load_part rfl 122 _ rfl (b9) (0) rfl (pms R2.1) _ und_l2m rfl inf_l2m (cells_of_blk0 d9) ?_) | (refine wpList_store_row rfl 122 _ _ rfl _ rfl _ rfl inf_l2m _ _ (d4) (by simp [pms_size]) (flat_pms _) ?_))
                refine bodyPost_ret (v := .tuple #[.agg (pms R2.1), .bool false]) (by exact results_part2 rfl _ _ _ _ (pms R2.1) _ rfl und_l2m rfl inf_l2m (cells_of_blk0 (blk_put d4 _)) _ rfl) rfl ?_
                rw [← hR]
                exact ⟨by first | rfl | exact ret_two rfl rfl, below_put hB6 (by omega) _ _⟩
              | true =>
                rw [if_neg (by rw [h2]; simp)] at hR
                have hv2 := hC2.va h2
                have hu2 : um R2.1.to N < K := Nat.lt_of_le_of_lt (um_mono N fun z hz h => by rw [hC2.sub h2 z hz h]; exact h) hu1
                go_wp2_with (first | (refine wpList_load_part rfl 122 _ rfl (b9) (0) rfl (pms R2.1) _ und_l2m rfl inf_l2m (cells_of_blk0 d9) ?_) | (refine wpList_store_row rfl 122 _ _ rfl _ rfl _ rfl inf_l2m _ _ (d3) (by simp [pms_size]) (flat_pms _) ?_))
                go_roundw
                case rel => exact ⟨a + 1, R2.1, by omega, by go_num, below_put hB6 (by omega) _ _, blk_put_other d1 (by omega), blk_put_other d2 (by omega), blk_put d3 _, blk_put_other d4 (by omega), hv2, hu2, hR⟩
                case measure => simp [intOf]; omega
        · have haN : a = N := by omega
          subst haN
          rw [Nat.sub_self] at hR
          simp only [closeL] at hR
          have hge : ¬ ((a : Int) < (a : Int)) := by omega
          go_wp2_with (first | (refine wpList_load_part rfl 122 _ rfl (w.heap.size + 1 + 1) (0) rfl (pms M) _ und_l2m rfl inf_l2m (cells_of_blk0 b3) ?_) | (refine wpList_store_row rfl 122 _ _ rfl _ rfl _ rfl inf_l2m _ _ (b4) (by simp [pms_size]) (flat_pms _) ?_))
          refine bodyPost_ret (v := .tuple #[.agg (pms M), .bool true]) (by exact results_part2 rfl _ _ _ _ (pms M) _ rfl und_l2m rfl inf_l2m (cells_of_blk0 (blk_put b4 _)) _ rfl) rfl ?_
          rw [← hR]
          exact ⟨by first | rfl | exact ret_two rfl rfl, below_put hB (by omega) _ _⟩
end Go.Proofs.YtinjjaoikofkdaaDoor

/- The part that has nothing, and the places of a part: contracts. -/
namespace Go.Proofs.YtinjjaoikofkdaaDoor
set_option linter.unusedSimpArgs false
set_option linter.unusedVariables false
open Go Go.RowKit

/-- The part that has nothing. -/
def PM.zero : PM := ⟨fun _ => -1, fun _ => 0, 0⟩
theorem pms_ext {m m' : PM} (h1 : ∀ i, i < 10 → m.to i = m'.to i) (h2 : ∀ i, i < 10 → m.used i = m'.used i) (h3 : m.size = m'.size) : pms m = pms m' :=
  tab_ext fun i _ => by
    by_cases h : i < 10
    · rw [if_pos h, if_pos h, h1 i h]
    · rw [if_neg h, if_neg h]
      by_cases h' : i < 20
      · rw [if_pos h', if_pos h', h2 _ (by omega)]
      · rw [if_neg h', if_neg h', h3]
theorem start_step (k : Nat) (hk : k < 10) : (pms ⟨fun i => if i < k then -1 else 0, fun _ => 0, 0⟩).setIfInBounds k (.int .i64 (-1)) = pms ⟨fun i => if i < k + 1 then -1 else 0, fun _ => 0, 0⟩ := by
  rw [pms_set_to _ _ hk]
  refine pms_ext (fun i _ => ?_) (fun _ _ => rfl) rfl
  dsimp only
  by_cases h : i = k
  · subst h; rw [if_pos rfl, if_pos (by omega)]
  · rw [if_neg h]
    by_cases h' : i < k
    · rw [if_pos h', if_pos (by omega)]
    · rw [if_neg h', if_neg (by omega)]
/-- The places of a part. -/
def plTo (m : PM) (n : Nat) (i : Nat) : Nat := if i < n then (m.to i).toNat else 0
theorem plTo_set (m : PM) (k : Nat) : (bys (plTo m k)).setIfInBounds k (.int .u8 ((m.to k).toNat : Int)) = bys (plTo m (k + 1)) := by
  rw [bys_set]
  refine bys_ext fun i _ => ?_
  unfold plTo
  by_cases h : i = k
  · subst h; rw [if_pos rfl, if_pos (by omega)]
  · rw [if_neg h]
    by_cases h' : i < k
    · rw [if_pos h', if_pos (by omega)]
    · rw [if_neg h', if_neg (by omega)]

set_option maxRecDepth 100000 in
set_option maxHeartbeats 1000000 in
theorem l02Start_any (w : World) : Calls Tryd.prog 89 #[] w fun e w' => e = .returned (.agg (pms PM.zero)) ∧ Below w.heap.size w w' := by
  have hz := zero_l2m
  have hbd := build_l2m
  go_enter Tryd.func89, Tryd.ntmps89
  go_wp2_with (first | (refine wpList_store_row rfl 122 _ _ rfl _ rfl _ rfl inf_l2m _ _ (blk_new _ _ _ _ (by simp)) (by simp [pms_size]) (flat_pms _) ?_))
  clear hz hbd
  go_loopw [2] (fun i wr => ∃ k : Nat, k ≤ 10 ∧ i = .int .i64 k ∧ Below w.heap.size w wr ∧ blk wr w.heap.size (pms ⟨fun _ => 0, fun _ => 0, 0⟩) 122 ∧ blk wr (w.heap.size + 1) (pms ⟨fun i => if i < k then -1 else 0, fun _ => 0, 0⟩) 122) (fun i _ => (10 - intOf i).toNat)
  case atStart => exact ⟨0, by omega, rfl, below_put (((Below.refl _ _).alloc (by simp) _).alloc (by simp) _) (by omega) _ _, blk_put_other (by repeat (first | (refine blk_new _ _ _ _ ?_; (simp; done)) | apply blk.alloc)) (by omega), (blk_put (blk_new _ _ _ _ (by simp)) _).eq (pms_ext (fun i _ => by simp) (fun _ _ => rfl) rfl)⟩
  case round =>
    obtain ⟨k, hk, rfl, hB, b0, b1⟩ := hrel
    by_cases hlt : k < 10
    · have hlt' : (k : Int) < 10 := by omega
      have fo := b1.free k
      have co := b1.cell k _ (pms_to _ hlt)
      go_wp2
      go_roundw
      case rel => exact ⟨k + 1, by omega, by go_num, hB.setCell (by first | (simp; done) | (simp; omega)) _, b0.other _ _ (by omega), (b1.set _ _).eq (start_step k hlt)⟩
      case measure => simp [intOf]; omega
    · obtain rfl : k = 10 := by omega
      have b2 := b1.eq (cs' := pms PM.zero) (pms_ext (fun i hi => by simp [PM.zero, hi]) (fun _ _ => rfl) rfl)
      go_wp2_with (first | (refine wpList_load_part rfl 122 _ rfl _ _ rfl (pms PM.zero) _ und_l2m rfl inf_l2m (cells_of_blk0 b2) ?_) | (refine wpList_store_row rfl 122 _ _ rfl _ rfl _ rfl inf_l2m _ _ (b0) (by simp [pms_size]) (flat_pms _) ?_))
      refine bodyPost_ret (v := .agg (pms PM.zero)) (by exact results_part rfl _ _ _ _ _ _ rfl und_l2m rfl inf_l2m (cells_of_blk0 (blk_put b0 _))) rfl ?_
      exact ⟨rfl, below_put hB (by omega) _ _⟩

set_option maxRecDepth 100000 in
set_option maxHeartbeats 1000000 in
theorem l02Places_any (N : Nat) (m : PM) (w : World) (h1 : N ≤ 10) (hm : ∀ i, i < N → 0 ≤ m.to i ∧ m.to i < 10) :
    Calls Tryd.prog 90 #[.agg (pms m), .int .i64 (N : Int)] w fun e w' => e = .returned (.agg (bys (plTo m N))) ∧ Below w.heap.size w w' := by
  have hz := zero_plc
  have hbd := build_plc
  go_enter Tryd.func90, Tryd.ntmps90
  go_wp2_with (first | (refine wpList_store_row rfl 52 _ _ rfl _ rfl _ rfl inf_plc _ _ (blk_new _ _ _ _ (by simp)) (by simp [bys_size]) (flat_bys _) ?_))
  clear hz hbd
  go_loopw [6] (fun i wr => ∃ k : Nat, k ≤ N ∧ i = .int .i64 k ∧ Below w.heap.size w wr ∧ blk wr w.heap.size (pms m) 122 ∧ blk wr (w.heap.size + 1) (bys fun _ => 0) 52 ∧ blk wr (w.heap.size + 1 + 1) (bys (plTo m k)) 52) (fun i _ => ((N : Int) - intOf i).toNat)
  case atStart => exact ⟨0, by omega, rfl, below_put ((((Below.refl _ _).alloc (by simp) _).alloc (by simp) _).alloc (by simp; omega) _) (by omega) _ _, blk_put_other (by repeat (first | (refine blk_new _ _ _ _ ?_; (simp; done)) | apply blk.alloc)) (by omega), blk_put_other (by repeat (first | (refine blk_new _ _ _ _ ?_; (simp; done)) | apply blk.alloc)) (by omega), (blk_put (blk_new _ _ _ _ (by simp)) _).eq (bys_ext fun i hi => by simp [plTo])⟩
  case round =>
    obtain ⟨k, hk, rfl, hB, b0, br, bo⟩ := hrel
    by_cases hlt : k < N
    · have hlt' : (k : Int) < (N : Int) := by omega
      obtain ⟨v, hv⟩ : ∃ v : Nat, m.to k = v := ⟨(m.to k).toNat, by have := hm k hlt; omega⟩
      have hv10 : v < 10 := by have := hm k hlt; omega
      have c0 := (b0.cell k _ (pms_to m (by omega))).trans (by rw [hv])
      have fo := bo.free k
      have co := bo.cell k _ (bys_get (by omega))
      go_wp2
      go_roundw
      case rel => exact ⟨k + 1, by omega, by go_num, hB.setCell (by first | (simp; done) | (simp; omega)) _, b0.other _ _ (by omega), br.other _ _ (by omega), (bo.set _ _).eq (by have := plTo_set m k; rw [hv] at this; exact this)⟩
      case measure => simp [intOf]; omega
    · obtain rfl : k = N := by omega
      have hge : ¬ ((k : Int) < (k : Int)) := by omega
      go_wp2_with (first | (refine wpList_load_part rfl 52 _ rfl _ _ rfl (bys (plTo m k)) _ und_plc rfl inf_plc (cells_of_blk0 bo) ?_) | (refine wpList_store_row rfl 52 _ _ rfl _ rfl _ rfl inf_plc _ _ (br) (by simp [bys_size]) (flat_bys _) ?_))
      refine bodyPost_ret (v := .agg (bys (plTo m k))) (by exact results_part rfl _ _ _ _ _ _ rfl und_plc rfl inf_plc (cells_of_blk0 (blk_put br _))) rfl ?_
      exact ⟨rfl, below_put hB (by omega) _ _⟩
end Go.Proofs.YtinjjaoikofkdaaDoor

/- The reference's search for isomorphisms: a contract. -/
namespace Go.Proofs.YtinjjaoikofkdaaDoor
set_option linter.unusedSimpArgs false
set_option linter.unusedVariables false
open Go Go.RowKit

theorem und_slp : Tryd.prog.underlying 107 = some (.slice 52) := by kernel_rfl
theorem inf_elp : (Tryd.prog.info? 52).map (fun i => (i.zero, i.size, i.bytes)) = some (some (.agg (bys fun _ => 0)), 10, 10) := by kernel_rfl

theorem bsl_plc (f : Nat → Nat) (w : World) : (Instr.buildSlice 107 1 [(0, Value.agg (bys f))].toArray).run Tryd.prog w = .ok (.slice (some ⟨w.heap.size, 0, none⟩) 1 1) (w.alloc (.cells (bys f) 52)) := by kernel_rfl
/-- The cells of a list of words. -/
def plCells (l : List (List Nat)) : List Value := l.flatMap fun p => (bys fun i => p.getD i 0).toList
theorem plCells_snoc (l : List (List Nat)) (p : List Nat) : plCells (l ++ [p]) = plCells l ++ (bys fun i => p.getD i 0).toList := by simp [plCells]
theorem bys_word {N : Nat} (m : PM) (h : N ≤ 10) : bys (fun i => (wordOf N m.abs).getD i 0) = bys (plTo m N) := by
  refine bys_ext fun i _ => ?_
  unfold plTo
  by_cases hi : i < N
  · rw [if_pos hi]
    simp only [wordOf, List.getD_eq_getElem?_getD, List.getElem?_map, List.getElem?_range hi, Option.map_some, Option.getD_some]
    unfold PM.abs
    split
    · rename_i h; simp; omega
    · rfl
  · rw [if_neg hi]
    simp [wordOf, List.getD_eq_getElem?_getD, hi]

theorem own_later {w w' : World} {base e size n : Nat} {v : Value} {xs : List Value} (h : w.ownsRow base e size v n xs) (hb : Below w.heap.size w w') : w'.ownsRow base e size v n xs :=
  h.kept (row := none) ⟨hb.os, hb.tape, hb.output, hb.size, fun k hk _ => hb.block k hk⟩ (by cases v.ownBlock <;> simp)
theorem flat_prefix {α : Type} (f : Nat → List α) {y N : Nat} (h : y ≤ N) : ∃ B, (List.range N).flatMap f = (List.range y).flatMap f ++ B := by
  induction N with
  | zero => exact ⟨[], by rw [show y = 0 by omega]; simp⟩
  | succ N ih =>
    by_cases e : y = N + 1
    · exact ⟨[], by rw [e]; simp⟩
    · obtain ⟨B, hB⟩ := ih (by omega)
      exact ⟨B ++ f N, by rw [List.range_succ, List.flatMap_append, hB, List.flatMap_singleton, List.append_assoc]⟩
theorem grown_put (w : World) (b : Nat) (cs : Array Value) (t : Nat) : w.grownBy (World.put w b cs t) (some b) :=
  ⟨rfl, rfl, rfl, by simp [World.put], fun k _ hk => by simp only [World.put]; rw [Array.getElem?_setIfInBounds, if_neg (fun e => hk (by rw [e]))]⟩
theorem own_put {w : World} {base e size n b : Nat} {v : Value} {xs : List Value} (h : w.ownsRow base e size v n xs) (cs : Array Value) (t : Nat) (hb : v.ownBlock ≠ some b) : (World.put w b cs t).ownsRow base e size v n xs :=
  h.kept (grown_put w b cs t) (.inr hb)
theorem new_put (w : World) (cs cs' : Array Value) (t : Nat) (row : Option Nat) : w.grownBy (World.put (w.alloc (.cells cs t)) w.heap.size cs' t) row :=
  ⟨rfl, rfl, rfl, by simp [World.put], fun k hk _ => by
    have e : (w.alloc (.cells cs t)).heap[k]? = w.heap[k]? := by show (w.heap.push _)[k]? = _; rw [Array.getElem?_push, if_neg (by omega)]
    simp only [World.put]; rw [Array.getElem?_setIfInBounds, if_neg (by omega), e]⟩
theorem put_lt (w : World) (cs cs' : Array Value) (t b : Nat) : w.heap.size < (World.put (w.alloc (.cells cs t)) b cs' t).heap.size := by simp [World.put]
/-- The block of a list: the one that it had, or a new one. -/
def FarOr (v' v : Value) (lo : Nat) : Prop := v'.ownBlock = v.ownBlock ∨ ∃ g, v'.ownBlock = some g ∧ lo ≤ g
theorem FarOr.refl (v : Value) (lo : Nat) : FarOr v v lo := .inl rfl
theorem FarOr.ne {v' v : Value} {w : World} {lo b base e size n : Nat} {xs : List Value} (h : FarOr v' v lo) (hv : w.ownsRow base e size v n xs) (hb : w.heap.size ≤ b) (hl : b < lo) : v'.ownBlock ≠ some b := fun e => by
  rcases h with h | ⟨g, h, h2⟩
  · rw [h] at e; have := (hv.lt b e).2; omega
  · rw [h] at e; cases e; omega
theorem FarOr.trans {v'' v' v : Value} {lo lo' : Nat} (h : FarOr v'' v' lo') (k : FarOr v' v lo) (hl : lo ≤ lo') : FarOr v'' v lo := by
  rcases h with h | ⟨g, h, h2⟩
  · rcases k with k | ⟨g, k, k2⟩
    · exact .inl (h.trans k)
    · exact .inr ⟨g, h.trans k, k2⟩
  · exact .inr ⟨g, h, by omega⟩
theorem FarOr.mono {v' v : Value} {lo lo' : Nat} (h : FarOr v' v lo') (hl : lo ≤ lo') : FarOr v' v lo := h.trans (.refl _ _) hl
theorem grown_then {a b c : World} {v v' : Value} {lo : Nat} (h : a.grownBy b v.ownBlock) (k : b.grownBy c v'.ownBlock) (hf : FarOr v' v lo) (hl : a.heap.size ≤ lo) : a.grownBy c v.ownBlock :=
  h.andThen k fun j hj => by
    rcases hf with hf | ⟨g, hf, h2⟩
    · exact .inr (by rw [← hf]; exact hj)
    · rw [hf] at hj; cases hj; exact .inl (by omega)

/-- What the search gives: a list that has been made longer. -/
def Longer (base : Nat) (l : List (List Nat)) (v : Value) (w : World) (e : Ending) (w' : World) : Prop :=
  ∃ v', e = .returned v' ∧ w'.ownsRow base 52 10 v' l.length (plCells l) ∧ w.grownBy w' v.ownBlock ∧ FarOr v' v w.heap.size

set_option maxRecDepth 100000 in
set_option maxHeartbeats 2000000 in
theorem l02Maps_any (N : Nat) (t u : Nat → Nat → Nat) (most base : Nat) (h0 : 1 ≤ N) (h1 : N ≤ 10) (ht : ∀ x y : Nat, x < N → y < N → t x y < N) (hu : ∀ x y : Nat, x < N → y < N → u x y < N) (hmost : most ≤ 1000000) :
    ∀ (K : Nat) (m : PM) (list : List (List Nat)) (v : Value) (w : World), Va N m → Cl N t u m → um m.to N < K → list.length < most → base ≤ w.heap.size → w.ownsRow base 52 10 v list.length (plCells list) →
    Calls Tryd.prog 88 #[.agg (sqs (N : Int) t), .agg (sqs (N : Int) u), .agg (pms m), .int .i64 (most : Int), v] w (Longer base ((list ++ isos N t u m.abs).take most) v w) := by
  intro K
  induction K with
  | zero => exact fun _ _ _ _ _ _ h => absurd h (by omega)
  | succ K IH0 =>
    intro m list v w hv hcl hK hlen hbase hown
    have IH := Hid2.mk IH0
    clear IH0
    have HT := Hid2.mk ht
    have HU := Hid2.mk hu
    clear ht hu
    have q1 := ((blk_new w (sqs (N : Int) t) 36 w.heap.size rfl).alloc (.cells (sqs (N : Int) u) 36)).alloc (.cells (pms m) 122)
    have q2 := (blk_new (w.alloc (.cells (sqs (N : Int) t) 36)) (sqs (N : Int) u) 36 (w.heap.size + 1) (by simp)).alloc (.cells (pms m) 122)
    have q3 := blk_new ((w.alloc (.cells (sqs (N : Int) t) 36)).alloc (.cells (sqs (N : Int) u) 36)) (pms m) 122 (w.heap.size + 1 + 1) (by simp)
    have qB : Below w.heap.size w (((w.alloc (.cells (sqs (N : Int) t) 36)).alloc (.cells (sqs (N : Int) u) 36)).alloc (.cells (pms m) 122)) := by
      repeat (first | exact Below.refl _ _ | (refine below_alloc ?_ _))
    have qO := ((hown.alloc (.cells (sqs (N : Int) t) 36)).alloc (.cells (sqs (N : Int) u) 36)).alloc (.cells (pms m) 122)
    have hsz := hv.size
    have hul := um_le m.to N
    have c0 := q1.cell 0 _ (sqs_order (N : Int) t)
    have c1 := q3.cell _ _ (pms_sz m)
    by_cases hfull : um m.to N = 0
    · have hs : m.size = (N : Int) := by omega
      rw [hs] at c1
      have hall := um_zero hfull
      have hpl : ∀ i, i < N → 0 ≤ m.to i ∧ m.to i < 10 := fun i hi => ⟨hall i hi, by have := hv.lt i hi; omega⟩
      have hI := isos_full HT.out hv hcl hfull
      go_enter Tryd.func88, Tryd.ntmps88
      have hcc := cells_of_blk0 q3
      have hcw := fun w1 => l02Places_any N m w1 h1 hpl
      go_wp2_with (first | (refine wpList_load_part rfl 122 _ rfl (w.heap.size + 1 + 1) (0) rfl (pms m) _ und_l2m rfl inf_l2m (hcc) ?_) | (go_at_call 90; ((with_reducible refine (hcw _).mono ?_); rintro e w1 ⟨rfl, hb⟩; have qO1 := own_later qO hb; have hs1 := hb.size; have hs2 := q3.lt)) | (refine wpList_bsl rfl 107 1 [(0, _)] rfl [(0, .agg (bys (plTo m N)))] rfl _ _ (bsl_plc _ _) ?_) | (refine wpList_app1 rfl _ _ 107 rfl base 52 (.agg (bys fun _ => 0)) 10 10 und_slp inf_elp rfl (by decide) (by decide) _ _ _ rfl (qO1.alloc _) _ rfl _ (blk_new _ _ _ _ rfl) rfl (flat_bys _) (by omega) (by simp; omega) ?_; intro v2 w2 hown2 hg2 hat2))
      go_ret
      have hl : (list ++ [wordOf N m.abs]).take most = list ++ [wordOf N m.abs] := List.take_of_length_le (by simp; omega)
      refine ⟨v2, rfl, ?_, (grown_below qB _).trans ((grown_below hb _).trans ((World.grownBy_alloc _ _ _).trans hg2)), ?_⟩
      · rw [hl, plCells_snoc, bys_word m h1]; simpa using hown2
      · rcases hat2 with h | h
        · exact .inl h
        · exact .inr ⟨_, h, by simp; omega⟩
    · have hz := zero_l2m
      have hs : m.size ≠ (N : Int) := by omega
      obtain ⟨sz, hsz1⟩ : ∃ sz : Nat, m.size = sz := ⟨N - um m.to N, by omega⟩
      have hsN : ¬ ((sz : Int) = (N : Int)) := by omega
      rw [hsz1] at c1
      obtain ⟨x, hx, hx0, hxm⟩ := um_pos hfull
      have HV := Hid2.mk (own_form hown)
      have hI := isos_first (t := t) (u := u) hx hxm hx0
      have hgw := grown_below qB v.ownBlock
      have hlt3 := q3.lt
      have hbs : w.heap.size ≤ ((((w.alloc (.cells (sqs (N : Int) t) 36)).alloc (.cells (sqs (N : Int) u) 36)).alloc (.cells (pms m) 122))).heap.size := by simp; omega
      go_enter Tryd.func88, Tryd.ntmps88
      go_wp2
      go_loopw [11] (fun i wr => ∃ k : Nat, k ≤ x ∧ i = .int .i64 (k : Int) ∧ w.grownBy wr v.ownBlock ∧ w.heap.size + 1 + 1 < wr.heap.size ∧ blk wr w.heap.size (sqs (N : Int) t) 36 ∧ blk wr (w.heap.size + 1) (sqs (N : Int) u) 36 ∧ blk wr (w.heap.size + 1 + 1) (pms m) 122 ∧ wr.ownsRow base 52 10 v list.length (plCells list)) (fun i _ => x - (intOf i).toNat)
      case atStart => exact ⟨0, by omega, rfl, hgw, hlt3, q1, q2, q3, qO⟩
      case round =>
        obtain ⟨k, hk, rfl, hg, hlt, b1, b2, b3, bO⟩ := hrel
        clear hgw hlt3 q1 q2 q3 qO c0 c1
        have c1 := b3.cell _ _ (pms_to m (i := k) (by omega))
        by_cases hkx : k < x
        · have hk0 := hxm k hkx
          go_wp2
          go_roundw
          case rel => exact ⟨k + 1, by omega, by go_num, hg, hlt, b1, b2, b3, bO⟩
          case measure => simp [intOf]; omega
        · obtain rfl : k = x := by omega
          have hk0 : ¬ (0 ≤ m.to k) := by omega
          go_wp2
          go_loopw [4, 12, 13, 14] (fun vl i _ _ wr => ∃ (y : Nat) (list' : List (List Nat)) (pp : Option Addr) (cap : Nat), y ≤ N ∧ i = .int .i64 (y : Int) ∧ vl = .slice pp list'.length cap ∧ w.grownBy wr v.ownBlock ∧ w.heap.size + 1 + 1 < wr.heap.size ∧ blk wr w.heap.size (sqs (N : Int) t) 36 ∧ blk wr (w.heap.size + 1) (sqs (N : Int) u) 36 ∧ blk wr (w.heap.size + 1 + 1) (pms m) 122 ∧ wr.ownsRow base 52 10 vl list'.length (plCells list') ∧ FarOr vl v (w.heap.size + 1 + 1 + 1) ∧ list' = (list ++ (List.range y).flatMap fun y => isos N t u (upd m.abs k y)).take most) (fun _ i _ _ _ => N - (intOf i).toNat)
          case atStart =>
            obtain ⟨p0, cap0, hv0⟩ := HV.out
            exact ⟨0, list, p0, cap0, by omega, rfl, hv0, hg, hlt, b1, b2, b3, bO, .refl _ _, by rw [List.range_zero, List.flatMap_nil, List.append_nil, List.take_of_length_le (by omega)]⟩
          case round =>
            obtain ⟨y, list', pp, cap, hy, rfl, rfl, hg2, hlt2, d1, d2, d3, dO, hfar, hlist⟩ := hrel
            clear hg hlt b1 b2 b3 bO c1
            have c0 := d1.cell 0 _ (sqs_order (N : Int) t)
            have hvl := dO.lt
            have HL := Hid2.mk hlist
            clear hlist
            by_cases hyN : y < N
            · have hyN' : (y : Int) < (N : Int) := by omega
              by_cases hll : list'.length < most
              · have hll' : (list'.length : Int) < (most : Int) := by omega
                have hdy : decide ((y : Int) < (N : Int)) = true := by simp; omega
                have hdl : decide ((list'.length : Int) < (most : Int)) = true := by simp; omega
                have c2 := d3.cell _ _ (pms_used m (i := y) (by omega))
                by_cases hus : 0 < m.used y
                · have hnil := isos_used (t := t) (u := u) hv hx hyN hx0 hus
                  go_wp2
                  go_roundw
                  case rel => exact ⟨y + 1, list', pp, cap, by omega, by go_num, rfl, hg2, hlt2, d1, d2, d3, dO, hfar, by rw [HL.out, List.range_succ, List.flatMap_append, List.flatMap_singleton, hnil, List.append_nil]⟩
                  case measure => simp [intOf]; omega
                · have hus' : m.used y ≤ 0 := by omega
                  have hC := closeF_closes HT.out HU.out (K + 1) m k y hv hx hyN hK
                  have hcC := fun w1 => l02Close_any N t u h0 h1 HT.out HU.out (K + 1) m k y w1 hv hx hyN hK
                  have hcM := IH.out
                  generalize hR : closeF N t u (K + 1) m k y = R at hC hcC
                  have hfn : ∀ b, w.heap.size ≤ b → b < w.heap.size + 1 + 1 + 1 → (Value.slice pp list'.length cap).ownBlock ≠ some b := fun b h h2 => hfar.ne hown h h2
                  obtain ⟨wo, rfl⟩ : ∃ wo : World, wo = wr := ⟨_, rfl⟩
                  have hfb : ∀ b, wo.heap.size ≤ b → (Value.slice pp list'.length cap).ownBlock ≠ some b := fun b h e => by have := (hvl b e).2; omega
                  have hwo : w.heap.size ≤ wo.heap.size := by omega
                  cases h2 : R.2 with
                  | false =>
                    have hnil := isos_failed hx hx0 hC h2
                    go_wp2_with (first | (refine wpList_load_part rfl 36 _ rfl (w.heap.size) (0) rfl (sqs (N : Int) t) _ und_sqs rfl inf_sqs (cells_of_blk0 d1) ?_) | (refine wpList_load_part rfl 36 _ rfl (w.heap.size + 1) (0) rfl (sqs (N : Int) u) _ und_sqs rfl inf_sqs (cells_of_blk0 d2) ?_) | (refine wpList_load_part rfl 122 _ rfl (w.heap.size + 1 + 1) (0) rfl (pms m) _ und_l2m rfl inf_l2m (cells_of_blk0 d3) ?_) | (go_at_call 91; ((with_reducible refine (hcC _).mono ?_); rintro e w3 ⟨rfl, hb⟩; have hs3 := hb.size; have p1 := blk_put_other ((d1.later hb).alloc (.cells (pms ⟨fun _ => 0, fun _ => 0, 0⟩) 122)) (c := w3.heap.size) (cs' := pms R.1) (t' := 122) (by omega); have p2 := blk_put_other ((d2.later hb).alloc (.cells (pms ⟨fun _ => 0, fun _ => 0, 0⟩) 122)) (c := w3.heap.size) (cs' := pms R.1) (t' := 122) (by omega); have p3 := blk_put_other ((d3.later hb).alloc (.cells (pms ⟨fun _ => 0, fun _ => 0, 0⟩) 122)) (c := w3.heap.size) (cs' := pms R.1) (t' := 122) (by omega); have p4 := blk_put (blk_new w3 (pms ⟨fun _ => 0, fun _ => 0, 0⟩) 122 w3.heap.size rfl) (cs' := pms R.1) 122; have pO := own_put ((own_later dO hb).alloc (.cells (pms ⟨fun _ => 0, fun _ => 0, 0⟩) 122)) (pms R.1) 122 (hfb w3.heap.size hs3); have pG := (hg2.trans (grown_below hb _)).trans (new_put w3 (pms ⟨fun _ => 0, fun _ => 0, 0⟩) (pms R.1) 122 _); have pS : w3.heap.size < (World.put (w3.alloc (.cells (pms ⟨fun _ => 0, fun _ => 0, 0⟩) 122)) w3.heap.size (pms R.1) 122).heap.size := put_lt w3 _ _ _ _; have pB := Nat.le_trans (show base ≤ w3.heap.size by omega) (Nat.le_of_lt pS))) | (refine wpList_store_row rfl 122 _ _ rfl _ rfl _ rfl inf_l2m _ _ (blk_new _ _ _ _ (by simp)) (by simp [pms_size]) (flat_pms _) ?_))
                    go_roundw
                    case rel => exact ⟨y + 1, list', pp, cap, by omega, by go_num, rfl, pG, Nat.lt_trans (show w.heap.size + 1 + 1 < w3.heap.size by omega) pS, p1, p2, p3, pO, hfar, by rw [HL.out, List.range_succ, List.flatMap_append, List.flatMap_singleton, hnil, List.append_nil]⟩
                    case measure => simp [intOf]; omega
                  | true =>
                    have hnew := isos_closed hx hx0 hC h2
                    have hvR := hC.va h2
                    have hclR := closed_cl HT.out hcl hC h2
                    have humR := closed_um hx hx0 hC h2
                    have hcM2 := fun w1 hb1 ho => hcM R.1 list' (.slice pp list'.length cap) w1 hvR hclR (by omega) hll hb1 ho
                    clear hcM
                    go_wp2_with (first | (refine wpList_load_part rfl 122 _ rfl (w3.heap.size) (0) rfl (pms R.1) _ und_l2m rfl inf_l2m (cells_of_blk0 p4) ?_) | (refine wpList_load_part rfl 36 _ rfl (w.heap.size) (0) rfl (sqs (N : Int) t) _ und_sqs rfl inf_sqs (cells_of_blk0 p1) ?_) | (refine wpList_load_part rfl 36 _ rfl (w.heap.size + 1) (0) rfl (sqs (N : Int) u) _ und_sqs rfl inf_sqs (cells_of_blk0 p2) ?_) | (refine wpList_load_part rfl 36 _ rfl (w.heap.size) (0) rfl (sqs (N : Int) t) _ und_sqs rfl inf_sqs (cells_of_blk0 d1) ?_) | (refine wpList_load_part rfl 36 _ rfl (w.heap.size + 1) (0) rfl (sqs (N : Int) u) _ und_sqs rfl inf_sqs (cells_of_blk0 d2) ?_) | (refine wpList_load_part rfl 122 _ rfl (w.heap.size + 1 + 1) (0) rfl (pms m) _ und_l2m rfl inf_l2m (cells_of_blk0 d3) ?_) | (go_at_call 91; ((with_reducible refine (hcC _).mono ?_); rintro e w3 ⟨rfl, hb⟩; have hs3 := hb.size; have p1 := blk_put_other ((d1.later hb).alloc (.cells (pms ⟨fun _ => 0, fun _ => 0, 0⟩) 122)) (c := w3.heap.size) (cs' := pms R.1) (t' := 122) (by omega); have p2 := blk_put_other ((d2.later hb).alloc (.cells (pms ⟨fun _ => 0, fun _ => 0, 0⟩) 122)) (c := w3.heap.size) (cs' := pms R.1) (t' := 122) (by omega); have p3 := blk_put_other ((d3.later hb).alloc (.cells (pms ⟨fun _ => 0, fun _ => 0, 0⟩) 122)) (c := w3.heap.size) (cs' := pms R.1) (t' := 122) (by omega); have p4 := blk_put (blk_new w3 (pms ⟨fun _ => 0, fun _ => 0, 0⟩) 122 w3.heap.size rfl) (cs' := pms R.1) 122; have pO := own_put ((own_later dO hb).alloc (.cells (pms ⟨fun _ => 0, fun _ => 0, 0⟩) 122)) (pms R.1) 122 (hfb w3.heap.size hs3); have pG := (hg2.trans (grown_below hb _)).trans (new_put w3 (pms ⟨fun _ => 0, fun _ => 0, 0⟩) (pms R.1) 122 _); have pS : w3.heap.size < (World.put (w3.alloc (.cells (pms ⟨fun _ => 0, fun _ => 0, 0⟩) 122)) w3.heap.size (pms R.1) 122).heap.size := put_lt w3 _ _ _ _; have pB := Nat.le_trans (show base ≤ w3.heap.size by omega) (Nat.le_of_lt pS))) | (refine wpList_store_row rfl 122 _ _ rfl _ rfl _ rfl inf_l2m _ _ (blk_new _ _ _ _ (by simp)) (by simp [pms_size]) (flat_pms _) ?_) | (go_at_call 88; ((with_reducible refine (hcM2 _ pB pO).mono ?_); rintro e w4 ⟨v', rfl, hO3, hg3, hf3⟩)))
                    go_roundw
                    case rel =>
                      obtain ⟨p3', cap3, hv3⟩ := own_form hO3
                      exact ⟨y + 1, _, p3', cap3, by omega, by go_num, hv3, grown_then pG hg3 hfar (by omega), Nat.lt_of_lt_of_le (Nat.lt_trans (show w.heap.size + 1 + 1 < w3.heap.size by omega) pS) hg3.size, p1.grown hg3 (hfn _ (by omega) (by omega)).symm, p2.grown hg3 (hfn _ (by omega) (by omega)).symm, p3.grown hg3 (hfn _ (by omega) (by omega)).symm, hO3, hf3.trans hfar (Nat.le_trans (show w.heap.size + 1 + 1 + 1 ≤ w3.heap.size by omega) (Nat.le_of_lt pS)), by rw [← hnew, HL.out, take_step, List.append_assoc, List.range_succ, List.flatMap_append, List.flatMap_singleton]⟩
                    case measure => simp [intOf]; omega
              · have hge : most ≤ list'.length := by omega
                have hdy : decide ((y : Int) < (N : Int)) = true := by simp; omega
                have hdl : decide ((list'.length : Int) < (most : Int)) = false := by simp; omega
                go_wp2
                go_ret
                have hl2 : (list ++ isos N t u m.abs).take most = list' := by
                  obtain ⟨Bq, hBq⟩ := flat_prefix (fun y => isos N t u (upd m.abs k y)) hy
                  rw [hI, hBq, ← List.append_assoc, HL.out]
                  exact take_grow (by rw [← HL.out]; have := congrArg List.length HL.out; rw [List.length_take] at this; omega)
                rw [hl2]
                exact ⟨_, rfl, dO, hg2, hfar.mono (by omega)⟩
            · obtain rfl : y = N := by omega
              have hdy : decide ((y : Int) < (y : Int)) = false := by simp
              go_wp2
              go_ret
              have hl2 : (list ++ isos y t u m.abs).take most = list' := by rw [hI, HL.out]
              rw [hl2]
              exact ⟨_, rfl, dO, hg2, hfar.mono (by omega)⟩
end Go.Proofs.YtinjjaoikofkdaaDoor

/- All isomorphisms, for the reference: a contract. -/
namespace Go.Proofs.YtinjjaoikofkdaaDoor
set_option linter.unusedSimpArgs false
set_option linter.unusedVariables false
open Go Go.RowKit

set_option maxRecDepth 100000 in
set_option maxHeartbeats 1000000 in
theorem l02All_any (N : Nat) (t u : Nat → Nat → Nat) (most : Nat) (w : World) (h0 : 1 ≤ N) (h1 : N ≤ 10) (ht : ∀ x y : Nat, x < N → y < N → t x y < N) (hu : ∀ x y : Nat, x < N → y < N → u x y < N) (hm0 : 0 < most) (hmost : most ≤ 1000000) :
    Calls Tryd.prog 80 #[.agg (sqs (N : Int) t), .agg (sqs (N : Int) u), .int .i64 (most : Int)] w fun e w' =>
      ∃ v', e = .returned v' ∧ w'.ownsRow w.heap.size 52 10 v' ((isos N t u fun _ => none).take most).length (plCells ((isos N t u fun _ => none).take most)) ∧ Below w.heap.size w w' := by
  have hM := fun w1 hb1 => l02Maps_any N t u most w.heap.size h0 h1 ht hu hmost (N + 1) PM.zero [] (.slice none 0 0) w1 (zero_va N) (zero_cl N t u) (by have := um_le PM.zero.to N; omega) hm0 hb1 (World.ownsRow_nil _ _ _ _)
  rw [show PM.abs PM.zero = fun _ => none from rfl] at hM
  simp only [List.nil_append] at hM
  generalize (isos N t u fun _ => none).take most = l at hM
  have hM := Hid2.mk hM
  have q1 := (blk_new w (sqs (N : Int) t) 36 w.heap.size rfl).alloc (.cells (sqs (N : Int) u) 36)
  have q2 := blk_new (w.alloc (.cells (sqs (N : Int) t) 36)) (sqs (N : Int) u) 36 (w.heap.size + 1) (by simp)
  have qB : Below w.heap.size w ((w.alloc (.cells (sqs (N : Int) t) 36)).alloc (.cells (sqs (N : Int) u) 36)) := by
    repeat (first | exact Below.refl _ _ | (refine below_alloc ?_ _))
  have c1 := q1.cell 0 _ (sqs_order (N : Int) t)
  have c2 := q2.cell 0 _ (sqs_order (N : Int) u)
  go_enter Tryd.func80, Tryd.ntmps80
  go_wp2
  apply wp_region_text_tail 4 (fun w' => Below w.heap.size w w' ∧ blk w' w.heap.size (sqs (N : Int) t) 36 ∧ blk w' (w.heap.size + 1) (sqs (N : Int) u) 36) (by kernel_rfl) (by kernel_rfl) (⟨qB.drew, q1.drew, q2.drew⟩); (simp only [List.take_succ_cons, List.take_zero]; repeat (first | exact wpText_nil | (apply wpText_cons; (intro w2 hS; obtain ⟨hB2, d1, d2⟩ := hS; go_wp2_with (first | (refine wpList_load_part rfl 36 _ rfl (w.heap.size) (0) rfl (sqs (N : Int) t) _ und_sqs rfl inf_sqs (cells_of_blk0 d1) ?_) | (refine wpList_load_part rfl 36 _ rfl (w.heap.size + 1) (0) rfl (sqs (N : Int) u) _ und_sqs rfl inf_sqs (cells_of_blk0 d2) ?_) | (go_at_call 89; ((with_reducible refine (l02Start_any _).mono ?_); rintro e w3 ⟨rfl, hb⟩))); (first | exact ⟨rfl, rfl, hB2, d1, d2⟩ | exact ⟨rfl, rfl, below_self hB2 hb, d1.later hb, d2.later hb⟩)); rfl)))
  (intro w2 hS; simp only [List.drop_succ_cons, List.drop_zero]; obtain ⟨hB4, d1, d2⟩ := hS)
  go_wp2_with (first | (go_at_call 88; ((with_reducible refine (hM.out _ hB4.size).mono ?_); rintro e w3 ⟨v', rfl, hO, hg, hf⟩)))
  go_ret
  exact ⟨v', rfl, hO, hB4.grown hg hB4.size fun k h => by simp [Value.ownBlock] at h⟩
end Go.Proofs.YtinjjaoikofkdaaDoor

/- Cells of the program's part of an isomorphism. -/
namespace Go.Proofs.YtinjjaoikofkdaaDoor
set_option linter.unusedSimpArgs false
set_option linter.unusedVariables false
open Go Go.RowKit

/-- A byte of `to`, and one of `from`. -/
def toC (m : PM) (i : Nat) : Int := if m.to i < 0 then 255 else m.to i
def frC (m : PM) (fr : Nat → Nat) (i : Nat) : Int := if 0 < m.used i then (fr i : Int) else 255
/-- The cells of a part: two squares, where each is led, where each comes from. -/
def led (n : Int) (t : Nat → Nat → Nat) (k : Int) (u : Nat → Nat → Nat) (m : PM) (fr : Nat → Nat) : Array Value :=
  tab 222 fun i => if i < 101 then ((sqs n t)[i]?).getD undef else if i < 202 then ((sqs k u)[i - 101]?).getD undef else if i < 212 then .int .u8 (toC m (i - 202)) else .int .u8 (frC m fr (i - 212))
theorem led_q {n k : Int} {t u : Nat → Nat → Nat} {m : PM} {fr : Nat → Nat} {i : Nat} {v : Value} (h : (sqs n t)[i]? = some v) (hi : i < 101) : (led n t k u m fr)[i]? = some v := by
  unfold led; rw [tab_get (by omega), if_pos hi, h]; rfl
theorem led_r {n k : Int} {t u : Nat → Nat → Nat} {m : PM} {fr : Nat → Nat} {i : Nat} {v : Value} (h : (sqs k u)[i]? = some v) (hi : i < 101) : (led n t k u m fr)[101 + i]? = some v := by
  unfold led; rw [tab_get (by omega), if_neg (by omega), if_pos (by omega), Nat.add_sub_cancel_left, h]; rfl
theorem led_to {n k : Int} {t u : Nat → Nat → Nat} {m : PM} {fr : Nat → Nat} {x : Nat} (hx : x < 10) : (led n t k u m fr)[202 + x]? = some (.int .u8 (toC m x)) := by
  unfold led; rw [tab_get (by omega), if_neg (by omega), if_neg (by omega), if_pos (by omega), Nat.add_sub_cancel_left]
theorem led_fr {n k : Int} {t u : Nat → Nat → Nat} {m : PM} {fr : Nat → Nat} {x : Nat} (hx : x < 10) : (led n t k u m fr)[212 + x]? = some (.int .u8 (frC m fr x)) := by
  unfold led; rw [tab_get (by omega), if_neg (by omega), if_neg (by omega), if_neg (by omega), Nat.add_sub_cancel_left]
theorem toC_ne (m : PM) {x i : Nat} (y : Nat) (h : i ≠ x) : toC (m.add x y) i = toC m i := by
  have e : (m.add x y).to i = m.to i := by simp [PM.add, h]
  unfold toC; rw [e]
theorem frC_ne (m : PM) (fr : Nat → Nat) {y i : Nat} (x : Nat) (h : i ≠ y) : frC (m.add x y) (fun i => if i = y then x else fr i) i = frC m fr i := by
  have e : (m.add x y).used i = m.used i := by simp [PM.add, h]
  unfold frC; rw [e]
  dsimp only; rw [if_neg h]
set_option maxRecDepth 4000 in
theorem led_add {n k : Int} {t u : Nat → Nat → Nat} {m : PM} {fr : Nat → Nat} {x y : Nat} (hx : x < 10) (hy : y < 10) :
    ((led n t k u m fr).setIfInBounds (202 + x) (.int .u8 (y : Int))).setIfInBounds (212 + y) (.int .u8 (x : Int)) = led n t k u (m.add x y) (fun i => if i = y then x else fr i) := by
  unfold led
  rw [tab_set, tab_set]
  refine tab_ext fun j hj => ?_
  by_cases h1 : j = 212 + y
  · subst h1
    rw [if_pos rfl, if_neg (by omega), if_neg (by omega), if_neg (by omega), Nat.add_sub_cancel_left]
    simp [frC, PM.add]
  · rw [if_neg h1]
    by_cases h2 : j = 202 + x
    · subst h2
      rw [if_pos rfl, if_neg (by omega), if_neg (by omega), if_pos (by omega), Nat.add_sub_cancel_left]
      simp only [toC, PM.add, if_true]
      rw [if_neg (by omega)]
    · rw [if_neg h2]
      by_cases a : j < 101
      · exact (if_pos a).trans (if_pos a).symm
      · refine (if_neg a).trans (Eq.trans ?_ (if_neg a).symm)
        by_cases b : j < 202
        · exact (if_pos b).trans (if_pos b).symm
        · refine (if_neg b).trans (Eq.trans ?_ (if_neg b).symm)
          by_cases c : j < 212
          · refine (if_pos c).trans (Eq.trans ?_ (if_pos c).symm)
            rw [toC_ne m y (show j - 202 ≠ x by omega)]
          · refine (if_neg c).trans (Eq.trans ?_ (if_neg c).symm)
            rw [frC_ne m fr x (show j - 212 ≠ y by omega)]
end Go.Proofs.YtinjjaoikofkdaaDoor

/- A queue: a slice that may begin within its row. -/
namespace Go.Proofs.YtinjjaoikofkdaaDoor
set_option linter.unusedSimpArgs false
set_option linter.unusedVariables false
open Go Go.RowKit

/-- A slice of n elements of size cells each whose row is its own from where it begins. -/
structure Que (w : World) (base e size : Nat) (v : Value) (n : Nat) (xs : List Value) : Prop where
  out : ∃ g off cap cur, v = .slice (some ⟨g, off, none⟩) n cap ∧ base ≤ g ∧ blk w g cur e ∧ n ≤ cap ∧ off + cap * size ≤ cur.size ∧ xs.length = n * size ∧ ∀ j, j < n * size → cur[off + j]? = xs[j]?

theorem Que.new {w : World} {base e size b n : Nat} {cs : Array Value} (hb : blk w b cs e) (hbase : base ≤ b) (hs : cs.size = n * size) : Que w base e size (.slice (some ⟨b, 0, none⟩) n n) n cs.toList :=
  ⟨b, 0, n, cs, rfl, hbase, hb, Nat.le_refl _, by omega, by simpa using hs, fun j hj => by simp⟩
theorem Que.of_own {w : World} {base e size n : Nat} {v : Value} {xs : List Value} (h : w.ownsRow base e size v n xs) (hn : 0 < n) : Que w base e size v n xs := by
  rcases h.2 with ⟨_, h0⟩ | ⟨g, cap, cur, rfl, hb, hg, h1, h2, h3, h4⟩
  · omega
  · refine ⟨g, 0, cap, cur, rfl, hb, ⟨hg⟩, h1, by omega, h.1, fun j hj => ?_⟩
    rw [← h4, List.getElem?_take, if_pos hj, Nat.zero_add, Array.getElem?_toList]
theorem Que.mono {w : World} {base base' e size n : Nat} {v : Value} {xs : List Value} (h : Que w base e size v n xs) (hb : base' ≤ base) : Que w base' e size v n xs := by
  obtain ⟨g, off, cap, cur, h1, h2, h3⟩ := h.out
  exact ⟨g, off, cap, cur, h1, by omega, h3⟩
theorem Que.lt {w : World} {base e size n : Nat} {v : Value} {xs : List Value} (h : Que w base e size v n xs) : ∀ k, v.ownBlock = some k → base ≤ k ∧ k < w.heap.size := fun k hk => by
  obtain ⟨g, off, cap, cur, rfl, h2, h3, _⟩ := h.out
  cases hk; exact ⟨h2, h3.lt⟩
theorem Que.kept {w w' : World} {base e size n : Nat} {v : Value} {xs : List Value} {row : Option Nat} (h : Que w base e size v n xs) (hg : w.grownBy w' row) (hne : v.ownBlock ≠ row) : Que w' base e size v n xs := by
  obtain ⟨g, off, cap, cur, rfl, h2, h3, h4⟩ := h.out
  exact ⟨g, off, cap, cur, rfl, h2, h3.grown hg hne, h4⟩
theorem Que.later {w w' : World} {base e size n : Nat} {v : Value} {xs : List Value} (h : Que w base e size v n xs) (hb : Below w.heap.size w w') : Que w' base e size v n xs := by
  obtain ⟨g, off, cap, cur, rfl, h2, h3, h4⟩ := h.out
  exact ⟨g, off, cap, cur, rfl, h2, h3.later hb, h4⟩
theorem Que.drew {w : World} {base e size n : Nat} {v : Value} {xs : List Value} (h : Que w base e size v n xs) : Que w.drew base e size v n xs := by
  obtain ⟨g, off, cap, cur, rfl, h2, h3, h4⟩ := h.out
  exact ⟨g, off, cap, cur, rfl, h2, h3.drew, h4⟩
theorem Que.form {w : World} {base e size n : Nat} {v : Value} {xs : List Value} (h : Que w base e size v n xs) : ∃ g off cap, v = .slice (some ⟨g, off, none⟩) n cap ∧ n ≤ cap := by
  obtain ⟨g, off, cap, cur, rfl, h2, h3, h4, _⟩ := h.out
  exact ⟨g, off, cap, rfl, h4⟩
theorem Que.cell {w : World} {base e size n g off cap : Nat} {xs : List Value} (h : Que w base e size (.slice (some ⟨g, off, none⟩) n cap) n xs) (j : Nat) (u : Value) (hj : xs[j]? = some u) : w.cell? ⟨g, off + j, none⟩ = some u := by
  obtain ⟨g', off', cap', cur, h1, h2, h3, h4, h5, h6, h7⟩ := h.out
  cases h1
  have hjl : j < n * size := by rw [← h6]; exact (List.getElem?_eq_some_iff.1 hj).1
  exact h3.cell _ _ (by rw [h7 j hjl, hj])
/-- Without its first element. -/
theorem Que.tail {w : World} {base e size n g off cap : Nat} {xs : List Value} (h : Que w base e size (.slice (some ⟨g, off, none⟩) (n + 1) cap) (n + 1) xs) :
    Que w base e size (.slice (if cap = 1 then some ⟨g, off, none⟩ else some ⟨g, off + size, none⟩) n (cap - 1)) n (xs.drop size) := by
  obtain ⟨g', off', cap', cur, h1, h2, h3, h4, h5, h6, h7⟩ := h.out
  cases h1
  rw [Nat.add_mul, Nat.one_mul] at h6 h7
  by_cases hc : cap = 1
  · subst hc
    rw [if_pos rfl]
    obtain rfl : n = 0 := by omega
    exact ⟨g, off, 0, cur, rfl, h2, h3, Nat.le_refl _, by omega, by simp [h6], fun j hj => by omega⟩
  · rw [if_neg hc]
    refine ⟨g, off + size, cap - 1, cur, rfl, h2, h3, by omega, ?_, by rw [List.length_drop, h6]; omega, fun j hj => ?_⟩
    · have : (cap - 1) * size + size = cap * size := by rw [← Nat.succ_mul]; congr 1; omega
      omega
    · rw [Nat.add_assoc, h7 (size + j) (by omega), List.getElem?_drop]

section
variable {P : Program}
/-- append of m elements to a queue. -/
theorem wpList_qapp {ops : Array Oper} {rest : List Oper} {o : Oper} {a : Act} {w : World} {Q : Exit → Act → World → Prop} (hgd : o.guard = none) (s x : Operand) (t : TypeId)
    (ho : o.op = .call { callee := .builtin .append, args := #[s, x], argTypes := #[t, t] })
    (base : Nat) (e : TypeId) (z : Value) (size bytes : Nat) (ht : P.underlying t = some (.slice e)) (hinfo : (P.info? e).map (fun i => (i.zero, i.size, i.bytes)) = some (some z, size, bytes))
    (hzs : z.cells.size = size) (hsz : 0 < size) (hby : 0 < bytes) (v : Value) (n : Nat) (xs : List Value) (hs : a.eval s = v) (hq : Que w base e size v n xs)
    (b m : Nat) (hx : a.eval x = .slice (some ⟨b, 0, none⟩) m m) (ys : Array Value) (hy : blk w b ys e) (hys : ys.size = m * size) (h1 : flat ys) (hm : 0 < m)
    (hbytes : (n + m) * bytes ≤ 140737488355328) (hbase : base ≤ w.heap.size)
    (h : ∀ v' w', Que w' base e size v' (n + m) (xs ++ ys.toList) → w.grownBy w' v.ownBlock → (v'.ownBlock = v.ownBlock ∨ ∃ g, v'.ownBlock = some g ∧ w.heap.size ≤ g) → wpList P ops Q rest (a.put o.dst v') w') :
    wpList P ops Q (o :: rest) a w := by
  obtain ⟨i0, hi, hzz⟩ := Option.map_eq_some_iff.1 hinfo
  simp only [Prod.mk.injEq] at hzz
  obtain ⟨hz0, hz1, hz2⟩ := hzz
  have hnews : ∀ j u, ys.toList[j]? = some u → w.cell? ((⟨b, 0, none⟩ : Addr).add j) = some u := fun j u hu => by
    rw [add_none, Nat.zero_add]; exact hy.cell j u (by simpa using hu)
  have key : ∃ v' w', (Builtin.append_ #[t, t] o.type #[v, .slice (some ⟨b, 0, none⟩) m m]).run P w = .ok v' w' ∧ Que w' base e size v' (n + m) (xs ++ ys.toList) ∧ w.grownBy w' v.ownBlock ∧ (v'.ownBlock = v.ownBlock ∨ ∃ g, v'.ownBlock = some g ∧ w.heap.size ≤ g) := by
    obtain ⟨g, off, cap, cur, rfl, q2, q3, q4, q5, q6, q7⟩ := hq.out
    have hlen : (xs ++ ys.toList).length = (n + m) * size := by rw [List.length_append, q6, Array.length_toList, hys, Nat.add_mul]
    by_cases hroom : n + m ≤ cap
    · have hfit : n * size + m * size ≤ cap * size := by rw [← Nat.add_mul]; exact Nat.mul_le_mul_right _ hroom
      have hyl : ys.toList.length = m * size := by rw [Array.length_toList, hys]
      have hr := run_append_room_cells (P := P) w t o.type e i0 ht hi g off n cap ⟨b, 0, none⟩ m m ys.toList (by rw [hz1]; exact hyl) hnews (flat_one h1) hroom
        (fun j hj => by rw [q3.cell _ (cur[off + n * i0.size + j]'(by rw [hz1]; omega)) (Array.getElem?_eq_getElem _)]; rfl) (fun j hj => q3.free _)
      rw [hz1] at hr
      have e1 := run_storeCells_cells (P := P) g (off + n * size) ys.toList 0 w (fun j hj => by rw [q3.cell _ (cur[off + n * size + 0 + j]'(by omega)) (Array.getElem?_eq_getElem _)]; rfl) (fun j hj => q3.free _) (flat_one h1)
      have e2 := run_storeCells_blk (P := P) e g (off + n * size) ys.toList h1 w cur 0 q3 (by omega)
      rw [e2] at e1
      simp only [Nat.add_zero, Result.ok.injEq, true_and] at e1
      rw [← e1] at hr
      refine ⟨_, _, hr, ⟨g, off, cap, _, rfl, q2, blk_put q3 e, hroom, by rw [splice_size 0]; exact q5, hlen, fun j hj => ?_⟩, ⟨rfl, rfl, rfl, by simp [World.put], fun k _ hk => by simp only [World.put]; rw [Array.getElem?_setIfInBounds, if_neg (fun e => hk (by rw [← e]; rfl))]⟩, .inl rfl⟩
      rw [Nat.add_mul] at hj
      rw [splice_get _ _ _ _ (by omega)]
      by_cases hjn : j < n * size
      · rw [if_neg (by omega), q7 j hjn, List.getElem?_append_left (by omega)]
      · rw [if_pos (by omega), List.getElem?_append_right (by omega), q6]
        congr 1; omega
    · obtain ⟨v', w', hr, hO, hG⟩ := run_append_arg_grows (P := P) w t o.type e i0 z size bytes ht hi hz0 hz1 hz2 hzs hsz ⟨g, off, none⟩ n cap xs q6 (fun j u hu => by rw [add_none]; exact hq.cell j u hu)
        ⟨b, 0, none⟩ m m ys.toList (by rw [Array.length_toList, hys]) hnews (by omega) (by
          have : n + m ≤ (n + m) * bytes := Nat.le_mul_of_pos_right _ hby
          simp only [maxLen]; omega) hbytes
      refine ⟨v', w', hr, (Que.of_own hO (by omega)).mono hbase, ⟨hG.os, hG.tape, hG.output, hG.size, fun k hk _ => hG.block k hk (by simp)⟩, ?_⟩
      obtain ⟨g', off', cap', hv', _⟩ := (Que.of_own hO (by omega)).form
      exact .inr ⟨g', by rw [hv']; rfl, (hO.lt g' (by rw [hv']; rfl)).1⟩
  obtain ⟨v', w', hr, k1, k2, k3⟩ := key
  refine wpList_plain hgd fun K hK => ?_
  unfold Oper.wp execOp
  simp only [ho, resolve, invoke, builtin, Sem.run_bind, Sem.run_pure, Result.andThen_ok, List.map_toArray, List.map_cons, List.map_nil, hs, hx, hr]
  exact hK _ _ (h v' w' k1 k2 k3)
end
end Go.Proofs.YtinjjaoikofkdaaDoor

/- The program's closing of a part: a contract. -/
namespace Go.Proofs.YtinjjaoikofkdaaDoor
set_option linter.unusedSimpArgs false
set_option linter.unusedVariables false
open Go Go.RowKit

theorem und_slq : Tryd.prog.underlying 130 = some (.slice 129) := by kernel_rfl
theorem inf_elq : (Tryd.prog.info? 129).map (fun i => (i.zero, i.size, i.bytes)) = some (some (.agg #[.int .u8 0, .int .u8 0]), 2, 2) := by kernel_rfl
theorem build_by2 (x y : Int) (w : World) : (Instr.build 129 #[(0, .int .u8 x), (1, .int .u8 y)]).run Tryd.prog w = .ok (.agg #[.int .u8 x, .int .u8 y]) w := by kernel_rfl
theorem bsl_q1 (x y : Int) (w : World) : (Instr.buildSlice 130 1 [(0, Value.agg #[.int .u8 x, .int .u8 y])].toArray).run Tryd.prog w = .ok (.slice (some ⟨w.heap.size, 0, none⟩) 1 1) (w.alloc (.cells #[.int .u8 x, .int .u8 y] 129)) := by kernel_rfl
theorem bsl_q2 (x y x' y' : Int) (w : World) : (Instr.buildSlice 130 2 [(0, Value.agg #[.int .u8 x, .int .u8 y]), (1, Value.agg #[.int .u8 x', .int .u8 y'])].toArray).run Tryd.prog w = .ok (.slice (some ⟨w.heap.size, 0, none⟩) 2 2) (w.alloc (.cells #[.int .u8 x, .int .u8 y, .int .u8 x', .int .u8 y'] 129)) := by kernel_rfl

/-- The cells of a queue. -/
def qCells (q : List (Nat × Nat)) : List Value := q.flatMap fun p => [.int .u8 (p.1 : Int), .int .u8 (p.2 : Int)]

theorem grown_set (w : World) (b j : Nat) (v : Value) : w.grownBy (w.setCell ⟨b, j, none⟩ v) (some b) :=
  ⟨rfl, rfl, rfl, by simp [World.setCell], fun k _ hk => by
    have h : b ≠ k := fun e => hk (by rw [e])
    simp [World.setCell, Array.getElem?_modify, h]⟩
theorem yield_bsl {P : Program} {oh : Oper} {ty : TypeId} {len : Nat} {l : List (Nat × Operand)} (ho : oh.op = .buildSlice ty len l.toArray) {a : Act} {w : World} {R : Value → World → Prop} (vals : List (Nat × Value)) (hv : l.map (fun p => (p.1, a.eval p.2)) = vals)
    {v : Value} {w' : World} (hb : (Instr.buildSlice ty len vals.toArray).run P w = .ok v w') (hR : R v w') : yield P oh a w R := by
  subst hv
  unfold yield
  simp only [execOp, ho, List.map_toArray, Sem.run_bind, hb, Result.andThen_ok, Sem.run_pure, yieldR]
  exact hR
theorem news_lt {N : Nat} {t u : Nat → Nat → Nat} {m : PM} {x y : Nat} (ht : ∀ a b, a < N → b < N → t a b < N) (hu : ∀ a b, a < N → b < N → u a b < N) (hv : Va N m) (hx : x < N) (hy : y < N) : ∀ p ∈ news N t u m x y N, p.1 < N ∧ p.2 < N := by
  intro p h
  obtain ⟨z, hz, h0, h⟩ := mem_news.1 h
  have := hv.lt z hz
  rcases h with h | h
  · subst h; exact ⟨ht _ _ hx hz, hu _ _ hy (by omega)⟩
  · subst h; exact ⟨ht _ _ hz hx, hu _ _ (by omega) hy⟩
theorem flat4 (a b c d : Int) : flat #[.int .u8 a, .int .u8 b, .int .u8 c, .int .u8 d] := by
  intro v hv; simp at hv; rcases hv with rfl | rfl | rfl | rfl <;> rfl
/-- The least number that has a property. -/
noncomputable def least (P : Nat → Prop) : Nat := @dite _ (∃ k, P k ∧ ∀ j, P j → k ≤ j) (Classical.propDecidable _) (fun h => Classical.choose h) fun _ => 0
theorem least_is {P : Nat → Prop} (h : ∃ k, P k) : ∃ k, P k ∧ ∀ j, P j → k ≤ j := by
  obtain ⟨k, hk⟩ := h
  induction k using Nat.strongRecOn with
  | _ k ih =>
    by_cases h : ∃ j, j < k ∧ P j
    · obtain ⟨j, hj, hP⟩ := h
      exact ih j hj hP
    · exact ⟨k, hk, fun j hP => by
        rcases Nat.lt_or_ge j k with h' | h'
        · exact absurd ⟨j, h', hP⟩ h
        · exact h'⟩
theorem least_spec {P : Nat → Prop} (h : ∃ k, P k) : P (least P) := by
  unfold least; rw [dif_pos (least_is h)]; exact (Classical.choose_spec (least_is h)).1
theorem least_le {P : Nat → Prop} {k : Nat} (h : P k) : least P ≤ k := by
  unfold least; rw [dif_pos (least_is ⟨k, h⟩)]; exact (Classical.choose_spec (least_is ⟨k, h⟩)).2 k h

/-- Where the queue stands. -/
def PutInv (N : Nat) (t u : Nat → Nat → Nat) (b B : Nat) (w : World) (R : PM × Bool) (k : Nat) (vq : Value) (wr : World) : Prop :=
  ∃ (M : PM) (f : Nat → Nat) (Q : List (Nat × Nat)), Va N M ∧ (∀ i, f i < 10) ∧ (∀ p ∈ Q, p.1 < N ∧ p.2 < N) ∧ Q.length + (2 * N + 1) * um M.to N < k ∧ k ≤ 300 ∧ putF N t u k M Q = R ∧
    blk wr b (led (N : Int) t (N : Int) u M f) 113 ∧ w.grownBy wr (some b) ∧ Que wr B 129 2 vq Q.length (qCells Q) ∧ ∃ g off cap, vq = .slice (some ⟨g, off, none⟩) Q.length cap ∧ Q.length ≤ cap

set_option maxRecDepth 100000 in
set_option maxHeartbeats 3000000 in
theorem put_any (N : Nat) (t u : Nat → Nat → Nat) (m : PM) (fr : Nat → Nat) (x y b : Nat) (w : World) (h0 : 1 ≤ N) (h1 : N ≤ 10) (ht : ∀ x y : Nat, x < N → y < N → t x y < N) (hu : ∀ x y : Nat, x < N → y < N → u x y < N)
    (hv : Va N m) (hx : x < N) (hy : y < N) (hfr : ∀ i, fr i < 10) (hl : blk w b (led (N : Int) t (N : Int) u m fr) 113) :
    Calls Tryd.prog 85 #[.pointer (some ⟨b, 0, none⟩), .int .u8 (x : Int), .int .u8 (y : Int)] w fun e w' =>
      e = .returned (.bool (putF N t u (2 + (2 * N + 1) * um m.to N) m [(x, y)]).2) ∧ w.grownBy w' (some b) ∧
      ∃ fr' : Nat → Nat, (∀ i, fr' i < 10) ∧ blk w' b (led (N : Int) t (N : Int) u (putF N t u (2 + (2 * N + 1) * um m.to N) m [(x, y)]).1 fr') 113 := by
  have HT := Hid2.mk ht
  have HU := Hid2.mk hu
  clear ht hu
  have hb := hl.lt
  generalize hK0 : 2 + (2 * N + 1) * um m.to N = K0
  have hKb : K0 ≤ 300 := by
    have := um_le m.to N
    have h2 : (2 * N + 1) * um m.to N ≤ 21 * 10 := Nat.mul_le_mul (by omega) (by omega)
    omega
  go_enter Tryd.func85, Tryd.ntmps85
  go_wp2_with (first | (refine wpList_build 129 _ rfl rfl [(0, .int .u8 (x : Int)), (1, .int .u8 (y : Int))] rfl _ (build_by2 _ _ _) ?_) | (refine wpList_bsl rfl 130 1 [(0, _)] rfl [(0, .agg #[.int .u8 (x : Int), .int .u8 (y : Int)])] rfl _ _ (bsl_q1 _ _ _) ?_))
  go_loopw [7] (fun vq wr => ∃ k, PutInv N t u b w.heap.size w (putF N t u K0 m [(x, y)]) k vq wr) (fun vq wr => least fun k => PutInv N t u b w.heap.size w (putF N t u K0 m [(x, y)]) k vq wr)
  case atStart =>
    refine ⟨K0, m, fr, [(x, y)], hv, hfr, fun p h => by simp at h; subst h; exact ⟨hx, hy⟩, by simp; omega, hKb, rfl, hl.alloc _, World.grownBy_alloc _ _ _, ?_, _, _, _, rfl, Nat.le_refl _⟩
    exact Que.new (cs := #[.int .u8 (x : Int), .int .u8 (y : Int)]) (blk_new _ _ _ _ rfl) (Nat.le_refl _) rfl
  case round =>
    have hP := least_spec hrel
    clear hrel
    generalize hk0 : (least fun k => PutInv N t u b w.heap.size w (putF N t u K0 m [(x, y)]) k _ wr) = k at hP ⊢
    obtain ⟨M, f, Q, vM, hf, hq, hk, hkK, hR, d1, hg, hQ, g, off, cap, rfl, hcap⟩ := hP
    have HR := Hid2.mk hR
    clear hR
    obtain ⟨k, rfl⟩ : ∃ k', k = k' + 1 := ⟨k - 1, by omega⟩
    match Q, hq, hk, HR, hQ, hcap with
    | [], hq, hk, HR, hQ, hcap =>
      go_wp2
      go_ret
      have hR2 : putF N t u K0 m [(x, y)] = (M, true) := by rw [← HR.out]; rfl
      rw [hR2]
      exact ⟨rfl, hg, f, hf, d1⟩
    | (x', y') :: q, hq, hk, HR, hQ, hcap =>
      have hx' : x' < N := (hq (x', y') (by simp)).1
      have hy' : y' < N := (hq (x', y') (by simp)).2
      have hT := hQ.tail
      have hlen : (((x', y') :: q).length : Int) = (q.length : Int) + 1 := by simp
      simp only [List.length_cons] at hT hcap hQ
      have hne : b ≠ g := by have := (hQ.lt g rfl).1; omega
      go_wp2
      apply wp_region_text (fun w' => w.grownBy w' (some b) ∧ blk w' b (led (N : Int) t (N : Int) u M f) 113 ∧ Que w' w.heap.size 129 2 (.slice (some ⟨g, off, none⟩) (q.length + 1) cap) (q.length + 1) (qCells ((x', y') :: q))) (by kernel_rfl) (by kernel_rfl) (⟨⟨hg.os, hg.tape, hg.output, hg.size, hg.block⟩, d1.drew, hQ.drew⟩); (repeat (first | exact wpText_nil | (apply wpText_cons; (intro w2 hS; obtain ⟨hg2, e1, hQ2⟩ := hS; have k1 := (Nat.add_zero off ▸ hQ2.cell 0 (.int .u8 (x' : Int)) (by simp [qCells])) ; have k2 := hQ2.cell 1 (.int .u8 (y' : Int)) (by simp [qCells]); go_wp2; (first | exact ⟨rfl, rfl, hg2, e1, hQ2⟩)); rfl)))
      intro w2 hS
      obtain ⟨hg2, e1, hQ2⟩ := hS
      clear hg d1 hQ hT
      have hT := hQ2.tail
      obtain ⟨off2, hoff2⟩ : ∃ off2, (if cap = 1 then some (⟨g, off, none⟩ : Addr) else some ⟨g, off + 2, none⟩) = some ⟨g, off2, none⟩ := by
        by_cases h : cap = 1
        · exact ⟨off, by rw [if_pos h]⟩
        · exact ⟨off + 2, by rw [if_neg h]⟩
      rw [hoff2] at hT
      have c1 := e1.cell _ _ (led_to (x := x') (by omega))
      have c2 := e1.cell _ _ (led_fr (x := y') (by omega))
      by_cases hA : M.to x' = y'
      · have htc : toC M x' = (y' : Int) := by unfold toC; rw [if_neg (by omega), hA]
        rw [htc] at c1
        have hn : PutInv N t u b w.heap.size w (putF N t u K0 m [(x, y)]) k (Value.slice (some ⟨g, off2, none⟩) q.length (cap - 1)) w2 :=
          ⟨M, f, q, vM, hf, fun p h => hq p (by simp [h]), by simp only [List.length_cons] at hk; omega, by omega, by rw [← HR.out]; simp only [putF]; rw [if_pos hA], e1, hg2, hT, hT.form⟩
        go_wp2
        exact ⟨⟨k, hn⟩, Nat.lt_of_le_of_lt (least_le hn) (by rw [hk0]; omega)⟩
      · by_cases hB : 0 ≤ M.to x'
        · obtain ⟨v, hv'⟩ : ∃ v : Nat, M.to x' = v := ⟨(M.to x').toNat, by omega⟩
          have hvN : v < N := by have := vM.lt x' hx'; omega
          have htc : toC M x' = (v : Int) := by unfold toC; rw [if_neg (by omega), hv']
          have hvy : ¬ ((v : Int) = (y' : Int)) := by omega
          have hv255 : ¬ ((v : Int) = 255) := by omega
          have hR2 : putF N t u K0 m [(x, y)] = (M, false) := by rw [← HR.out]; simp only [putF]; rw [if_neg hA, if_pos (.inl hB)]
          rw [htc] at c1
          go_wp2
          go_ret
          try rw [hR2]
          exact ⟨rfl, hg2, f, hf, e1⟩
        · have htc : toC M x' = 255 := by unfold toC; rw [if_pos (by omega)]
          have hvy : ¬ ((255 : Int) = (y' : Int)) := by omega
          rw [htc] at c1
          by_cases hC : 0 < M.used y'
          · have hfc : frC M f y' = (f y' : Int) := by unfold frC; rw [if_pos hC]
            have hf255 : ¬ ((f y' : Int) = 255) := by have := hf y'; omega
            have hR2 : putF N t u K0 m [(x, y)] = (M, false) := by rw [← HR.out]; simp only [putF]; rw [if_neg hA, if_pos (.inr hC)]
            rw [hfc] at c2
            go_wp2
            go_ret
            try rw [hR2]
            exact ⟨rfl, hg2, f, hf, e1⟩
          · have hfc : frC M f y' = 255 := by unfold frC; rw [if_neg hC]
            rw [hfc] at c2
            go_wp2
            have hne2 : (Value.slice (some ⟨g, off2, none⟩) q.length (cap - 1)).ownBlock ≠ some b := fun e => hne (by cases e; rfl)
            apply wp_region_float1 [0, 1, 2, 3, 4, 5, 6, 7, 8, 10, 11] 9 12 _ (fun g9 w' => w.grownBy w' (some b) ∧ blk w' b (bif g9.isEmpty then led (N : Int) t (N : Int) u M f else (led (N : Int) t (N : Int) u M f).setIfInBounds (202 + x') (.int .u8 (y' : Int))) 113 ∧ Que w' w.heap.size 129 2 (.slice (some ⟨g, off2, none⟩) q.length (cap - 1)) q.length (qCells q)) (by kernel_rfl) (by kernel_rfl) rfl rfl
            case hS => exact ⟨⟨hg2.os, hg2.tape, hg2.output, hg2.size, hg2.block⟩, e1.drew, Que.drew hT⟩
            case ht => repeat (first | exact wpTextG_nil | (apply wpTextG_cons; (intro g9 w3 hS; obtain ⟨h1, h2, h3⟩ := hS; go_wp2; exact ⟨rfl, rfl, h1, h2, h3⟩); rfl))
            case hA =>
              intro w3 hS
              obtain ⟨h1, h2, h3⟩ := hS
              have h2' : blk w3 b (led (N : Int) t (N : Int) u M f) 113 := h2
              have c3 := h2'.cell _ _ (led_to (x := x') (by omega))
              have f3 := h2'.free (202 + x')
              refine yield_store (ops := #[]) (by exact rfl) (by exact rfl) ?_
              go_wp2
              exact ⟨h1.trans (grown_set _ _ _ _), h2'.set _ _, h3.kept (grown_set _ _ _ _) hne2⟩
            intro v9 w3 hS
            obtain ⟨h1, h2, h3⟩ := hS
            simp only [List.drop_succ_cons, List.drop_zero]
            have h2' : blk w3 b ((led (N : Int) t (N : Int) u M f).setIfInBounds (202 + x') (.int .u8 (y' : Int))) 113 := h2
            have c4 := h2'.cell (212 + y') (.int .u8 255) (by rw [Array.getElem?_setIfInBounds_ne (by omega), led_fr (by omega), hfc])
            have f4 := h2'.free (212 + y')
            have d4 := (h2'.set (212 + y') (.int .u8 (x' : Int))).eq (led_add (by omega) (by omega))
            have g4 := h1.trans (grown_set w3 b (212 + y') (.int .u8 (x' : Int)))
            have q4 := h3.kept (grown_set w3 b (212 + y') (.int .u8 (x' : Int))) hne2
            have dL : ∀ (j : Nat) (v : Value), (sqs (N : Int) t)[j]? = some v → (w3.setCell ⟨b, 212 + y', none⟩ (.int .u8 (x' : Int))).cell? ⟨b, 0 + j, none⟩ = some v := fun j v h => d4.cell _ _ (by
              rw [Nat.zero_add]
              refine led_q h ?_
              have := (Array.getElem?_eq_some_iff.1 h).1
              simpa [sqs_size] using this)
            clear h2 h2' h1 h3 c1 c2 e1
            go_wp2_with (first | (refine wpList_load_part rfl 36 _ rfl (b) (0) rfl (sqs (N : Int) t) _ und_sqs rfl inf_sqs (dL) ?_) | (go_at_call 52; ((with_reducible refine (elements_any _ _ _ (by omega) (by omega)).mono ?_); rintro e w5 ⟨g5, cap5, rfl, hb5, hg5, hr5⟩)))
            have hxx : (M.add x' y').to x' = y' := by simp [PM.add]
            have vM' := vM.add hx' hy' (by omega) (by omega)
            have hf' : ∀ i, (fun i => if i = y' then x' else f i) i < 10 := fun i => by
              dsimp only; split
              · omega
              · exact hf i
            have hR2 : putF N t u k (M.add x' y') (q ++ news N t u (M.add x' y') x' y' N) = putF N t u K0 m [(x, y)] := by
              rw [← HR.out]; simp only [putF]; rw [if_neg hA, if_neg (by omega)]
            have hum : um (M.add x' y').to N + 1 = um M.to N := by
              have := um_add (f := M.to) (x := x') (y := (y' : Int)) (by omega) (by omega) N
              rw [if_pos hx'] at this; exact this
            have hk2 : q.length + 2 * N + (2 * N + 1) * um (M.add x' y').to N < k := by
              rw [← hum, Nat.mul_add] at hk
              simp only [List.length_cons] at hk
              omega
            generalize M.add x' y' = M' at d4 vM' hR2 hk2 hxx
            generalize (fun i => if i = y' then x' else f i) = f' at d4 hf'
            have HM := Hid2.mk hR2
            clear hR2 HR hum
            have e4 := d4.later hb5
            have e5 := q4.later hb5
            have g6 := g4.trans (grown_below hb5 (some b))
            clear d4 g4 c4 f4 dL
            have hgg : g ≠ g5 := by have := (e5.lt g rfl).2; have h' := (q4.lt g rfl).2; omega
            clear q4
            go_loopw [7, 9, 10, 70] (fun vq _ _ z wr => ∃ (zn g3 off3 cap3 : Nat) (ql : List (Nat × Nat)), zn ≤ N ∧ z = .int .i64 (zn : Int) ∧ vq = .slice (some ⟨g3, off3, none⟩) ql.length cap3 ∧ ql = q ++ news N t u M' x' y' zn ∧ w.grownBy wr (some b) ∧
              blk wr b (led (N : Int) t (N : Int) u M' f') 113 ∧ rds wr g5 N (fun j => .int .u8 (j : Int)) ∧ g3 ≠ g5 ∧ Que wr w.heap.size 129 2 (.slice (some ⟨g3, off3, none⟩) ql.length cap3) ql.length (qCells ql)) (fun _ _ _ z _ => N - (intOf z).toNat)
            case atStart => exact ⟨0, g, off2, cap - 1, q, by omega, rfl, rfl, by simp [news], g6, e4, by simpa using hr5, hgg, e5⟩
            case round =>
              obtain ⟨zn, g3, off3, cap3, ql, hzn, rfl, rfl, hql, hg7, d7, r7, hg35, q7⟩ := hrel
              have HQ := Hid2.mk hql
              clear hql g6 e4 e5 hr5
              by_cases hz : zn < N
              · have hz' : (zn : Int) < (N : Int) := by omega
                have c7 := r7.at_ zn hz
                have c8 := d7.cell _ _ (led_to (x := zn) (by omega))
                by_cases hfree : M'.to zn < 0
                · have htc : toC M' zn = 255 := by unfold toC; rw [if_pos hfree]
                  rw [htc] at c8
                  go_wp2
                  go_roundw
                  case rel => exact ⟨zn + 1, g3, off3, cap3, ql, by omega, by go_num, rfl, by rw [HQ.out]; simp [news, hfree], hg7, d7, r7, hg35, q7⟩
                  case measure => simp [intOf]; omega
                · obtain ⟨v, hv'⟩ : ∃ v : Nat, M'.to zn = v := ⟨(M'.to zn).toNat, by omega⟩
                  have hvN : v < N := by have := vM'.lt zn hz; omega
                  have htc : toC M' zn = (v : Int) := by unfold toC; rw [if_neg hfree, hv']
                  have hv255 : ¬ ((v : Int) = 255) := by omega
                  rw [htc] at c8
                  have a1 := HT.out x' zn hx' hz
                  have a2 := HT.out zn x' hz hx'
                  have a3 := HU.out y' v hy' hvN
                  have a4 := HU.out v y' hvN hy'
                  go_wp2
                  obtain ⟨wo, rfl⟩ : ∃ wo : World, wo = wr := ⟨_, rfl⟩
                  have hlo := (q7.lt g3 rfl).2
                  have hlo5 := r7.lt
                  apply wp_region_float1 [0, 1, 2, 3, 4, 5, 6, 7, 8, 9, 10, 11, 12, 13, 14, 15, 16, 17, 18, 19, 20, 21, 22, 23, 24, 25, 26, 27, 28, 29, 30, 31, 32, 33, 34, 35, 36, 37, 38] 39 40 _ (fun g9 w' => w.grownBy w' (some b) ∧ blk w' b (led (N : Int) t (N : Int) u M' f') 113 ∧ rds w' g5 N (fun j => .int .u8 (j : Int)) ∧ Que w' w.heap.size 129 2 (.slice (some ⟨g3, off3, none⟩) ql.length cap3) ql.length (qCells ql) ∧ (∀ v8 u8, g9 = v8 :: u8 → ∃ b9, v8 = .slice (some ⟨b9, 0, none⟩) 2 2 ∧ blk w' b9 #[.int .u8 (t x' zn : Int), .int .u8 (u y' v : Int), .int .u8 (t zn x' : Int), .int .u8 (u v y' : Int)] 129)) (by kernel_rfl) (by kernel_rfl) rfl rfl
                  case hS => exact ⟨⟨hg7.os, hg7.tape, hg7.output, hg7.size, hg7.block⟩, d7.drew, r7.drew, Que.drew q7, fun _ _ h => by cases h⟩
                  case ht => repeat (first | exact wpTextG_nil | (apply wpTextG_cons; (intro g9 w6 hS; obtain ⟨h1, h2, h3, h4, h5⟩ := hS; have m1 := h2.cell _ _ (led_q (sqs_get (n := (N : Int)) (t := t) (x := x') (y := zn) (by omega) (by omega)) (by omega)); have m2 := h2.cell _ _ (led_q (sqs_get (n := (N : Int)) (t := t) (x := zn) (y := x') (by omega) (by omega)) (by omega)); have m3 := h2.cell _ _ (led_r (sqs_get (n := (N : Int)) (t := u) (x := y') (y := v) (by omega) (by omega)) (by omega)); have m4 := h2.cell _ _ (led_r (sqs_get (n := (N : Int)) (t := u) (x := v) (y := y') (by omega) (by omega)) (by omega)); rw [show 101 + (1 + y' * 10 + v) = 102 + y' * 10 + v by omega] at m3; rw [show 101 + (1 + v * 10 + y') = 102 + v * 10 + y' by omega] at m4; go_wp2_with (first | (refine wpList_build 129 _ rfl rfl [(0, .int .u8 (t x' zn : Int)), (1, .int .u8 (u y' v : Int))] rfl _ (build_by2 _ _ _) ?_) | (refine wpList_build 129 _ rfl rfl [(0, .int .u8 (t zn x' : Int)), (1, .int .u8 (u v y' : Int))] rfl _ (build_by2 _ _ _) ?_)); exact ⟨rfl, rfl, h1, h2, h3, h4, h5⟩); rfl))
                  case hA =>
                    intro w6 hS
                    obtain ⟨h1, h2, h3, h4, h5⟩ := hS
                    refine yield_bsl (l := [(0, _), (1, _)]) (by exact rfl) [(0, .agg #[.int .u8 (t x' zn : Int), .int .u8 (u y' v : Int)]), (1, .agg #[.int .u8 (t zn x' : Int), .int .u8 (u v y' : Int)])] (by exact rfl) (bsl_q2 _ _ _ _ _) ?_
                    exact ⟨h1.trans (World.grownBy_alloc _ _ _), h2.alloc _, h3.alloc _, h4.kept (World.grownBy_alloc _ _ none) (by simp [Value.ownBlock]), fun v9 u9 h => by cases h; exact ⟨_, rfl, blk_new _ _ _ _ rfl⟩⟩
                  intro v9 w6 hS
                  obtain ⟨h1, h2, h3, h4, h5⟩ := hS
                  obtain ⟨b9, rfl, h6⟩ := h5 _ _ rfl
                  simp only [List.drop_succ_cons, List.drop_zero]
                  have hql3 : ql.length ≤ 300 := by
                    have h1 := news_length N t u M' x' y' zn
                    have h2 := congrArg List.length HQ.out
                    rw [List.length_append] at h2
                    omega
                  have hws : w.heap.size ≤ w6.heap.size := h1.size
                  have h35 := h3.lt
                  have hg3 := (h4.lt g3 rfl).1
                  go_wp2_with (refine wpList_qapp rfl _ _ 130 rfl w.heap.size 129 (.agg #[.int .u8 0, .int .u8 0]) 2 2 und_slq inf_elq rfl (by decide) (by decide) _ _ _ rfl h4 _ 2 rfl _ h6 rfl (flat4 _ _ _ _) (by decide) (by omega) hws ?_; intro v7 w7 hq7 hg8 hfar)
                  go_roundw
                  case rel =>
                    obtain ⟨g7, off7, cap7, rfl, _⟩ := hq7.form
                    refine ⟨zn + 1, g7, off7, cap7, ql ++ [(t x' zn, u y' v), (t zn x', u v y')], by omega, by go_num, by simp, ?_, h1.andThen hg8 (fun j hj => by cases hj; exact .inl hg3), h2.grown hg8 (fun e => by have h9 : b = g3 := Option.some.inj (show some b = some g3 from e); have := hb; omega), h3.grown hg8 (fun e => hg35 (Option.some.inj (show some g5 = some g3 from e)).symm), ?_, ?_⟩
                    · rw [HQ.out]; simp only [news]; rw [if_neg (show ¬ M'.to zn < 0 by omega), hv']; simp
                    · rcases hfar with h | ⟨g8, h, hge⟩
                      · have h9 : g7 = g3 := Option.some.inj (show some g7 = some g3 from h)
                        rw [h9]; exact hg35
                      · have h9 : g7 = g8 := Option.some.inj (show some g7 = some g8 from h)
                        intro h8; rw [← h9, h8] at hge; exact absurd h35 (Nat.not_lt.2 hge)
                    · rw [show (ql ++ [(t x' zn, u y' v), (t zn x', u v y')]).length = ql.length + 2 by simp, show qCells (ql ++ [(t x' zn, u y' v), (t zn x', u v y')]) = qCells ql ++ [.int .u8 (t x' zn : Int), .int .u8 (u y' v : Int), .int .u8 (t zn x' : Int), .int .u8 (u v y' : Int)] by simp [qCells]]
                      exact hq7
                  case measure => simp [intOf]; omega
              · obtain rfl : zn = N := by omega
                have hn : PutInv zn t u b w.heap.size w (putF zn t u K0 m [(x, y)]) k (Value.slice (some ⟨g3, off3, none⟩) ql.length cap3) wr :=
                  ⟨M', f', ql, vM', hf', fun p h => by
                    rw [HQ.out] at h
                    rcases List.mem_append.1 h with h | h
                    · exact hq p (by simp [h])
                    · exact news_lt HT.out HU.out vM' hx' hy' p h, by
                    have h1 := news_length zn t u M' x' y' zn
                    have h2 := congrArg List.length HQ.out
                    rw [List.length_append] at h2
                    omega, by omega, by rw [HQ.out]; exact HM.out, d7, hg7, q7, q7.form⟩
                have hge : ¬ ((zn : Int) < (zn : Int)) := by omega
                go_wp2
                exact ⟨⟨k, hn⟩, Nat.lt_of_le_of_lt (least_le hn) (by rw [hk0]; omega)⟩
end Go.Proofs.YtinjjaoikofkdaaDoor

