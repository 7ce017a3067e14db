/- Subloops as sets of bits; the least subloop with some elements: the program's, and a contract. -/
import Derived.Test.YteonahoboligdaaDoorE1
namespace Go.Proofs.YteonahoboligdaaDoor
set_option linter.unusedSimpArgs false
set_option linter.unusedVariables false
open Go Go.RowKit

open Classical in
/-- The numbers below k with a property, as bits. -/
noncomputable def mkP (p : Nat → Prop) : Nat → Nat
  | 0 => 0
  | k + 1 => if p k then mkP p k ||| 2 ^ k else mkP p k
theorem mkP_bit (p : Nat → Prop) (v : Nat) : ∀ k, (mkP p k).testBit v = true ↔ v < k ∧ p v
  | 0 => by simp [mkP]
  | k + 1 => by
    rw [mkP]
    by_cases h : p k
    · rw [if_pos h, Nat.testBit_or, Bool.or_eq_true, mkP_bit p v k, Nat.testBit_two_pow, decide_eq_true_iff]
      constructor
      · rintro (⟨h1, h2⟩ | rfl)
        · exact ⟨by omega, h2⟩
        · exact ⟨by omega, h⟩
      · rintro ⟨h1, h2⟩
        by_cases e : k = v
        · exact .inr e
        · exact .inl ⟨by omega, h2⟩
    · rw [if_neg h, mkP_bit p v k]
      constructor
      · rintro ⟨h1, h2⟩; exact ⟨by omega, h2⟩
      · rintro ⟨h1, h2⟩
        by_cases e : k = v
        · subst e; exact absurd h2 h
        · exact ⟨by omega, h2⟩
theorem mkP_lt (p : Nat → Prop) : ∀ k, mkP p k < 2 ^ k
  | 0 => by simp [mkP]
  | k + 1 => by
    rw [mkP]
    have := mkP_lt p k
    have h2 : (2 : Nat) ^ k < 2 ^ (k + 1) := Nat.pow_lt_pow_right (by omega) (by omega)
    split
    · exact Nat.or_lt_two_pow (by omega) h2
    · omega
theorem bit_lt {m i : Nat} (hm : m < 1024) (h : m.testBit i = true) : i < 10 := by
  rcases Nat.lt_or_ge i 10 with h1 | h1
  · exact h1
  · have : m < 2 ^ i := Nat.lt_of_lt_of_le hm (Nat.pow_le_pow_right (n := 2) (by omega) h1)
    rw [Nat.testBit_lt_two_pow this] at h; cases h
theorem mask_ext {a b : Nat} (h : ∀ i, a.testBit i = true ↔ b.testBit i = true) : a = b :=
  Nat.eq_of_testBit_eq fun i => by rw [Bool.eq_iff_iff]; exact h i
/-- All bits of the one are bits of the other. -/
def SubM (a b : Nat) : Prop := ∀ i, a.testBit i = true → b.testBit i = true
theorem SubM.refl (a : Nat) : SubM a a := fun _ h => h
theorem SubM.trans {a b c : Nat} (h : SubM a b) (k : SubM b c) : SubM a c := fun i hi => k i (h i hi)
theorem SubM.le {a b : Nat} (h : SubM a b) : a ≤ b := by
  have e : a &&& b = a := mask_ext fun i => by
    rw [Nat.testBit_and, Bool.and_eq_true]
    exact ⟨fun h => h.1, fun h2 => ⟨h2, h i h2⟩⟩
  rw [← e]; exact Nat.and_le_right
theorem SubM.anti {a b : Nat} (h : SubM a b) (k : SubM b a) : a = b := mask_ext fun i => ⟨h i, k i⟩
theorem SubM.or_left (a b : Nat) : SubM a (a ||| b) := fun i h => by rw [Nat.testBit_or, h]; rfl

/-- A subloop: 0 is in it, and products and quotients of two of its elements. -/
structure Clo (t : Nat → Nat → Nat) (S : Nat → Prop) : Prop where
  zero : S 0
  op : ∀ b x y, isOpB b = true → S x → S y → S (apB t b x y)
theorem clo_all {n : Nat} {t : Nat → Nat → Nat} (hs : IsSq (n : Int) t) : Clo t (· < n) where
  zero := by have := hs.lo; show 0 < n; omega
  op b x y _ hx hy := by have := apB_lt hs (b := b) (a := x) (c := y) (by omega) (by omega); show apB t b x y < n; omega
/-- What is in all subloops with some elements. -/
def GenP (t : Nat → Nat → Nat) (m : Nat) (z : Nat) : Prop := ∀ S : Nat → Prop, Clo t S → (∀ i, m.testBit i = true → S i) → S z
theorem gen_clo (t : Nat → Nat → Nat) (m : Nat) : Clo t (GenP t m) where
  zero := fun S hS _ => hS.zero
  op b x y hb hx hy := fun S hS hm => hS.op b x y hb (hx S hS hm) (hy S hS hm)
theorem gen_sub (t : Nat → Nat → Nat) {m i : Nat} (h : m.testBit i = true) : GenP t m i := fun _ _ hm => hm i h
theorem gen_lt {n : Nat} {t : Nat → Nat → Nat} (hs : IsSq (n : Int) t) {m : Nat} (hm : ∀ i, m.testBit i = true → i < n) {z : Nat} (h : GenP t m z) : z < n := h (· < n) (clo_all hs) hm
/-- The same as bits. -/
noncomputable def genM (t : Nat → Nat → Nat) (m : Nat) : Nat := mkP (GenP t m) 10
theorem genM_lt (t : Nat → Nat → Nat) (m : Nat) : genM t m < 1024 := mkP_lt _ 10
theorem genM_bit {n : Nat} {t : Nat → Nat → Nat} (hs : IsSq (n : Int) t) {m : Nat} (hm : ∀ i, m.testBit i = true → i < n) (z : Nat) : (genM t m).testBit z = true ↔ GenP t m z := by
  unfold genM
  rw [mkP_bit]
  exact ⟨fun h => h.2, fun h => ⟨by have := gen_lt hs hm h; have := hs.hi; omega, h⟩⟩
/-- Bits that are a subloop. -/
def CloM (t : Nat → Nat → Nat) (m : Nat) : Prop := Clo t fun i => m.testBit i = true
theorem genM_clo {n : Nat} {t : Nat → Nat → Nat} (hs : IsSq (n : Int) t) {m : Nat} (hm : ∀ i, m.testBit i = true → i < n) : CloM t (genM t m) where
  zero := (genM_bit hs hm 0).2 (gen_clo t m).zero
  op b x y hb hx hy := (genM_bit hs hm _).2 ((gen_clo t m).op b x y hb ((genM_bit hs hm x).1 hx) ((genM_bit hs hm y).1 hy))
theorem genM_least {n : Nat} {t : Nat → Nat → Nat} (hs : IsSq (n : Int) t) {m k : Nat} (hm : ∀ i, m.testBit i = true → i < n) (hk : CloM t k) (h : SubM m k) : SubM (genM t m) k := fun i hi => (genM_bit hs hm i).1 hi _ hk h
theorem genM_sub {n : Nat} {t : Nat → Nat → Nat} (hs : IsSq (n : Int) t) {m : Nat} (hm : ∀ i, m.testBit i = true → i < n) : SubM m (genM t m) := fun i hi => (genM_bit hs hm i).2 (gen_sub t hi)
/-- A set is a subloop if it generates itself. -/
theorem genM_self {n : Nat} {t : Nat → Nat → Nat} (hs : IsSq (n : Int) t) {m : Nat} (hm : ∀ i, m.testBit i = true → i < n) : genM t m = m ↔ CloM t m :=
  ⟨fun h => by have := genM_clo hs hm; rwa [h] at this, fun h => (genM_least hs hm h (SubM.refl m)).anti (genM_sub hs hm)⟩

/-! ### One round of the program's search -/
/-- What a round has gathered: the pairs below (k, l) have been looked at. -/
structure Vis (n : Nat) (t : Nat → Nat → Nat) (m s nx k l : Nat) : Prop where
  lt : nx < 1024
  sub : SubM s nx
  gen : ∀ i, nx.testBit i = true → GenP t m i
  met : ∀ b x y, (x < k ∨ x = k ∧ y < l) → y < n → isOpB b = true → s.testBit x = true → s.testBit y = true → nx.testBit (apB t b x y) = true
theorem Vis.start {n : Nat} {t : Nat → Nat → Nat} {m s : Nat} (hs : s < 1024) (h : ∀ i, s.testBit i = true → GenP t m i) : Vis n t m s s 0 0 := ⟨hs, SubM.refl s, h, fun _ _ _ h => by omega⟩
theorem Vis.skip {n : Nat} {t : Nat → Nat → Nat} {m s nx k l : Nat} (V : Vis n t m s nx k l) (h : ¬ (s.testBit k = true ∧ s.testBit l = true)) : Vis n t m s nx k (l + 1) :=
  ⟨V.lt, V.sub, V.gen, fun b x y hxy hy hb hx hy2 => by
    by_cases e : x = k ∧ y = l
    · obtain ⟨rfl, rfl⟩ := e; exact absurd ⟨hx, hy2⟩ h
    · exact V.met b x y (by omega) hy hb hx hy2⟩
theorem Vis.add {n : Nat} {t : Nat → Nat → Nat} {m s nx k l : Nat} (hs : IsSq (n : Int) t) (V : Vis n t m s nx k l) (hk : k < n) (hl : l < n) (h1 : s.testBit k = true) (h2 : s.testBit l = true) :
    Vis n t m s (nx ||| (2 ^ t k l ||| 2 ^ lq t k l ||| 2 ^ lq (fun x y => t y x) l k)) k (l + 1) := by
  have hn := hs.hi
  have hlt : ∀ b, apB t b k l < 10 := fun b => by have := apB_lt hs (b := b) (a := k) (c := l) (by omega) (by omega); omega
  have hp : ∀ b, 2 ^ apB t b k l < 2 ^ 10 := fun b => Nat.pow_lt_pow_right (by omega) (hlt b)
  have e1 : t k l = apB t 42 k l := rfl
  have e2 : lq t k l = apB t 92 k l := rfl
  have e3 : lq (fun x y => t y x) l k = apB t 47 k l := rfl
  rw [e1, e2, e3]
  refine ⟨Nat.or_lt_two_pow (n := 10) V.lt (Nat.or_lt_two_pow (Nat.or_lt_two_pow (hp _) (hp _)) (hp _)), fun i hi => by rw [Nat.testBit_or, V.sub i hi]; rfl, fun i hi => ?_, fun b x y hxy hy hb hx hy2 => ?_⟩
  · have hg : ∀ b, isOpB b = true → GenP t m (apB t b k l) := fun b hb => (gen_clo t m).op b k l hb (V.gen k (V.sub k h1)) (V.gen l (V.sub l h2))
    simp only [Nat.testBit_or, Bool.or_eq_true, Nat.testBit_two_pow, decide_eq_true_eq] at hi
    rcases hi with h | (h | h) | h
    · exact V.gen i h
    · rw [← h]; exact hg 42 rfl
    · rw [← h]; exact hg 92 rfl
    · rw [← h]; exact hg 47 rfl
  · by_cases e : x = k ∧ y = l
    · obtain ⟨rfl, rfl⟩ := e
      simp only [Nat.testBit_or, Bool.or_eq_true, Nat.testBit_two_pow, decide_eq_true_eq]
      have hb' : b = 42 ∨ b = 92 ∨ b = 47 := by simp [isOpB] at hb; omega
      rcases hb' with rfl | rfl | rfl
      · exact .inr (.inl (.inl rfl))
      · exact .inr (.inl (.inr rfl))
      · exact .inr (.inr rfl)
    · rw [Nat.testBit_or, V.met b x y (by omega) hy hb hx hy2]; rfl
theorem Vis.next {n : Nat} {t : Nat → Nat → Nat} {m s nx k : Nat} (V : Vis n t m s nx k n) : Vis n t m s nx (k + 1) 0 :=
  ⟨V.lt, V.sub, V.gen, fun b x y hxy hy => V.met b x y (by omega) hy⟩
/-- What a round began with: it has the elements, and is in all subloops with them. -/
structure Beg (t : Nat → Nat → Nat) (m s : Nat) : Prop where
  lt : s < 1024
  has : SubM m s
  zero : s.testBit 0 = true
  gen : ∀ i, s.testBit i = true → GenP t m i
theorem Vis.done {n : Nat} {t : Nat → Nat → Nat} {m s : Nat} (hs : IsSq (n : Int) t) (hm : ∀ i, m.testBit i = true → i < n) (B : Beg t m s) (V : Vis n t m s s n 0) : s = genM t m := by
  have hc : CloM t s := ⟨B.zero, fun b x y hb hx hy => V.met b x y (.inl (gen_lt hs hm (B.gen x hx))) (gen_lt hs hm (B.gen y hy)) hb hx hy⟩
  exact SubM.anti (fun i hi => (genM_bit hs hm i).2 (B.gen i hi)) (genM_least hs hm hc B.has)
theorem Vis.more {n : Nat} {t : Nat → Nat → Nat} {m s nx : Nat} (B : Beg t m s) (V : Vis n t m s nx n 0) (h : nx ≠ s) : Beg t m nx ∧ s < nx :=
  ⟨⟨V.lt, B.has.trans V.sub, V.sub 0 B.zero, V.gen⟩, by have := V.sub.le; omega⟩
theorem Beg.start {n : Nat} {t : Nat → Nat → Nat} (m : Nat) (hm : m < 1024) : Beg t m (m ||| 1) where
  lt := Nat.or_lt_two_pow (n := 10) hm (by decide)
  has := SubM.or_left m 1
  zero := by rw [Nat.testBit_or]; simp
  gen i hi := by
    rw [Nat.testBit_or, Bool.or_eq_true] at hi
    rcases hi with h | h
    · exact gen_sub t h
    · have : i = 0 := by
        rcases Nat.eq_zero_or_pos i with h0 | h0
        · exact h0
        · rw [show (1 : Nat) = 2 ^ 0 from rfl, Nat.testBit_two_pow] at h
          simp at h; omega
      subst this; exact (gen_clo t m).zero

theorem wrap_pow {k : Nat} (hk : k < 10) : wrap64 (2 ^ k) = ((2 ^ k : Nat) : Int) := by
  have h : (2 : Nat) ^ k < 2 ^ 10 := Nat.pow_lt_pow_right (by omega) hk
  rw [show ((2 : Int) ^ k) = ((2 ^ k : Nat) : Int) by norm_cast]
  generalize (2 : Nat) ^ k = z at h ⊢
  unfold wrap64; omega
theorem bits_or3 {s u v z : Nat} (hs : s < 1024) (hu : u < 10) (hv : v < 10) (hz : z < 10) :
    bits .or .i64 (s : Int) (bits .or .i64 (bits .or .i64 (wrap64 (2 ^ u)) (wrap64 (2 ^ v))) (wrap64 (2 ^ z))) = ((s ||| (2 ^ u ||| 2 ^ v ||| 2 ^ z) : Nat) : Int) := by
  have h : ∀ k, k < 10 → (2 : Nat) ^ k < 2 ^ 10 := fun k hk => Nat.pow_lt_pow_right (by omega) hk
  have h1 := h u hu
  have h2 := h v hv
  have h3 := h z hz
  have h4 : 2 ^ u ||| 2 ^ v < 2 ^ 10 := Nat.or_lt_two_pow h1 h2
  have h5 : 2 ^ u ||| 2 ^ v ||| 2 ^ z < 2 ^ 10 := Nat.or_lt_two_pow h4 h3
  rw [wrap_pow hu, wrap_pow hv, wrap_pow hz, bits_or_i64_nat _ _ (by omega) (by omega), bits_or_i64_nat _ _ (by omega) (by omega), bits_or_i64_nat _ _ (by omega) (by omega)]

set_option maxRecDepth 100000 in
set_option maxHeartbeats 4000000 in
theorem generated_any (n : Nat) (t : Nat → Nat → Nat) (hs : IsSq (n : Int) t) (m : Nat) (hml : m < 1024) (hm : ∀ i, m.testBit i = true → i < n) (w : World) :
    Calls Tryd.prog 42 #[.agg (sqs (n : Int) t), .int .i64 (m : Int)] w fun e w' => e = .returned (.int .i64 (genM t m : Nat)) ∧ Below w.heap.size w w' := by
  have M := Mm.start no w
  have hn : n ≤ 10 := by have := hs.hi; omega
  have h1n : (1 : Int) ≤ n := hs.lo
  have hn' : (n : Int) ≤ 10 := by omega
  have HD := Hid2.mk (fun s (B : Beg t m s) (V : Vis n t m s s n 0) => V.done hs hm B)
  have HA := Hid2.mk (fun s nx k l (V : Vis n t m s nx k l) (hk : k < n) (hl : l < n) h1 h2 => V.add hs hk hl h1 h2)
  have HB0 := Hid2.mk (Beg.start (n := n) (t := t) m hml)
  have HT := Hid2.mk (fun x y (hx : x < n) (hy : y < n) => (Lat.of_sq hs).lt x y hx hy)
  have HL1 := Hid2.mk (fun x y (hx : x < n) (hy : y < n) => (lq_lt hs (x := x) (z := y) (by omega) (by omega)).1)
  have HR1 := Hid2.mk (fun x y (hx : x < n) (hy : y < n) => (lq_lt hs.turn (x := y) (z := x) (by omega) (by omega)).1)
  have HL := Hid2.mk (fun x y (hx : x < n) (hy : y < n) w1 => left_any (n : Int) t hs x y (by omega) (by omega) w1)
  have HR := Hid2.mk (fun x y (hx : x < n) (hy : y < n) w1 => right_any (n : Int) t hs x y (by omega) (by omega) w1)
  have hor1 : bits .or .i64 (m : Int) 1 = ((m ||| 1 : Nat) : Int) := bits_or_i64_nat m 1 (by omega) (by decide)
  have hml' : (m : Int) < 1024 := by omega
  generalize genM t m = res at *
  clear hs hm
  go_enter Tryd.func42, Tryd.ntmps42
  go_wp2_with (first | ((with_reducible apply wpM_box' M 32 (sqs (n : Int) t)); rfl; exact ⟨rfl, rfl⟩; clear M; (try clear C); intro bq w9 h_bq M; have C := M.ruleAll; simp only [Go.Proofs.YteonahoboligdaaDoor.ruleAll] at C))
  go_loopw [1, 5, 16, 7, 23, 9] (fun s _ _ _ _ _ wr => ∃ s' : Nat, s = .int .i64 (s' : Int) ∧ Hid2 (Beg t m s') ∧ Mm no w wr [.box bq (sqs (n : Int) t) 32]) (fun s _ _ _ _ _ _ => 1024 - (intOf s).toNat)
  case atStart => exact ⟨m ||| 1, by first | rfl | exact congrArg (Value.int .i64) hor1, HB0, M⟩
  case round =>
    clear hor1 HB0
    obtain ⟨s, rfl, HB, M9⟩ := hrel
    clear M; (try clear C)
    have M := M9
    clear M9
    have C := M.ruleAll; simp only [Go.Proofs.YteonahoboligdaaDoor.ruleAll] at C
    have hs10 := HB.out.lt
    have hs10' : (s : Int) < 1024 := by omega
    have HV0 := Hid2.mk (Vis.start (n := n) (t := t) (m := m) hs10 HB.out.gen)
    go_wp2_with (first | ((with_reducible apply wpM_lda' M 0 32 0 (sqs (n : Int) t)); rfl; rfl; rfl; exact ⟨rfl, inf_sqs.trans (congrArg some (sqs_size ..).symm), _, und_sqs, rfl⟩; exact whole_of rfl) | (go_at_call 43; ((with_reducible refine (elements_any _ _ _ (by omega) (by omega)).mono ?_); rintro e w1 ⟨g1, cap_g1, rfl, hb, hg, hr⟩; have hsz := M.size; have M9 := M.gain hb (x := .rd g1 n (fun j => .int .u8 (j : Int))) hr (fun b h => by cases h; exact hg); clear M; (try clear C); have M := M9; clear M9; (try simp only [List.set_cons_zero, List.set_cons_succ] at M); have C := M.ruleAll; simp only [Go.Proofs.YteonahoboligdaaDoor.ruleAll] at C; clear hb hg hr)))
    go_loopw [5, 16, 7, 23, 9] (fun nx i _ _ _ wr => ∃ (nx' k : Nat), k ≤ n ∧ nx = .int .i64 (nx' : Int) ∧ i = .int .i64 (k : Int) ∧ Hid2 (Vis n t m s nx' k 0) ∧ Mm no w wr [.rd g1 n (fun j => .int .u8 (j : Int)), .box bq (sqs (n : Int) t) 32]) (fun _ i _ _ _ _ => n - (intOf i).toNat)
    case atStart => exact ⟨s, 0, by omega, rfl, rfl, HV0, M⟩
    case round =>
      clear HV0
      obtain ⟨nx, k, hk, rfl, rfl, HV, M9⟩ := hrel
      clear M; (try clear C)
      have M := M9
      clear M9
      have C := M.ruleAll; simp only [Go.Proofs.YteonahoboligdaaDoor.ruleAll] at C
      have hx10 := HV.out.lt
      have hx10' : (nx : Int) < 1024 := by omega
      by_cases hlt : k < n
      · have hlt' : (k : Int) < (n : Int) := by omega
        have hk10 : (k : Int) < 10 := by omega
        have dlt : decide ((k : Int) < (n : Int)) = true := decide_eq_true hlt'
        go_wp2_with (first | ((with_reducible apply wpM_lda' M 1 32 0 (sqs (n : Int) t)); rfl; rfl; rfl; exact ⟨rfl, inf_sqs.trans (congrArg some (sqs_size ..).symm), _, und_sqs, rfl⟩; exact whole_of rfl) | (go_at_call 43; ((with_reducible refine (elements_any _ _ _ (by omega) (by omega)).mono ?_); rintro e w1 ⟨g2, cap_g2, rfl, hb, hg, hr⟩; have hsz := M.size; have M9 := M.gain hb (x := .rd g2 n (fun j => .int .u8 (j : Int))) hr (fun b h => by cases h; exact hg); clear M; (try clear C); have M := M9; clear M9; (try simp only [List.set_cons_zero, List.set_cons_succ] at M); have C := M.ruleAll; simp only [Go.Proofs.YteonahoboligdaaDoor.ruleAll] at C; clear hb hg hr)))
        clear dlt
        go_loopw [5, 23, 9] (fun nx j _ wr => ∃ (nx' l : Nat), l ≤ n ∧ nx = .int .i64 (nx' : Int) ∧ j = .int .i64 (l : Int) ∧ Hid2 (Vis n t m s nx' k l) ∧ Mm no w wr [.rd g2 n (fun j => .int .u8 (j : Int)), .rd g1 n (fun j => .int .u8 (j : Int)), .box bq (sqs (n : Int) t) 32]) (fun _ j _ _ => n - (intOf j).toNat)
        case atStart => exact ⟨nx, 0, by omega, rfl, rfl, HV, M⟩
        case round =>
          clear HV hx10 hx10'
          obtain ⟨nx, l, hl, rfl, rfl, HV, M9⟩ := hrel
          clear M; (try clear C)
          have M := M9
          clear M9
          have C := M.ruleAll; simp only [Go.Proofs.YteonahoboligdaaDoor.ruleAll] at C
          have hx10 := HV.out.lt
          have hx10' : (nx : Int) < 1024 := by omega
          by_cases hl2 : l < n
          · have hl2' : (l : Int) < (n : Int) := by omega
            have hl10 : (l : Int) < 10 := by omega
            have dlt : decide ((l : Int) < (n : Int)) = true := decide_eq_true hl2'
            have H1 := Hid2.mk (fun w1 => has_any s k hs10 (by omega) w1)
            have H2 := Hid2.mk (fun w1 => has_any s l hs10 (by omega) w1)
            cases hb1 : s.testBit k with
            | false =>
              have HVN := Hid2.mk (HV.out.skip (fun h => by rw [hb1] at h; cases h.1))
              rw [hb1] at H1
              clear hb1
              go_wp2_with (first | (go_at_call 62; ((with_reducible refine (H1.out _).mono ?_); rintro e w1 ⟨rfl, rfl⟩)))
              go_roundw
              case rel => exact ⟨nx, l + 1, by omega, rfl, by go_num, HVN, M⟩
              case measure => simp [intOf]; omega
            | true =>
              cases hb2 : s.testBit l with
              | false =>
                have HVN := Hid2.mk (HV.out.skip (fun h => by rw [hb2] at h; cases h.2))
                rw [hb1] at H1
                rw [hb2] at H2
                clear hb1 hb2
                go_wp2_with (first | (go_at_call 62; (first | ((with_reducible refine (H1.out _).mono ?_); rintro e w1 ⟨rfl, rfl⟩) | ((with_reducible refine (H2.out _).mono ?_); rintro e w1 ⟨rfl, rfl⟩))))
                go_roundw
                case rel => exact ⟨nx, l + 1, by omega, rfl, by go_num, HVN, M⟩
                case measure => simp [intOf]; omega
              | true =>
                have HVN := Hid2.mk (HA.out s nx k l HV.out hlt hl2 hb1 hb2)
                rw [hb1] at H1
                rw [hb2] at H2
                clear hb1 hb2
                have ht1 := HT.out k l hlt hl2
                have hl1 := HL1.out k l hlt hl2
                have hr1 := HR1.out k l hlt hl2
                have HLC := Hid2.mk (HL.out k l hlt hl2)
                have HRC := Hid2.mk (HR.out k l hlt hl2)
                have q1 := sqs_get (n := (n : Int)) (t := t) (x := k) (y := l) (by omega) (by omega)
                have hor := bits_or3 (s := nx) (u := t k l) (v := lq t k l) (z := lq (fun x y => t y x) l k) hx10 (by omega) (by omega) (by omega)
                generalize (nx ||| (2 ^ t k l ||| 2 ^ lq t k l ||| 2 ^ lq (fun x y => t y x) l k)) = nx2 at *
                generalize t k l = tv at *
                generalize lq t k l = lv at *
                generalize lq (fun x y => t y x) l k = rv at *
                have htv : (tv : Int) < 10 := by omega
                have hlv : (lv : Int) < 10 := by omega
                have hrv : (rv : Int) < 10 := by omega
                have HOR := Hid2.mk hor
                clear hor
                go_wp2_with (first | (go_at_call 62; (first | ((with_reducible refine (H1.out _).mono ?_); rintro e w1 ⟨rfl, rfl⟩) | ((with_reducible refine (H2.out _).mono ?_); rintro e w1 ⟨rfl, rfl⟩))))
                apply wp_region_mm M 20 (by kernel_rfl) (by kernel_rfl); (simp only [List.take_succ_cons, List.take_zero]; repeat (first | exact wpText_nil | (apply wpText_cons; (intro w2 M; have C := M.ruleAll; simp only [Go.Proofs.YteonahoboligdaaDoor.ruleAll] at C; go_wp2_with (first | ((with_reducible apply wpM_lda' M 2 32 0 (sqs (n : Int) t)); rfl; rfl; rfl; exact ⟨rfl, inf_sqs.trans (congrArg some (sqs_size ..).symm), _, und_sqs, rfl⟩; exact whole_of rfl) | (go_at_call 63; ((with_reducible refine (HLC.out _).mono ?_); rintro e w1 ⟨rfl, hb⟩; have hsz := M.size; (try (have G9 := G.later hb; clear G; have G := G9; clear G9)); have M9 := M.later hb; clear M; (try clear C); have M := M9; clear M9; have C := M.ruleAll; simp only [Go.Proofs.YteonahoboligdaaDoor.ruleAll] at C)) | (go_at_call 64; ((with_reducible refine (HRC.out _).mono ?_); rintro e w1 ⟨rfl, hb⟩; have hsz := M.size; (try (have G9 := G.later hb; clear G; have G := G9; clear G9)); have M9 := M.later hb; clear M; (try clear C); have M := M9; clear M9; have C := M.ruleAll; simp only [Go.Proofs.YteonahoboligdaaDoor.ruleAll] at C))); exact ⟨rfl, rfl, M⟩); rfl))); (clear M; (try clear C); intro w2 M; simp only [List.drop_succ_cons, List.drop_zero]; have C := M.ruleAll; simp only [Go.Proofs.YteonahoboligdaaDoor.ruleAll] at C)
                go_wp2
                go_roundw
                case rel => exact ⟨nx2, l + 1, by omega, by first | rfl | exact congrArg (Value.int .i64) HOR.out, by go_num, HVN, M⟩
                case measure => simp [intOf]; omega
          · obtain rfl : l = n := by omega
            have hge : ¬ ((l : Int) < (l : Int)) := by omega
            have HVN := Hid2.mk HV.out.next
            go_wp2
            go_roundw
            case rel => exact ⟨nx, k + 1, by omega, rfl, by go_num, HVN, M.sub [1, 2] (by decide)⟩
            case measure => simp [intOf]; omega
      · obtain rfl : k = n := by omega
        have hge : ¬ ((k : Int) < (k : Int)) := by omega
        by_cases e : nx = s
        · subst e
          have HE := Hid2.mk (HD.out nx HB.out HV.out)
          have hd : ((nx : Int) == (nx : Int)) = true := by simp
          go_wp2
          go_ret
          exact ⟨by rw [← HE.out]; rfl, M.below⟩
        · have hd : ((nx : Int) == (s : Int)) = false := neqI e
          have HE := Hid2.mk (HV.out.more HB.out e)
          have hlt2 := HE.out.2
          go_wp2
          go_roundw
          case rel => exact ⟨nx, rfl, ⟨HE.out.1⟩, M.sub [1] (by decide)⟩
          case measure => simp [intOf]; omega

set_option maxRecDepth 100000 in
set_option maxHeartbeats 1000000 in
theorem isSubloop_any (n : Nat) (t : Nat → Nat → Nat) (hs : IsSq (n : Int) t) (m : Nat) (hml : m < 1024) (hm : ∀ i, m.testBit i = true → i < n) (w : World) :
    Calls Tryd.prog 23 #[.agg (sqs (n : Int) t), .int .i64 (m : Int)] w fun e w' => e = .returned (.bool (genM t m == m)) ∧ Below w.heap.size w w' := by
  have M := Mm.start no w
  have H1 := Hid2.mk (fun w1 => generated_any n t hs m hml hm w1)
  have h1 := genM_lt t m
  have hr : ((genM t m : Int) == (m : Int)) = (genM t m == m) := by rw [Bool.eq_iff_iff]; simp; omega
  generalize genM t m = r at *
  have hml' : (m : Int) < 1024 := by omega
  have h1' : (r : Int) < 1024 := by omega
  clear hs hm
  generalize hc : (r == m) = c at *
  clear hc
  go_enter Tryd.func23, Tryd.ntmps23
  go_wp2_with (first | ((with_reducible apply wpM_box' M 32 (sqs (n : Int) t)); rfl; exact ⟨rfl, rfl⟩; clear M; (try clear C); intro bq w9 h_bq M; have C := M.ruleAll; simp only [Go.Proofs.YteonahoboligdaaDoor.ruleAll] at C) | ((with_reducible apply wpM_lda' M 0 32 0 (sqs (n : Int) t)); rfl; rfl; rfl; exact ⟨rfl, inf_sqs.trans (congrArg some (sqs_size ..).symm), _, und_sqs, rfl⟩; exact whole_of rfl) | (go_at_call 42; ((with_reducible refine (H1.out _).mono ?_); rintro e w1 ⟨rfl, hb⟩; have hsz := M.size; (try (have G9 := G.later hb; clear G; have G := G9; clear G9)); have M9 := M.later hb; clear M; (try clear C); have M := M9; clear M9; have C := M.ruleAll; simp only [Go.Proofs.YteonahoboligdaaDoor.ruleAll] at C)))
  go_ret
  exact ⟨rfl, M.below⟩
end Go.Proofs.YteonahoboligdaaDoor
