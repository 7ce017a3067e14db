/- The classes of the least congruence, as the reference makes them: a contract. -/
import Derived.Test.YteonahoboligdaaDoorG16
import Derived.Test.YteonahoboligdaaDoorG3
import Derived.Test.YteonahoboligdaaDoorG5
import Derived.Test.YteonahoboligdaaDoorG8
namespace Go.Proofs.YteonahoboligdaaDoor
set_option linter.unusedSimpArgs false
set_option linter.unusedVariables false
open Go Go.RowKit

/-- The cells of ten numbers. -/
def n10 (f : Nat → Nat) : Array Value := tab 10 fun i => .int .i64 (f i : Nat)
theorem n10_size (f : Nat → Nat) : (n10 f).size = 10 := tab_size _ _
theorem n10_get {f : Nat → Nat} {i : Nat} (h : i < 10) : (n10 f)[i]? = some (.int .i64 (f i : Nat)) := tab_get h
theorem n10_set (f : Nat → Nat) (i v : Nat) : (n10 f).setIfInBounds i (.int .i64 (v : Nat)) = n10 (fun j => if j = i then v else f j) := by
  unfold n10; rw [tab_set]; exact tab_ext fun j _ => by dsimp only; split <;> rfl
theorem flat_n10 (f : Nat → Nat) : flat (n10 f) := flat_tab fun _ _ => rfl
theorem zero_i10 (w : World) : (zeroValue 63).run Tryd.prog w = .ok (.agg (n10 fun _ => 0)) w := by kernel_rfl
theorem und_i10 : Tryd.prog.underlying 63 = some (.array 10 2) := by kernel_rfl
theorem inf_i10 : (Tryd.prog.info? 63).map (·.size) = some 10 := by kernel_rfl
theorem build_i10 (w : World) : (Instr.build 63 #[]).run Tryd.prog w = .ok (.agg (n10 fun _ => 0)) w := by kernel_rfl
/-- The cells of a pair. -/
def pr2 (p : Nat × Nat) : Array Value := #[.int .i64 (p.1 : Int), .int .i64 (p.2 : Int)]
theorem pr2_size (p : Nat × Nat) : (pr2 p).size = 2 := rfl
theorem und_slp2 : Tryd.prog.underlying 78 = some (.slice 79) := by kernel_rfl
theorem inf_elp2 : (Tryd.prog.info? 79).map (fun i => (i.zero, i.size, i.bytes)) = some (some (.agg #[.int .i64 0, .int .i64 0]), 2, 16) := by kernel_rfl
theorem bsl_p0 (w : World) : (Instr.buildSlice 78 0 [].toArray).run Tryd.prog w = .ok (.slice (some ⟨w.heap.size, 0, none⟩) 0 0) (w.alloc (.cells #[] 79)) := by kernel_rfl
theorem bsl_p1 (p : Nat × Nat) (w : World) : (Instr.buildSlice 78 1 [(0, Value.agg (pr2 p))].toArray).run Tryd.prog w = .ok (.slice (some ⟨w.heap.size, 0, none⟩) 1 1) (w.alloc (.cells (pr2 p) 79)) := by kernel_rfl
theorem bsl_p2 (p q : Nat × Nat) (w : World) : (Instr.buildSlice 78 2 [(0, Value.agg (pr2 p)), (1, Value.agg (pr2 q))].toArray).run Tryd.prog w = .ok (.slice (some ⟨w.heap.size, 0, none⟩) 2 2) (w.alloc (.cells (pr2 p ++ pr2 q) 79)) := by kernel_rfl
theorem flat_pr2 (p : Nat × Nat) : flat (pr2 p) := by
  intro v hv
  simp only [pr2, List.mem_cons, List.not_mem_nil, or_false] at hv
  rcases hv with rfl | rfl <;> rfl
theorem flat_pp (p q : Nat × Nat) : flat (pr2 p ++ pr2 q) := by
  intro v hv
  rw [Array.toList_append, List.mem_append] at hv
  rcases hv with h | h
  · exact flat_pr2 p v h
  · exact flat_pr2 q v h
theorem size_pp (p q : Nat × Nat) : (pr2 p ++ pr2 q).size = 2 * 2 := rfl
theorem rowC_p1 (l : List (Nat × Nat)) (p : Nat × Nat) : rowC pr2 (l ++ [p]) = rowC pr2 l ++ (pr2 p).toList := by simp [rowC]
theorem rowC_p2 (l : List (Nat × Nat)) (p q : Nat × Nat) : rowC pr2 (l ++ [p, q]) = rowC pr2 l ++ (pr2 p ++ pr2 q).toList := by simp [rowC]
theorem build_p2 (x y : Nat) (w : World) : (Instr.build 79 #[(0, Value.int .i64 (x : Int)), (1, Value.int .i64 (y : Int))]).run Tryd.prog w = .ok (.agg (pr2 (x, y))) w := by kernel_rfl

/-! ### The classes, in plain Lean -/
/-- What pairs bring together. -/
inductive Eqv (Ps : List (Nat × Nat)) : Nat → Nat → Prop
  | pair {x y} : (x, y) ∈ Ps → Eqv Ps x y
  | refl (x) : Eqv Ps x x
  | symm {x y} : Eqv Ps x y → Eqv Ps y x
  | trans {x y z} : Eqv Ps x y → Eqv Ps y z → Eqv Ps x z
theorem Eqv.mono {Ps Qs : List (Nat × Nat)} (h : ∀ p ∈ Ps, p ∈ Qs) {x y : Nat} (e : Eqv Ps x y) : Eqv Qs x y := by
  induction e with
  | pair hp => exact .pair (h _ hp)
  | refl x => exact .refl x
  | symm _ ih => exact ih.symm
  | trans _ _ h1 h2 => exact h1.trans h2
theorem Eqv.ker {Ps : List (Nat × Nat)} {f : Nat → Nat} (h : ∀ p ∈ Ps, f p.1 = f p.2) {x y : Nat} (e : Eqv Ps x y) : f x = f y := by
  induction e with
  | pair hp => exact h _ hp
  | refl x => rfl
  | symm _ ih => exact ih.symm
  | trans _ _ h1 h2 => exact h1.trans h2
/-- The translations of a pair. -/
def trP (t : Nat → Nat → Nat) (x y : Nat) : Nat → List (Nat × Nat)
  | 0 => []
  | l + 1 => trP t x y l ++ [(t x l, t y l), (t l x, t l y)]
theorem trP_len (t : Nat → Nat → Nat) (x y : Nat) : ∀ l, (trP t x y l).length = 2 * l
  | 0 => rfl
  | l + 1 => by rw [trP, List.length_append, trP_len t x y l]; simp only [List.length_cons, List.length_nil]; omega
theorem trP_mem {t : Nat → Nat → Nat} {x y : Nat} {p : Nat × Nat} : ∀ {l : Nat}, p ∈ trP t x y l ↔ ∃ i, i < l ∧ (p = (t x i, t y i) ∨ p = (t i x, t i y))
  | 0 => by simp [trP]
  | l + 1 => by
    rw [trP, List.mem_append, trP_mem]
    constructor
    · rintro (⟨i, hi, h⟩ | h)
      · exact ⟨i, by omega, h⟩
      · exact ⟨l, by omega, by simpa using h⟩
    · rintro ⟨i, hi, h⟩
      by_cases e : i = l
      · subst e; exact .inr (by simpa using h)
      · exact .inl ⟨i, by omega, h⟩
/-- Two classes made one, below l. -/
def mrg (f : Nat → Nat) (a b l : Nat) : Nat → Nat := fun j => if j < l ∧ f j = b then a else f j
theorem mrg_zero (f : Nat → Nat) (a b : Nat) : n10 (mrg f a b 0) = n10 f := by unfold mrg; simp
theorem mrg_hit {f : Nat → Nat} {a b l : Nat} (h : f l = b) : (n10 (mrg f a b l)).setIfInBounds l (.int .i64 (a : Nat)) = n10 (mrg f a b (l + 1)) := by
  rw [n10_set]
  congr 1
  funext j
  unfold mrg
  by_cases e : j = l
  · subst e; rw [if_pos rfl, if_pos ⟨by omega, h⟩]
  · rw [if_neg e]
    by_cases e2 : j < l ∧ f j = b
    · rw [if_pos e2, if_pos ⟨by omega, e2.2⟩]
    · rw [if_neg e2, if_neg fun h => e2 ⟨by omega, h.2⟩]
theorem mrg_miss {f : Nat → Nat} {a b l : Nat} (h : f l ≠ b) : mrg f a b (l + 1) = mrg f a b l := by
  funext j
  unfold mrg
  by_cases e : j = l
  · subst e; rw [if_neg fun h2 => h h2.2, if_neg fun h2 => h h2.2]
  · by_cases e2 : j < l ∧ f j = b
    · rw [if_pos e2, if_pos ⟨by omega, e2.2⟩]
    · rw [if_neg e2, if_neg fun h => e2 ⟨by omega, h.2⟩]
theorem mrg_self (f : Nat → Nat) (a b l : Nat) : mrg f a b l l = f l := by unfold mrg; rw [if_neg fun h => absurd h.1 (Nat.lt_irrefl _)]
theorem mrg_at {f : Nat → Nat} {a b l j : Nat} (h : j < l) : mrg f a b l j = if f j = b then a else f j := by
  unfold mrg
  by_cases e : f j = b
  · rw [if_pos ⟨h, e⟩, if_pos e]
  · rw [if_neg fun h => e h.2, if_neg e]
def idc (k : Nat) : Nat → Nat := fun i => if i < k then i else 0
theorem idc_set (k : Nat) : (n10 (idc k)).setIfInBounds k (.int .i64 (k : Nat)) = n10 (idc (k + 1)) := by
  rw [n10_set]
  congr 1
  funext j
  unfold idc
  by_cases e : j = k
  · subst e; rw [if_pos rfl, if_pos (by omega)]
  · rw [if_neg e]
    by_cases e2 : j < k
    · rw [if_pos e2, if_pos (by omega)]
    · rw [if_neg e2, if_neg (by omega)]
theorem idc_zero : n10 (idc 0) = n10 fun _ => 0 := by unfold idc; simp

/-- The first k pairs have been brought together. -/
structure Cls (n : Nat) (t : Nat → Nat → Nat) (m len0 : Nat) (f : Nat → Nat) (Ps : List (Nat × Nat)) (k : Nat) : Prop where
  lt : ∀ x, f x < n
  idem : ∀ x, x < n → f (f x) = f x
  sound : ∀ x y, x < n → y < n → f x = f y → Cng n t m x y
  pairs : ∀ p ∈ Ps, Cng n t m p.1 p.2
  base : ∀ i, m.testBit i = true → (0, i) ∈ Ps
  kl : k ≤ Ps.length
  done : ∀ j p, j < k → Ps[j]? = some p → f p.1 = f p.2
  comp : ∀ x y i, x < n → y < n → i < n → f x = f y → Eqv Ps (t x i) (t y i) ∧ Eqv Ps (t i x) (t i y)
  len : Ps.length + 2 * n * cn n (fun i => f i == i) ≤ len0 + 2 * n * n
section
variable {n : Nat} {t : Nat → Nat → Nat} (hl : Loo n t) {m : Nat} (hm : ∀ i, m.testBit i = true → i < n)
include hl hm
omit hm in
theorem Cls.start {Ps : List (Nat × Nat)} (h1 : ∀ p ∈ Ps, Cng n t m p.1 p.2) (h2 : ∀ i, m.testBit i = true → (0, i) ∈ Ps) : Cls n t m Ps.length (idc n) Ps 0 := by
  have h0 := hl.pos
  have ha : ∀ x, x < n → idc n x = x := fun x hx => if_pos hx
  refine ⟨fun x => ?_, fun x hx => by rw [ha x hx, ha x hx], fun x y hx hy e => ?_, h1, h2, Nat.zero_le _, fun j p h => by omega, fun x y i hx hy hi e => ?_, ?_⟩
  · unfold idc; split <;> omega
  · rw [ha x hx, ha y hy] at e; subst e; exact .refl x hx
  · rw [ha x hx, ha y hy] at e; subst e; exact ⟨.refl _, .refl _⟩
  · have := Nat.mul_le_mul (Nat.le_refl (2 * n)) (cn_le n fun i => idc n i == i); omega
omit hl hm in
theorem Cls.hit {len0 : Nat} {f : Nat → Nat} {Ps : List (Nat × Nat)} {k : Nat} (V : Cls n t m len0 f Ps k) {p : Nat × Nat} (hp : Ps[k]? = some p) (h : f p.1 = f p.2) : Cls n t m len0 f Ps (k + 1) :=
  ⟨V.lt, V.idem, V.sound, V.pairs, V.base, (List.getElem?_eq_some_iff.1 hp).1, fun j q hj hq => by
    by_cases e : j = k
    · subst e; rw [hp] at hq; cases hq; exact h
    · exact V.done j q (by omega) hq, V.comp, V.len⟩
theorem Cls.range {len0 : Nat} {f : Nat → Nat} {Ps : List (Nat × Nat)} {k : Nat} (V : Cls n t m len0 f Ps k) {p : Nat × Nat} (hp : Ps[k]? = some p) : p.1 < n ∧ p.2 < n := Cng.lt hl hm (V.pairs p (List.mem_of_getElem? hp))
omit hl hm in
theorem cn_less {p q : Nat → Bool} {b : Nat} : ∀ {N : Nat}, (∀ i, i < N → q i = true → p i = true) → cn N q ≤ cn N p ∧ (b < N → p b = true → q b = false → cn N q + 1 ≤ cn N p)
  | 0, _ => ⟨Nat.le_refl _, fun h => by omega⟩
  | N + 1, h => by
    obtain ⟨h1, h2⟩ := cn_less (p := p) (q := q) (b := b) (N := N) fun i hi => h i (by omega)
    have hN := h N (by omega)
    rw [cn_succ, cn_succ]
    refine ⟨?_, fun hb hpb hqb => ?_⟩
    · by_cases e : q N = true
      · rw [if_pos e, if_pos (hN e)]; omega
      · rw [if_neg e]; omega
    · by_cases e : b = N
      · subst e; rw [hpb, hqb]; simp; omega
      · have h3 := h2 (by omega) hpb hqb
        by_cases e : q N = true
        · rw [if_pos e, if_pos (hN e)]; omega
        · rw [if_neg e]; omega
theorem Cls.merge {len0 : Nat} {f : Nat → Nat} {Ps : List (Nat × Nat)} {k : Nat} (V : Cls n t m len0 f Ps k) {p : Nat × Nat} (hp : Ps[k]? = some p) (h : f p.1 ≠ f p.2) : Cls n t m len0 (mrg f (f p.1) (f p.2) n) (Ps ++ trP t p.1 p.2 n) (k + 1) := by
  obtain ⟨hx, hy⟩ := V.range hl hm hp
  have hpm := List.mem_of_getElem? hp
  have hc := V.pairs p hpm
  obtain ⟨x, y⟩ := p
  simp only at *
  have hat : ∀ j, j < n → mrg f (f x) (f y) n j = if f j = f y then f x else f j := fun j hj => mrg_at hj
  have hkl := (List.getElem?_eq_some_iff.1 hp).1
  have hmono : ∀ q ∈ Ps, q ∈ Ps ++ trP t x y n := fun q hq => List.mem_append_left _ hq
  have hxy : ∀ i, i < n → Eqv (Ps ++ trP t x y n) (t x i) (t y i) ∧ Eqv (Ps ++ trP t x y n) (t i x) (t i y) := fun i hi =>
    ⟨.pair (List.mem_append_right _ (trP_mem.2 ⟨i, hi, .inl rfl⟩)), .pair (List.mem_append_right _ (trP_mem.2 ⟨i, hi, .inr rfl⟩))⟩
  have hold : ∀ u v i, u < n → v < n → i < n → f u = f v → Eqv (Ps ++ trP t x y n) (t u i) (t v i) ∧ Eqv (Ps ++ trP t x y n) (t i u) (t i v) := fun u v i hu hv hi e =>
    ⟨(V.comp u v i hu hv hi e).1.mono hmono, (V.comp u v i hu hv hi e).2.mono hmono⟩
  refine ⟨fun j => ?_, fun j hj => ?_, fun u v hu hv e => ?_, fun q hq => ?_, fun i hi => hmono _ (V.base i hi), by rw [List.length_append]; omega, fun j q hj hq => ?_, fun u v i hu hv hi e => ?_, ?_⟩
  · unfold mrg
    split
    · exact V.lt x
    · exact V.lt j
  · rw [hat j hj]
    split
    · rw [hat _ (V.lt x), V.idem x hx, if_neg h]
    · rename_i hn
      rw [hat _ (V.lt j), V.idem j hj, if_neg hn]
  · rw [hat u hu, hat v hv] at e
    have key : ∀ z, z < n → f z = f y → Cng n t m z x := fun z hz hz2 => (V.sound z y hz hy hz2).trans hc.symm
    split at e
    · rename_i h1
      split at e
      · rename_i h2
        exact (key u hu h1).trans (key v hv h2).symm
      · exact (key u hu h1).trans (V.sound x v hx hv e)
    · split at e
      · rename_i h2
        exact (V.sound u x hu hx e).trans (key v hv h2).symm
      · exact V.sound u v hu hv e
  · rcases List.mem_append.1 hq with hq | hq
    · exact V.pairs q hq
    · obtain ⟨i, hi, rfl | rfl⟩ := trP_mem.1 hq
      · exact hc.mulR i hi
      · exact hc.mulL i hi
  · rw [List.getElem?_append_left (by omega)] at hq
    obtain ⟨h1, h2⟩ := Cng.lt hl hm (V.pairs q (List.mem_of_getElem? hq))
    rw [hat _ h1, hat _ h2]
    by_cases e : j = k
    · subst e
      rw [hp] at hq; cases hq
      rw [if_neg h, if_pos rfl]
    · rw [V.done j q (by omega) hq]
  · rw [hat u hu, hat v hv] at e
    have key : ∀ z, z < n → f z = f y → Eqv (Ps ++ trP t x y n) (t z i) (t x i) ∧ Eqv (Ps ++ trP t x y n) (t i z) (t i x) := fun z hz hz2 =>
      ⟨(hold z y i hz hy hi hz2).1.trans (hxy i hi).1.symm, (hold z y i hz hy hi hz2).2.trans (hxy i hi).2.symm⟩
    split at e
    · rename_i h1
      split at e
      · rename_i h2
        exact ⟨(key u hu h1).1.trans (key v hv h2).1.symm, (key u hu h1).2.trans (key v hv h2).2.symm⟩
      · exact ⟨(key u hu h1).1.trans (hold x v i hx hv hi e).1, (key u hu h1).2.trans (hold x v i hx hv hi e).2⟩
    · split at e
      · rename_i h2
        exact ⟨(hold u x i hu hx hi e).1.trans (key v hv h2).1.symm, (hold u x i hu hx hi e).2.trans (key v hv h2).2.symm⟩
      · exact hold u v i hu hv hi e
  · have h1 := (cn_less (p := fun i => f i == i) (q := fun i => mrg f (f x) (f y) n i == i) (b := f y) (N := n) (fun i hi hq => by
      rw [beq_iff_eq] at hq ⊢
      rw [hat i hi] at hq
      split at hq
      · rename_i h2
        subst hq
        rw [V.idem x hx] at h2; exact absurd h2 h
      · exact hq)).2 (V.lt y) (by rw [beq_iff_eq]; exact V.idem y hy) (by
      rw [beq_eq_false_iff_ne, hat _ (V.lt y), V.idem y hy, if_pos rfl]; exact h)
    have h2 := Nat.mul_le_mul (Nat.le_refl (2 * n)) h1
    have h3 := V.len
    rw [List.length_append, trP_len]
    rw [Nat.mul_add, Nat.mul_one] at h2
    omega
theorem Cls.end_ {len0 : Nat} {f : Nat → Nat} {Ps : List (Nat × Nat)} (V : Cls n t m len0 f Ps Ps.length) (x y : Nat) (hx : x < n) (hy : y < n) : f x = f y ↔ Cng n t m x y := by
  have hker : ∀ p ∈ Ps, f p.1 = f p.2 := fun p hp => by
    obtain ⟨j, hj⟩ := List.getElem?_of_mem hp
    exact V.done j p (List.getElem?_eq_some_iff.1 hj).1 hj
  refine ⟨V.sound x y hx hy, fun h => ?_⟩
  clear hx hy
  induction h with
  | base i h => exact hker _ (V.base i h)
  | refl x _ => rfl
  | symm _ ih => exact ih.symm
  | trans _ _ h1 h2 => exact h1.trans h2
  | mulR i hi hc ih => obtain ⟨h1, h2⟩ := Cng.lt hl hm hc; exact (V.comp _ _ i h1 h2 hi ih).1.ker hker
  | mulL i hi hc ih => obtain ⟨h1, h2⟩ := Cng.lt hl hm hc; exact (V.comp _ _ i h1 h2 hi ih).2.ker hker
end
end Go.Proofs.YteonahoboligdaaDoor

/- The classes of the least congruence: the walk of the reference. -/
namespace Go.Proofs.YteonahoboligdaaDoor
set_option linter.unusedSimpArgs false
set_option linter.unusedVariables false
open Go Go.RowKit

/-- A row that is not empty is read, its cells told by a function. -/
theorem Mm.rowRdF {D : Nat → Prop} {w0 w : World} {L : List Ent} (M : Mm D w0 w L) (i : Nat) {B n e size : Nat} {v : Value} {xs : List Value} (hi : L[i]? = some (.row B v n xs e size)) (hn : 0 < n * size) (f : Nat → Value) (hf : ∀ j, xs.getD j undef = f j) :
    ∃ g cap, v = .slice (some ⟨g, 0, none⟩) n cap ∧ Mm D w0 w (L.set i (.rd g (n * size) f)) := by
  obtain ⟨g, cap, e, _, M9⟩ := M.rowRdS i hi hn
  refine ⟨g, cap, e, ?_⟩
  rwa [show (fun j => xs.getD j undef) = f from funext hf] at M9
theorem pr2_at {Ps : List (Nat × Nat)} {k : Nat} {p : Nat × Nat} (h : Ps[k]? = some p) : (rowC pr2 Ps).getD (k * 2) undef = .int .i64 (p.1 : Int) ∧ (rowC pr2 Ps).getD (k * 2 + 1) undef = .int .i64 (p.2 : Int) := by
  obtain ⟨hk, rfl⟩ := List.getElem?_eq_some_iff.1 h
  have h0 := rowC_get pr2_size Ps hk (j := 0) (by decide)
  have h1 := rowC_get pr2_size Ps hk (j := 1) (by decide)
  rw [Nat.add_zero] at h0
  rw [List.getD_eq_getElem?_getD, List.getD_eq_getElem?_getD, h0, h1]
  exact ⟨rfl, rfl⟩
/-- What the classes are. -/
def ClPost (n : Nat) (t : Nat → Nat → Nat) (m : Nat) (w0 : World) (e : Ending) (w' : World) : Prop :=
  ∃ f : Nat → Nat, e = .returned (.agg (n10 f)) ∧ (∀ x, f x < n) ∧ (∀ x y, x < n → y < n → (f x = f y ↔ Cng n t m x y)) ∧ Below w0.heap.size w0 w'
theorem ClPost.mk {n : Nat} {t : Nat → Nat → Nat} {m : Nat} {w0 w' : World} {f : Nat → Nat} (h : (∀ x, f x < n) ∧ ∀ x y, x < n → y < n → (f x = f y ↔ Cng n t m x y)) (hb : Below w0.heap.size w0 w') : ClPost n t m w0 (.returned (.agg (n10 f))) w' := ⟨f, rfl, h.1, h.2, hb⟩

set_option maxRecDepth 100000 in
set_option maxHeartbeats 8000000 in
theorem l06Classes_any (n : Nat) (t : Nat → Nat → Nat) (hl : Loo n t) (m : Nat) (hm : ∀ i, m.testBit i = true → i < n) (Ps : List (Nat × Nat)) (hlen : Ps.length ≤ 20) (h1 : ∀ p ∈ Ps, Cng n t m p.1 p.2) (h2 : ∀ i, m.testBit i = true → (0, i) ∈ Ps) (w0 w : World) (v : Value)
    (M0 : Mm no w0 w [.row w0.heap.size v Ps.length (rowC pr2 Ps) 79 2]) :
    Calls Tryd.prog 52 #[.agg (sqs (n : Int) t), v] w (ClPost n t m w0) := by
  have M := M0
  have hs := hl.sq
  have hn : n ≤ 10 := by have := hs.hi; omega
  have h1n : (1 : Int) ≤ n := hs.lo
  have hn' : (n : Int) ≤ 10 := by omega
  obtain ⟨pp, cap, rfl⟩ := own_form (M.row 0 rfl)
  have HC0 := Hid2.mk (Cls.start hl (m := m) h1 h2)
  have HHIT := Hid2.mk (fun f Qs k p (V : Cls n t m Ps.length f Qs k) (hp : Qs[k]? = some p) (h : f p.1 = f p.2) => V.hit hp h)
  have HMER := Hid2.mk (fun f Qs k p (V : Cls n t m Ps.length f Qs k) (hp : Qs[k]? = some p) (h : f p.1 ≠ f p.2) => V.merge hl hm hp h)
  have HRAN := Hid2.mk (fun f Qs k p (V : Cls n t m Ps.length f Qs k) (hp : Qs[k]? = some p) => V.range hl hm hp)
  have HEND := Hid2.mk (fun f Qs (V : Cls n t m Ps.length f Qs Qs.length) => (⟨V.lt, fun x y hx hy => V.end_ hl hm x y hx hy⟩ : (∀ x, f x < n) ∧ ∀ x y, x < n → y < n → (f x = f y ↔ Cng n t m x y)))
  have HLT := Hid2.mk (fun x y (hx : x < n) (hy : y < n) => hl.lt hx hy)
  have HNN : 2 * n * n ≤ 200 := Nat.mul_le_mul (show 2 * n ≤ 20 by omega) hn
  have so := sqs_order (n : Int) t
  have hz := zero_i10
  have hbd := build_i10
  clear M0 h1 h2 hl hm hs
  go_enter Tryd.func52, Tryd.ntmps52
  go_wp2_with (first | ((with_reducible apply wpM_box' M 32 (sqs (n : Int) t)); rfl; exact ⟨rfl, rfl⟩; clear M; (try clear C); intro bq w9 h_bq M; have C := M.ruleAll; simp only [Go.Proofs.YteonahoboligdaaDoor.ruleAll] at C) | ((fail_if_success have := h_bo1); ((with_reducible apply wpM_alloc' M 63 (n10 fun _ => 0)); rfl; exact ⟨rfl, _, zero_i10 _, rfl⟩; clear M; (try clear C); intro bo1 w9 h_bo1 M; have C := M.ruleAll; simp only [Go.Proofs.YteonahoboligdaaDoor.ruleAll] at C)) | ((with_reducible apply wpM_alloc' M 63 (n10 fun _ => 0)); rfl; exact ⟨rfl, _, zero_i10 _, rfl⟩; clear M; (try clear C); intro bo w9 h_bo M; have C := M.ruleAll; simp only [Go.Proofs.YteonahoboligdaaDoor.ruleAll] at C) | (refine wpList_build 63 _ rfl rfl [] rfl _ (build_i10 _) ?_) | ((with_reducible apply wpM_sta' M 0 63 (n10 fun _ => 0)); rfl; rfl; rfl; rfl; (first | exact .inl (by assumption) | exact .inr rfl | exact .inr (by assumption)); exact ⟨rfl, inf_i10.trans (congrArg some (n10_size ..).symm), flat_n10 _⟩; (simp only [entCells, List.getElem?_cons_zero, List.getElem?_cons_succ, n10_size, n10_size]); clear M; (try clear C); intro w9 M; simp only [List.set_cons_zero, List.set_cons_succ, entBlk, entT, List.getElem?_cons_zero, List.getElem?_cons_succ] at M; have C := M.ruleAll; simp only [Go.Proofs.YteonahoboligdaaDoor.ruleAll] at C))
  clear hz hbd
  go_loopw [6] (fun i wr => ∃ k : Nat, k ≤ n ∧ i = .int .i64 (k : Int) ∧ Mm no w0 wr [.box bo (n10 (idc k)) 63, .box bo1 (n10 fun _ => 0) 63, .box bq (sqs (n : Int) t) 32, .row w0.heap.size (.slice pp Ps.length cap) Ps.length (rowC pr2 Ps) 79 2]) (fun i _ => n - (intOf i).toNat)
  case atStart => exact ⟨0, by omega, rfl, M.eq (by rw [idc_zero])⟩
  case round =>
    obtain ⟨k, hk, rfl, M9⟩ := hrel
    clear M; (try clear C)
    have M := M9
    clear M9
    have C := M.ruleAll; simp only [Go.Proofs.YteonahoboligdaaDoor.ruleAll] at C
    by_cases hlt : k < n
    · have hlt' : (k : Int) < (n : Int) := by omega
      have hk10 : (k : Int) < 10 := by omega
      have HS := Hid2.mk (idc_set k)
      go_wp2_with (first | ((with_reducible apply wpM_st' M 0 2 (k) (n10 (idc (k + 1)))); rfl; rfl; rfl; (first | exact .inl (by assumption) | exact .inr rfl | exact .inr (by assumption)); exact ⟨rfl, rfl, by kernel_rfl⟩; (exact Nat.lt_of_lt_of_eq (by omega) (n10_size _).symm); exact HS.out; clear M; (try clear C); intro w9 M; simp only [List.set_cons_zero, List.set_cons_succ, entBlk, entT, List.getElem?_cons_zero, List.getElem?_cons_succ] at M; have C := M.ruleAll; simp only [Go.Proofs.YteonahoboligdaaDoor.ruleAll] at C))
      go_roundw
      case rel => exact ⟨k + 1, by omega, by go_num, M⟩
      case measure => simp [intOf]; omega
    · obtain rfl : n = k := by omega
      have hge : ¬ ((n : Int) < (n : Int)) := by omega
      generalize idc n = f0 at *
      generalize hPs : rowC pr2 Ps = cs0 at *
      generalize hP0 : Ps.length = p0 at *
      go_wp2
      go_loopw [1, 7, 8, 9, 10, 11, 12, 13] (fun v i _ _ _ _ _ _ wr => ∃ (f : Nat → Nat) (Qs : List (Nat × Nat)) (pp : Option Addr) (cap j : Nat), v = .slice pp Qs.length cap ∧ i = .int .i64 (j : Int) ∧ Hid2 (Cls n t m p0 f Qs j) ∧ Mm no w0 wr [.box bo (n10 f) 63, .box bo1 (n10 fun _ => 0) 63, .box bq (sqs (n : Int) t) 32, .row w0.heap.size (.slice pp Qs.length cap) Qs.length (rowC pr2 Qs) 79 2]) (fun _ i _ _ _ _ _ _ _ => 300 - (intOf i).toNat)
      case atStart => exact ⟨f0, Ps, pp, cap, 0, by rw [hP0], rfl, HC0, M.eq (by rw [hP0, hPs])⟩
      case round =>
        clear HC0 hPs M hlt hge
        obtain ⟨f, Qs, pp, cap, j, rfl, rfl, HV, MW⟩ := hrel
        have hQl : Qs.length ≤ 220 := by have := HV.out.len; omega
        have hjl := HV.out.kl
        have M := MW.anew
        have HMW := Hid2.mk MW
        clear MW
        by_cases hlt : j < Qs.length
        · have hlt' : (j : Int) < (Qs.length : Int) := by omega
          have e1 := List.getElem?_eq_getElem hlt
          obtain ⟨⟨x, y⟩, hp⟩ : ∃ p, Qs[j]? = some p := ⟨_, e1⟩
          clear e1
          obtain ⟨hx, hy⟩ := HRAN.out f Qs j _ HV.out hp
          obtain ⟨hpf0, hpf1⟩ := pr2_at hp
          obtain ⟨pf, hpf⟩ : ∃ pf : Nat → Value, ∀ i, (rowC pr2 Qs).getD i undef = pf i := ⟨_, fun _ => rfl⟩
          rw [hpf] at hpf0 hpf1
          obtain ⟨g, cg, e, M9⟩ := M.rowRdF 3 rfl (by omega) pf hpf
          cases e
          simp only [List.set_cons_zero, List.set_cons_succ] at M9
          clear M; (try clear C)
          have M := M9
          clear M9 hpf
          simp only at hx hy hpf0 hpf1
          have hx' : (x : Int) < 10 := by omega
          have hy' : (y : Int) < 10 := by omega
          have hb0 : j * 2 < Qs.length * 2 := by omega
          have hb1 : j * 2 + 1 < Qs.length * 2 := by omega
          have q1 := n10_get (f := f) (i := x) (by omega)
          have q2 := n10_get (f := f) (i := y) (by omega)
          have hfa := HV.out.lt x
          have hfb := HV.out.lt y
          by_cases hne : f x = f y
          · have HN := Hid2.mk (HHIT.out f Qs j _ HV.out hp hne)
            rw [← hne] at q2
            have hd : ((f x : Int) == (f x : Int)) = true := by simp
            clear hp hne HV
            generalize f x = a at *
            have C := M.ruleAll; simp only [Go.Proofs.YteonahoboligdaaDoor.ruleAll] at C
            go_wp2
            apply wp_region_mm M 11 (by kernel_rfl) (by kernel_rfl); (simp only [List.take_succ_cons, List.take_zero]; repeat (first | exact wpText_nil | (apply wpText_cons; (intro w2 M; have C := M.ruleAll; simp only [Go.Proofs.YteonahoboligdaaDoor.ruleAll] at C; go_wp2; exact ⟨rfl, rfl, M⟩); rfl))); (clear M; (try clear C); intro w2 M; simp only [List.drop_succ_cons, List.drop_zero]; have C := M.ruleAll; simp only [Go.Proofs.YteonahoboligdaaDoor.ruleAll] at C)
            go_wp2
            apply wp_region_mm M 7 (by kernel_rfl) (by kernel_rfl); (simp only [List.take_succ_cons, List.take_zero]; repeat (first | exact wpText_nil | (apply wpText_cons; (intro w2 M; have C := M.ruleAll; simp only [Go.Proofs.YteonahoboligdaaDoor.ruleAll] at C; go_wp2; exact ⟨rfl, rfl, M⟩); rfl))); (clear M; (try clear C); intro w2 M; simp only [List.drop_succ_cons, List.drop_zero]; have C := M.ruleAll; simp only [Go.Proofs.YteonahoboligdaaDoor.ruleAll] at C)
            go_wp2
            have M8 := HMW.out.later M.below
            go_roundw
            case rel => exact ⟨f, Qs, _, _, j + 1, rfl, by go_num, HN, M8⟩
            case measure => simp [intOf]; omega
          · have HN := Hid2.mk (HMER.out f Qs j _ HV.out hp hne)
            have hd : ((f x : Int) == (f y : Int)) = false := neqI hne
            have HM0 := Hid2.mk (mrg_zero f (f x) (f y))
            have HMS := Hid2.mk (fun l => mrg_self f (f x) (f y) l)
            have HMH := Hid2.mk (fun l (h : f l = f y) => mrg_hit (f := f) (a := f x) (b := f y) (l := l) h)
            have HMM := Hid2.mk (fun l (h : f l ≠ f y) => mrg_miss (f := f) (a := f x) (b := f y) (l := l) h)
            simp only at HN
            clear hp hne HV
            generalize f x = a at *
            generalize f y = b at *
            have C := M.ruleAll; simp only [Go.Proofs.YteonahoboligdaaDoor.ruleAll] at C
            go_wp2
            apply wp_region_mm M 11 (by kernel_rfl) (by kernel_rfl); (simp only [List.take_succ_cons, List.take_zero]; repeat (first | exact wpText_nil | (apply wpText_cons; (intro w2 M; have C := M.ruleAll; simp only [Go.Proofs.YteonahoboligdaaDoor.ruleAll] at C; go_wp2; exact ⟨rfl, rfl, M⟩); rfl))); (clear M; (try clear C); intro w2 M; simp only [List.drop_succ_cons, List.drop_zero]; have C := M.ruleAll; simp only [Go.Proofs.YteonahoboligdaaDoor.ruleAll] at C)
            go_wp2
            apply wp_region_mm M 7 (by kernel_rfl) (by kernel_rfl); (simp only [List.take_succ_cons, List.take_zero]; repeat (first | exact wpText_nil | (apply wpText_cons; (intro w2 M; have C := M.ruleAll; simp only [Go.Proofs.YteonahoboligdaaDoor.ruleAll] at C; go_wp2; exact ⟨rfl, rfl, M⟩); rfl))); (clear M; (try clear C); intro w2 M; simp only [List.drop_succ_cons, List.drop_zero]; have C := M.ruleAll; simp only [Go.Proofs.YteonahoboligdaaDoor.ruleAll] at C)
            go_wp2
            have M8 := HMW.out.later M.below
            clear M; (try clear C)
            go_loopw [12] (fun i wr => ∃ l : Nat, l ≤ n ∧ i = .int .i64 (l : Int) ∧ Mm no w0 wr [.box bo (n10 (mrg f a b l)) 63, .box bo1 (n10 fun _ => 0) 63, .box bq (sqs (n : Int) t) 32, .row w0.heap.size (.slice (some ⟨g, 0, none⟩) Qs.length cap) Qs.length (rowC pr2 Qs) 79 2]) (fun i _ => n - (intOf i).toNat)
            case atStart => exact ⟨0, by omega, rfl, M8.eq (by rw [HM0.out])⟩
            case round =>
              clear M8 HM0 hpf0 hpf1 hd q1 q2
              obtain ⟨l, hl2, rfl, M9⟩ := hrel
              (try clear C)
              have M := M9
              clear M9
              by_cases hlt2 : l < n
              · have hlt2' : (l : Int) < (n : Int) := by omega
                have hl10 : (l : Int) < 10 := by omega
                have q1 := n10_get (f := mrg f a b l) (i := l) (by omega)
                rw [HMS.out l] at q1
                by_cases hfl : f l = b
                · have HS := Hid2.mk (HMH.out l hfl)
                  rw [hfl] at q1
                  have hd : ((b : Int) == (b : Int)) = true := by simp
                  clear hfl
                  have C := M.ruleAll; simp only [Go.Proofs.YteonahoboligdaaDoor.ruleAll] at C
                  go_wp2_with (first | ((with_reducible apply wpM_st' M 0 2 (l) (n10 (mrg f a b (l + 1)))); rfl; rfl; rfl; (first | exact .inl (by assumption) | exact .inr rfl | exact .inr (by assumption)); exact ⟨rfl, rfl, by kernel_rfl⟩; (exact Nat.lt_of_lt_of_eq (by omega) (n10_size _).symm); exact HS.out; clear M; (try clear C); intro w9 M; simp only [List.set_cons_zero, List.set_cons_succ, entBlk, entT, List.getElem?_cons_zero, List.getElem?_cons_succ] at M; have C := M.ruleAll; simp only [Go.Proofs.YteonahoboligdaaDoor.ruleAll] at C))
                  go_roundw
                  case rel => exact ⟨l + 1, by omega, by go_num, M⟩
                  case measure => simp [intOf]; omega
                · have HS := Hid2.mk (HMM.out l hfl)
                  have hd : ((f l : Int) == (b : Int)) = false := neqI hfl
                  clear hfl
                  generalize f l = c at *
                  have C := M.ruleAll; simp only [Go.Proofs.YteonahoboligdaaDoor.ruleAll] at C
                  go_wp2
                  go_roundw
                  case rel => exact ⟨l + 1, by omega, by go_num, M.eq (by rw [HS.out])⟩
                  case measure => simp [intOf]; omega
              · obtain rfl : n = l := by omega
                have hge2 : ¬ ((n : Int) < (n : Int)) := by omega
                clear HMS HMH HMM
                generalize mrg f a b n = f2 at *
                have HT0 := Hid2.mk (show trP t x y 0 = [] from rfl)
                have HT1 := Hid2.mk (show ∀ l, trP t x y (l + 1) = trP t x y l ++ [(t x l, t y l), (t l x, t l y)] from fun _ => rfl)
                have HTL := Hid2.mk (fun l => trP_len t x y l)
                generalize trP t x y = TP at *
                have C := M.ruleAll; simp only [Go.Proofs.YteonahoboligdaaDoor.ruleAll] at C
                go_wp2
                go_loopw [1, 13] (fun v i wr => ∃ (l : Nat) (pp : Option Addr) (cap : Nat), l ≤ n ∧ i = .int .i64 (l : Int) ∧ v = .slice pp (Qs ++ TP l).length cap ∧ Mm no w0 wr [.box bo (n10 f2) 63, .box bo1 (n10 fun _ => 0) 63, .box bq (sqs (n : Int) t) 32, .row w0.heap.size (.slice pp (Qs ++ TP l).length cap) (Qs ++ TP l).length (rowC pr2 (Qs ++ TP l)) 79 2]) (fun _ i _ => n - (intOf i).toNat)
                case atStart => exact ⟨0, some ⟨g, 0, none⟩, cap, by omega, rfl, by rw [HT0.out, List.append_nil], M.eq (by rw [HT0.out, List.append_nil])⟩
                case round =>
                  clear M hge2 hlt2 HT0
                  obtain ⟨l, pp, cap, hl3, rfl, rfl, M9⟩ := hrel
                  (try clear C)
                  have M := M9
                  clear M9
                  have hlen2 : (Qs ++ TP l).length ≤ 240 := by rw [List.length_append, HTL.out]; omega
                  by_cases hlt3 : l < n
                  · have hlt3' : (l : Int) < (n : Int) := by omega
                    have hl10 : (l : Int) < 10 := by omega
                    have HS := Hid2.mk (show Qs ++ TP (l + 1) = (Qs ++ TP l) ++ [(t x l, t y l), (t l x, t l y)] by rw [HT1.out, List.append_assoc])
                    have q1 := sqs_get (n := (n : Int)) (t := t) (x := x) (y := l) (by omega) (by omega)
                    have q2 := sqs_get (n := (n : Int)) (t := t) (x := y) (y := l) (by omega) (by omega)
                    have q3 := sqs_get (n := (n : Int)) (t := t) (x := l) (y := x) (by omega) (by omega)
                    have q4 := sqs_get (n := (n : Int)) (t := t) (x := l) (y := y) (by omega) (by omega)
                    have b1 := HLT.out x l hx hlt3
                    have b2 := HLT.out y l hy hlt3
                    have b3 := HLT.out l x hlt3 hx
                    have b4 := HLT.out l y hlt3 hy
                    generalize Qs ++ TP l = L1 at *
                    generalize t x l = c1 at *
                    generalize t y l = c2 at *
                    generalize t l x = c3 at *
                    generalize t l y = c4 at *
                    have d1 : (c1 : Int) < 10 := by omega
                    have d2 : (c2 : Int) < 10 := by omega
                    have d3 : (c3 : Int) < 10 := by omega
                    have d4 : (c4 : Int) < 10 := by omega
                    have C := M.ruleAll; simp only [Go.Proofs.YteonahoboligdaaDoor.ruleAll] at C
                    go_wp2
                    apply wp_region_mmb M [0, 1, 2, 3, 4, 5, 6, 7, 8, 9, 10, 11, 12, 13, 14, 15, 16, 17, 18, 19, 20, 21, 22, 23, 24, 25, 26, 27, 28, 29, 30] 31 32 _ 78 2 79 ([(0, .agg (pr2 (c1, c2))), (1, .agg (pr2 (c3, c4)))]) (pr2 (c1, c2) ++ pr2 (c3, c4)) (by kernel_rfl) (by kernel_rfl) rfl rfl rfl; (case ht => repeat (first | exact wpTextG_nil | (apply wpTextG_cons; (intro g9 w2 hG; obtain ⟨Lg9, hSt9, G⟩ := hG; have M := G.suffix; have C := M.ruleAll; simp only [Go.Proofs.YteonahoboligdaaDoor.ruleAll] at C; go_wp2_with (first | (refine wpList_build 79 _ rfl rfl [(0, .int .i64 (c1 : Int)), (1, .int .i64 (c2 : Int))] rfl _ (build_p2 c1 c2 _) ?_) | (refine wpList_build 79 _ rfl rfl [(0, .int .i64 (c3 : Int)), (1, .int .i64 (c4 : Int))] rfl _ (build_p2 c3 c4 _) ?_)); exact ⟨rfl, rfl, Lg9, hSt9, G⟩); rfl))); rfl; exact bsl_p2 _ _; (clear M; (try clear C); intro bx w2 h_bx M; simp only [List.drop_succ_cons, List.drop_zero]; have C := M.ruleAll; simp only [Go.Proofs.YteonahoboligdaaDoor.ruleAll] at C)
                    ((with_reducible apply wpM_appb M 78 4 0 (w0.heap.size) (.slice pp L1.length cap) (L1.length) (rowC pr2 L1) 79 2 16 (2)); rfl; rfl; rfl; rfl; rfl; rfl; rfl; (first | exact .inl (Nat.le_refl _) | exact .inl (by assumption) | exact .inr (by assumption)); (first | exact M.size | (have hq := M.size; omega)); exact und_slp2; exact inf_elp2; rfl; decide; rfl; exact size_pp (c1, c2) (c3, c4); exact flat_pp (c1, c2) (c3, c4); (show L1.length + 2 ≤ maxLen; simp only [maxLen]; omega); omega; clear M; (try clear C); intro v3 w9 far_v3 M; simp only [List.set_cons_zero, List.set_cons_succ, entBlk, entT, List.getElem?_cons_zero, List.getElem?_cons_succ] at M; obtain ⟨pp_v3, cap_v3, rfl⟩ := own_form (M.row 4 rfl); have C := M.ruleAll; simp only [Go.Proofs.YteonahoboligdaaDoor.ruleAll] at C)
                    go_wp2
                    go_roundw
                    case rel => exact ⟨l + 1, pp_v3, cap_v3, by omega, by go_num, by rw [HS.out, List.length_append]; rfl, (M.drop 0).eq (by rw [HS.out, List.length_append, rowC_p2]; rfl)⟩
                    case measure => simp [intOf]; omega
                  · obtain rfl : n = l := by omega
                    have hge3 : ¬ ((n : Int) < (n : Int)) := by omega
                    generalize Qs ++ TP n = L1 at *
                    have C := M.ruleAll; simp only [Go.Proofs.YteonahoboligdaaDoor.ruleAll] at C
                    go_wp2
                    go_roundw
                    case rel => exact ⟨f2, L1, pp, cap, j + 1, rfl, by go_num, HN, M⟩
                    case measure => simp [intOf]; omega
        · obtain rfl : j = Qs.length := by omega
          have hge : ¬ ((Qs.length : Int) < (Qs.length : Int)) := by omega
          have HE := Hid2.mk (HEND.out f Qs HV.out)
          clear M
          have M := HMW.out
          clear HMW
          have C := M.ruleAll; simp only [Go.Proofs.YteonahoboligdaaDoor.ruleAll] at C
          go_wp2_with (first | ((with_reducible apply wpM_lda' M 0 63 0 (n10 f)); rfl; rfl; rfl; exact ⟨rfl, inf_i10.trans (congrArg some (n10_size ..).symm), _, und_i10, rfl⟩; exact whole_of rfl) | ((with_reducible apply wpM_sta' M 1 63 (n10 f)); rfl; rfl; rfl; rfl; (first | exact .inl (by assumption) | exact .inr rfl | exact .inr (by assumption)); exact ⟨rfl, inf_i10.trans (congrArg some (n10_size ..).symm), flat_n10 _⟩; (simp only [entCells, List.getElem?_cons_zero, List.getElem?_cons_succ, n10_size, n10_size]); clear M; (try clear C); intro w9 M; simp only [List.set_cons_zero, List.set_cons_succ, entBlk, entT, List.getElem?_cons_zero, List.getElem?_cons_succ] at M; have C := M.ruleAll; simp only [Go.Proofs.YteonahoboligdaaDoor.ruleAll] at C))
          refine bodyPost_ret (v := .agg (n10 f)) (by exact results_part rfl _ _ _ _ _ _ rfl und_i10 rfl inf_i10 (cells_of_blk0 (M.box 1 rfl))) rfl ?_
          exact ClPost.mk HE.out M.below
end Go.Proofs.YteonahoboligdaaDoor

/- The classes as lists, for the reference: a contract. -/
namespace Go.Proofs.YteonahoboligdaaDoor
set_option linter.unusedSimpArgs false
set_option linter.unusedVariables false
open Go Go.RowKit

/-- The numbers from k on that are with k. -/
def pkB (f : Nat → Nat) (k : Nat) : Nat → Bool := fun y => decide (k ≤ y ∧ f y = f k)
theorem pk_none (f : Nat → Nat) (k : Nat) : ∀ y, y ≤ k → tdL (pkB f k) y = []
  | 0, _ => rfl
  | y + 1, h => by rw [tdL, pk_none f k y (by omega), if_neg (by unfold pkB; rw [decide_eq_true_iff]; omega)]
open Classical in
/-- What is in a class that has been told. -/
noncomputable def dnB (f : Nat → Nat) (n k : Nat) : Nat → Bool := fun y => decide (y < n ∧ ∃ j, j < k ∧ f j = f y)
theorem dn_zero (f : Nat → Nat) (n : Nat) : dnB f n 0 = fun _ => false := by
  funext y; unfold dnB; exact decide_eq_false fun ⟨_, j, h, _⟩ => by omega
theorem dn_skip {f : Nat → Nat} {n k : Nat} (h : dnB f n k k = true) : dnB f n (k + 1) = dnB f n k := by
  funext y
  unfold dnB at *
  rw [decide_eq_true_iff] at h
  obtain ⟨hk, j, hj, e⟩ := h
  refine decide_eq_decide.2 ⟨fun ⟨h1, i, hi, e2⟩ => ⟨h1, ?_⟩, fun ⟨h1, i, hi, e2⟩ => ⟨h1, i, by omega, e2⟩⟩
  by_cases e3 : i = k
  · subst e3; exact ⟨j, hj, e.trans e2⟩
  · exact ⟨i, by omega, e2⟩
/-- Marks, and those of the first i of a list. -/
def mkD (D : Nat → Bool) (l : List Nat) (i : Nat) : Nat → Bool := fun y => D y || decide (y ∈ l.take i)
theorem mkD_zero (D : Nat → Bool) (l : List Nat) : mkD D l 0 = D := by funext y; simp [mkD]
theorem mkD_set {D : Nat → Bool} {l : List Nat} {i x : Nat} (hx : l[i]? = some x) : (bls (mkD D l i)).setIfInBounds x (.bool true) = bls (mkD D l (i + 1)) := by
  rw [bls_set]
  congr 1
  funext y
  unfold mkD
  rw [List.take_add_one, hx, Option.toList_some]
  by_cases e : y = x
  · subst e; simp
  · rw [if_neg e]
    simp [e]
theorem dn_more {f : Nat → Nat} {n k : Nat} (hk : k < n) (h : dnB f n k k = false) : mkD (dnB f n k) (tdL (pkB f k) n) (tdL (pkB f k) n).length = dnB f n (k + 1) := by
  have hno : ∀ j, j < k → f j ≠ f k := fun j hj e => by
    unfold dnB at h
    rw [decide_eq_false_iff_not] at h
    exact h ⟨hk, j, hj, e⟩
  funext y
  unfold mkD
  rw [List.take_length, Bool.eq_iff_iff, Bool.or_eq_true, decide_eq_true_iff, tdL_mem]
  unfold dnB pkB
  rw [decide_eq_true_iff, decide_eq_true_iff, decide_eq_true_iff]
  constructor
  · rintro (⟨h1, j, hj, e⟩ | ⟨h1, h2, e⟩)
    · exact ⟨h1, j, by omega, e⟩
    · exact ⟨h1, k, by omega, e.symm⟩
  · rintro ⟨h1, j, hj, e⟩
    by_cases e2 : j = k
    · subst e2
      refine .inr ⟨h1, ?_, e.symm⟩
      rcases Nat.lt_or_ge y j with h3 | h3
      · exact absurd e.symm (hno y h3)
      · exact h3
    · exact .inl ⟨h1, j, by omega, e⟩
/-- The classes of the numbers below k. -/
noncomputable def toldL (f : Nat → Nat) (n : Nat) : Nat → List (List Nat)
  | 0 => []
  | k + 1 => if dnB f n k k = true then toldL f n k else toldL f n k ++ [tdL (pkB f k) n]
theorem toldL_len (f : Nat → Nat) (n : Nat) : ∀ k, (toldL f n k).length ≤ k
  | 0 => Nat.le_refl _
  | k + 1 => by
    rw [toldL]
    have := toldL_len f n k
    split
    · omega
    · rw [List.length_append, List.length_singleton]; omega
/-- The first class is that of 0. -/
theorem toldL_first (f : Nat → Nat) (n : Nat) : ∀ k, (toldL f n (k + 1))[0]? = some (tdL (pkB f 0) n)
  | 0 => by
    rw [toldL, if_neg (by rw [dn_zero]; decide)]; rfl
  | k + 1 => by
    have h := toldL_first f n k
    rw [toldL]
    split
    · exact h
    · rw [List.getElem?_append_left (List.getElem?_eq_some_iff.1 h).1]; exact h

def ToldPost (cls : List (List Nat)) (w : World) (e : Ending) (w' : World) : Prop := ∃ v, e = .returned v ∧ ClsRes w.heap.size w w' v cls 26 2
theorem ToldPost.mk {cls : List (List Nat)} {w w' : World} {v : Value} {vs : List Value} (h : vs.length = cls.length) (M : Mm no w w' (.row w.heap.size v cls.length vs 26 1 :: clsE w.heap.size 2 vs cls)) : ToldPost cls w (.returned v) w' := ⟨v, rfl, vs, h, M⟩

set_option maxRecDepth 100000 in
set_option maxHeartbeats 8000000 in
theorem l06Told_any (n : Nat) (h0 : 1 ≤ n) (hn : n ≤ 10) (f : Nat → Nat) (w : World) :
    Calls Tryd.prog 51 #[.agg (n10 f), .int .i64 (n : Int)] w (ToldPost (toldL f n n) w) := by
  have M := Mm.start no w
  have hn' : (n : Int) ≤ 10 := by omega
  have HT := Hid2.mk (show ∀ k, toldL f n (k + 1) = if dnB f n k k = true then toldL f n k else toldL f n k ++ [tdL (pkB f k) n] from fun _ => rfl)
  have HT0 := Hid2.mk (show toldL f n 0 = [] from rfl)
  have HTL := Hid2.mk (fun k => toldL_len f n k)
  have HD0 := Hid2.mk (dn_zero f n)
  have HDS := Hid2.mk (fun k (h : dnB f n k k = true) => dn_skip h)
  have HDM := Hid2.mk (fun k (hk : k < n) (h : dnB f n k k = false) => dn_more hk h)
  generalize toldL f n = TL at *
  generalize dnB f n = DN at *
  have hz := zero_b10
  have hbd := build_b10
  go_enter Tryd.func51, Tryd.ntmps51
  go_wp2_with (first | ((with_reducible apply wpM_box' M 63 (n10 f)); rfl; exact ⟨rfl, rfl⟩; clear M; (try clear C); intro bc w9 h_bc M; have C := M.ruleAll; simp only [Go.Proofs.YteonahoboligdaaDoor.ruleAll] at C) | ((with_reducible apply wpM_bsl' M 27 0 26 ([]) (#[])); rfl; rfl; rfl; exact bsl_h0; clear M; (try clear C); intro bo w9 h_bo M; have C := M.ruleAll; simp only [Go.Proofs.YteonahoboligdaaDoor.ruleAll] at C) | (refine wpList_build 60 _ rfl rfl [] rfl _ (build_b10 _) ?_) | ((with_reducible apply wpM_alloc' M 60 (bls fun _ => false)); rfl; exact ⟨rfl, _, zero_b10 _, rfl⟩; clear M; (try clear C); intro bd w9 h_bd M; have C := M.ruleAll; simp only [Go.Proofs.YteonahoboligdaaDoor.ruleAll] at C) | ((with_reducible apply wpM_sta' M 0 60 (bls fun _ => false)); rfl; rfl; rfl; rfl; (first | exact .inl (by assumption) | exact .inr rfl | exact .inr (by assumption)); exact ⟨rfl, inf_b10.trans (congrArg some (bls_size ..).symm), flat_bls _⟩; (simp only [entCells, List.getElem?_cons_zero, List.getElem?_cons_succ, bls_size, bls_size]); clear M; (try clear C); intro w9 M; simp only [List.set_cons_zero, List.set_cons_succ, entBlk, entT, List.getElem?_cons_zero, List.getElem?_cons_succ] at M; have C := M.ruleAll; simp only [Go.Proofs.YteonahoboligdaaDoor.ruleAll] at C))
  have M9 := (M.asRow 1 rfl w.heap.size 0 1 h_bo rfl (Nat.zero_le _)).sub [1, 0, 2] (by decide)
  simp only [List.set_cons_zero, List.set_cons_succ] at M9
  clear M; (try clear C)
  clear hz hbd
  go_loopw [5, 7, 8, 9, 10] (fun o x _ _ _ wr => ∃ (k : Nat) (v : Value) (vs : List Value), k ≤ n ∧ x = .int .i64 (k : Int) ∧ o = v ∧ Hid2 (vs.length = (TL k).length) ∧ Mm no w wr (.row w.heap.size v (TL k).length vs 26 1 :: .box bd (bls (DN k)) 60 :: .box bc (n10 f) 63 :: clsE w.heap.size 2 vs (TL k))) (fun _ x _ _ _ _ => n - (intOf x).toNat)
  case atStart => exact ⟨0, _, [], by omega, rfl, rfl, ⟨by rw [HT0.out]; rfl⟩, M9.eq (by rw [HT0.out, HD0.out]; rfl)⟩
  case round =>
    clear M9 HT0 HD0
    obtain ⟨k, v, vs, hk, rfl, rfl, HVL, M9⟩ := hrel
    obtain ⟨pp, cc, rfl⟩ := own_form (M9.row 0 rfl)
    have M := M9
    clear M9
    have hcl := HTL.out k
    by_cases hlt : k < n
    · have hlt' : (k : Int) < (n : Int) := by omega
      have hk10 : (k : Int) < 10 := by omega
      have q0 := bls_get (f := DN k) (i := k) (by omega)
      cases hb : DN k k with
      | true =>
        have HN := Hid2.mk (show TL (k + 1) = TL k by rw [HT.out, if_pos hb])
        have HDN := Hid2.mk (HDS.out k hb)
        rw [hb] at q0
        clear hb
        generalize TL k = cls at *
        generalize DN k = D at *
        have C := M.ruleAll; simp only [Go.Proofs.YteonahoboligdaaDoor.ruleAll] at C
        go_wp2_with (first | ((with_reducible apply wpM_bsl' M 26 0 2 ([]) (#[])); rfl; rfl; rfl; exact bsl_n0; clear M; (try clear C); intro bw w9 h_bw M; have C := M.ruleAll; simp only [Go.Proofs.YteonahoboligdaaDoor.ruleAll] at C))
        have M9 := M.drop 0
        clear M; (try clear C)
        go_loopw [8, 9] (fun o y wr => o = .slice (some ⟨bw, 0, none⟩) 0 0 ∧ y = .int .i64 (k : Int) ∧ Mm no w wr (.row w.heap.size (.slice pp cls.length cc) cls.length vs 26 1 :: .box bd (bls D) 60 :: .box bc (n10 f) 63 :: clsE w.heap.size 2 vs cls)) (fun _ _ _ => 0)
        case atStart => exact ⟨rfl, rfl, M9⟩
        case round =>
          clear M9
          obtain ⟨rfl, rfl, M⟩ := hrel
          have C := M.ruleAll; simp only [Go.Proofs.YteonahoboligdaaDoor.ruleAll] at C
          go_wp2
          have M9 := M
          clear M; (try clear C)
          go_loopw [10] (fun i wr => i = .int .i64 0 ∧ Mm no w wr (.row w.heap.size (.slice pp cls.length cc) cls.length vs 26 1 :: .box bd (bls D) 60 :: .box bc (n10 f) 63 :: clsE w.heap.size 2 vs cls)) (fun _ _ => 0)
          case atStart => exact ⟨rfl, M9⟩
          case round =>
            clear M9
            obtain ⟨rfl, M⟩ := hrel
            have C := M.ruleAll; simp only [Go.Proofs.YteonahoboligdaaDoor.ruleAll] at C
            go_wp2
            go_roundw
            case rel => exact ⟨k + 1, _, vs, by omega, by go_num, rfl, ⟨by rw [HN.out]; exact HVL.out⟩, M.eq (by rw [HN.out, HDN.out])⟩
            case measure => simp [intOf]; omega
      | false =>
        have HN := Hid2.mk (show TL (k + 1) = TL k ++ [tdL (pkB f k) n] by rw [HT.out, if_neg (by rw [hb]; decide)])
        have HDN := Hid2.mk (HDM.out k hlt hb)
        rw [hb] at q0
        clear hb
        have HP0 := Hid2.mk (pk_none f k k (Nat.le_refl k))
        have HPS := Hid2.mk (show ∀ y, tdL (pkB f k) (y + 1) = if pkB f k y = true then tdL (pkB f k) y ++ [y] else tdL (pkB f k) y from fun _ => rfl)
        have HPL := Hid2.mk (fun y => show (tdL (pkB f k) y).length ≤ y by rw [tdL_len]; exact cn_le y _)
        have HPB := Hid2.mk (show ∀ y, k ≤ y → pkB f k y = decide (f y = f k) from fun y hy => by unfold pkB; exact decide_eq_decide.2 ⟨fun h => h.2, fun h => ⟨hy, h⟩⟩)
        have HPM := Hid2.mk (show k ∈ tdL (pkB f k) n from tdL_mem.2 ⟨hlt, by unfold pkB; exact decide_eq_true ⟨Nat.le_refl k, rfl⟩⟩)
        have HPR := Hid2.mk (fun x (hx : x ∈ tdL (pkB f k) n) => (tdL_mem.1 hx).1)
        generalize TL k = cls at *
        generalize DN k = D at *
        generalize tdL (pkB f k) = PL at *
        have q1 := n10_get (f := f) (i := k) (by omega)
        generalize hfk : f k = fk at *
        have HFK := Hid2.mk hfk
        clear hfk
        have C := M.ruleAll; simp only [Go.Proofs.YteonahoboligdaaDoor.ruleAll] at C
        go_wp2_with (first | ((with_reducible apply wpM_bsl' M 26 0 2 ([]) (#[])); rfl; rfl; rfl; exact bsl_n0; clear M; (try clear C); intro bw w9 h_bw M; have C := M.ruleAll; simp only [Go.Proofs.YteonahoboligdaaDoor.ruleAll] at C))
        have M9 := M.asRow 0 rfl w.heap.size 0 1 h_bw rfl (Nat.zero_le _)
        simp only [List.set_cons_zero] at M9
        clear M; (try clear C)
        go_loopw [8, 9] (fun o y wr => ∃ (l : Nat) (v : Value), k ≤ l ∧ l ≤ n ∧ o = v ∧ y = .int .i64 (l : Int) ∧ Mm no w wr (.row w.heap.size v (PL l).length (i64N (PL l)) 2 1 :: .row w.heap.size (.slice pp cls.length cc) cls.length vs 26 1 :: .box bd (bls D) 60 :: .box bc (n10 f) 63 :: clsE w.heap.size 2 vs cls)) (fun _ y _ => n - (intOf y).toNat)
        case atStart => exact ⟨k, _, Nat.le_refl k, by omega, rfl, rfl, M9.eq (by rw [HP0.out]; rfl)⟩
        case round =>
          clear M9
          obtain ⟨l, v, hkl, hln, rfl, rfl, M9⟩ := hrel
          obtain ⟨pw, cw, rfl⟩ := own_form (M9.row 0 rfl)
          have M := M9
          clear M9
          have hpl := HPL.out l
          by_cases hlt2 : l < n
          · have hlt2' : (l : Int) < (n : Int) := by omega
            have hl10 : (l : Int) < 10 := by omega
            have q2 := n10_get (f := f) (i := l) (by omega)
            have hpb := HPB.out l hkl
            by_cases hfl : f l = fk
            · have HNX := Hid2.mk (show PL (l + 1) = PL l ++ [l] by rw [HPS.out, hpb, if_pos (by rw [decide_eq_true_iff]; exact hfl)])
              rw [hfl] at q2
              have hd : ((fk : Int) == (fk : Int)) = true := by simp
              clear hfl hpb
              generalize PL l = own at *
              have C := M.ruleAll; simp only [Go.Proofs.YteonahoboligdaaDoor.ruleAll] at C
              go_wp2
              apply wp_region_mm M 6 (by kernel_rfl) (by kernel_rfl); (simp only [List.take_succ_cons, List.take_zero]; repeat (first | exact wpText_nil | (apply wpText_cons; (intro w2 M; have C := M.ruleAll; simp only [Go.Proofs.YteonahoboligdaaDoor.ruleAll] at C; go_wp2; exact ⟨rfl, rfl, M⟩); rfl))); (clear M; (try clear C); intro w2 M; simp only [List.drop_succ_cons, List.drop_zero]; have C := M.ruleAll; simp only [Go.Proofs.YteonahoboligdaaDoor.ruleAll] at C)
              go_wp2_with (first | ((with_reducible apply wpM_bsl' M 26 1 2 ([(0, .int .i64 (l : Int))]) (#[.int .i64 (l : Int)])); rfl; rfl; rfl; exact bsl_n1 _; clear M; (try clear C); intro bb w9 h_bb M; have C := M.ruleAll; simp only [Go.Proofs.YteonahoboligdaaDoor.ruleAll] at C) | ((with_reducible apply wpM_app' M 26 1 0 (w.heap.size) (.slice pw own.length cw) (own.length) (i64N own) 2 1 8); rfl; rfl; rfl; rfl; rfl; rfl; rfl; (first | exact .inl (Nat.le_refl _) | exact .inl (by assumption) | exact .inr (by assumption) | exact .inr HDv.out); (first | exact M.size | (have hq := M.size; omega)); exact und_sln; exact inf_eln; rfl; decide; decide; rfl; exact rfl; exact flat_n1 _; omega; clear M; (try clear C); intro v2 w9 far_v2 M; simp only [List.set_cons_zero, List.set_cons_succ, entBlk, entT, List.getElem?_cons_zero, List.getElem?_cons_succ] at M; obtain ⟨pp_v2, cap_v2, rfl⟩ := own_form (M.row 1 rfl); have C := M.ruleAll; simp only [Go.Proofs.YteonahoboligdaaDoor.ruleAll] at C))
              go_roundw
              case rel => exact ⟨l + 1, _, by omega, by omega, rfl, by go_num, by rw [HNX.out]; exact (M.drop 0).eq (by rw [i64N_app]; simp only [List.length_append, List.length_singleton]; rfl)⟩
              case measure => simp [intOf]; omega
            · have HNX := Hid2.mk (show PL (l + 1) = PL l by rw [HPS.out, hpb, if_neg (by rw [decide_eq_true_iff]; exact hfl)])
              have hd : ((f l : Int) == (fk : Int)) = false := neqI hfl
              clear hfl hpb
              generalize PL l = own at *
              generalize f l = fl at *
              have C := M.ruleAll; simp only [Go.Proofs.YteonahoboligdaaDoor.ruleAll] at C
              go_wp2
              apply wp_region_mm M 6 (by kernel_rfl) (by kernel_rfl); (simp only [List.take_succ_cons, List.take_zero]; repeat (first | exact wpText_nil | (apply wpText_cons; (intro w2 M; have C := M.ruleAll; simp only [Go.Proofs.YteonahoboligdaaDoor.ruleAll] at C; go_wp2; exact ⟨rfl, rfl, M⟩); rfl))); (clear M; (try clear C); intro w2 M; simp only [List.drop_succ_cons, List.drop_zero]; have C := M.ruleAll; simp only [Go.Proofs.YteonahoboligdaaDoor.ruleAll] at C)
              go_wp2
              go_roundw
              case rel => exact ⟨l + 1, _, by omega, by omega, rfl, by go_num, M.eq (by rw [HNX.out])⟩
              case measure => simp [intOf]; omega
          · obtain rfl : n = l := by omega
            have hge : ¬ ((n : Int) < (n : Int)) := by omega
            have hmem := HPM.out
            have hran := Hid2.mk HPR.out
            clear HPM HPR
            generalize PL n = own at *
            have hpos : 0 < own.length := List.length_pos_of_mem hmem
            have hpos' : (0 : Int) < (own.length : Int) := by omega
            obtain ⟨g, cg, e, -, -, -⟩ := own_rds (M.row 0 rfl) (by omega)
            cases e
            clear hmem
            have HM0 := Hid2.mk (mkD_zero D own)
            have HMS := Hid2.mk (fun i x (h : own[i]? = some x) => mkD_set (D := D) h)
            have C := M.ruleAll; simp only [Go.Proofs.YteonahoboligdaaDoor.ruleAll] at C
            go_wp2
            have M9 := M
            clear M; (try clear C)
            go_loopw [10] (fun i wr => ∃ j : Nat, j ≤ own.length ∧ i = .int .i64 (j : Int) ∧ Mm no w wr (.row w.heap.size (.slice (some ⟨g, 0, none⟩) own.length cw) own.length (i64N own) 2 1 :: .row w.heap.size (.slice pp cls.length cc) cls.length vs 26 1 :: .box bd (bls (mkD D own j)) 60 :: .box bc (n10 f) 63 :: clsE w.heap.size 2 vs cls)) (fun i _ => own.length - (intOf i).toNat)
            case atStart => exact ⟨0, by omega, rfl, M9.eq (by rw [HM0.out])⟩
            case round =>
              clear M9
              obtain ⟨j, hj, rfl, M9⟩ := hrel
              have M := M9
              clear M9
              by_cases hjl : j < own.length
              · have hjl' : (j : Int) < (own.length : Int) := by omega
                have e1 := List.getElem?_eq_getElem hjl
                have hx := hran.out _ (List.getElem_mem hjl)
                have hd1 := World.ownsRow.cellAt (M.row 0 rfl) j (by omega)
                rw [i64N_get e1] at hd1
                have HS := Hid2.mk (HMS.out j _ e1)
                clear e1
                generalize own[j] = x at *
                have hx10 : (x : Int) < 10 := by omega
                have C := M.ruleAll; simp only [Go.Proofs.YteonahoboligdaaDoor.ruleAll] at C
                go_wp2_with (first | ((with_reducible apply wpM_st' M 2 4 (x) (bls (mkD D own (j + 1)))); rfl; rfl; rfl; (first | exact .inl (by assumption) | exact .inr rfl | exact .inr (by assumption)); exact ⟨rfl, rfl, by kernel_rfl⟩; (exact Nat.lt_of_lt_of_eq (by omega) (bls_size _).symm); exact HS.out; clear M; (try clear C); intro w9 M; simp only [List.set_cons_zero, List.set_cons_succ, entBlk, entT, List.getElem?_cons_zero, List.getElem?_cons_succ] at M; have C := M.ruleAll; simp only [Go.Proofs.YteonahoboligdaaDoor.ruleAll] at C))
                go_roundw
                case rel => exact ⟨j + 1, by omega, by go_num, M⟩
                case measure => simp [intOf]; omega
              · obtain rfl : j = own.length := by omega
                have hge2 : ¬ ((own.length : Int) < (own.length : Int)) := by omega
                rw [HDN.out] at M
                obtain ⟨D2, hD2⟩ : ∃ D2, DN (k + 1) = D2 := ⟨_, rfl⟩
                rw [hD2] at M
                have HD2 := Hid2.mk hD2
                clear hD2
                have C := M.ruleAll; simp only [Go.Proofs.YteonahoboligdaaDoor.ruleAll] at C
                go_wp2_with (first | ((with_reducible apply wpM_bsl' M 27 1 26 ([(0, .slice (some ⟨g, 0, none⟩) own.length cw)]) (#[.slice (some ⟨g, 0, none⟩) own.length cw])); rfl; rfl; rfl; exact bsl_h1 _ _ _; clear M; (try clear C); intro bh w9 h_bh M; have C := M.ruleAll; simp only [Go.Proofs.YteonahoboligdaaDoor.ruleAll] at C) | ((with_reducible apply wpM_app' M 27 2 0 (w.heap.size) (.slice pp cls.length cc) (cls.length) (vs) 26 1 24); rfl; rfl; rfl; rfl; rfl; rfl; rfl; (first | exact .inl (Nat.le_refl _) | exact .inl (by assumption) | exact .inr (by assumption) | exact .inr HDv.out); (first | exact M.size | (have hq := M.size; omega)); exact und_slh; exact inf_elh; rfl; decide; decide; rfl; exact rfl; exact flat_sl _ _ _; omega; clear M; (try clear C); intro v3 w9 far_v3 M; simp only [List.set_cons_zero, List.set_cons_succ, entBlk, entT, List.getElem?_cons_zero, List.getElem?_cons_succ] at M; obtain ⟨pp_v3, cap_v3, rfl⟩ := own_form (M.row 2 rfl); have C := M.ruleAll; simp only [Go.Proofs.YteonahoboligdaaDoor.ruleAll] at C))
                have M8 := M.drop 0
                have M7 : Mm no w _ ((.row w.heap.size (.slice (some ⟨g, 0, none⟩) own.length cw) own.length (i64N own) 2 1) :: (.row w.heap.size (.slice pp_v3 (cls.length + 1) cap_v3) (cls.length + 1) (vs ++ [.slice (some ⟨g, 0, none⟩) own.length cw]) 26 1 :: .box bd (bls D2) 60 :: .box bc (n10 f) 63 :: clsE w.heap.size 2 vs cls)) := M8
                have M6 := M7.perm (List.perm_append_comm (l₁ := [_]))
                have M5 : Mm no w _ (.row w.heap.size (.slice pp_v3 (cls.length + 1) cap_v3) (cls.length + 1) (vs ++ [.slice (some ⟨g, 0, none⟩) own.length cw]) 26 1 :: .box bd (bls D2) 60 :: .box bc (n10 f) 63 :: clsE w.heap.size 2 (vs ++ [.slice (some ⟨g, 0, none⟩) own.length cw]) (cls ++ [own])) := M6.eq (by rw [clsE_new HVL.out]; rfl)
                clear M M8 M7 M6
                go_roundw
                case rel => exact ⟨k + 1, _, vs ++ [.slice (some ⟨g, 0, none⟩) own.length cw], by omega, by go_num, rfl, ⟨by rw [HN.out, List.length_append, List.length_append, HVL.out]; rfl⟩, by rw [HN.out, List.length_append, HD2.out]; exact M5⟩
                case measure => simp [intOf]; omega
    · obtain rfl : n = k := by omega
      have hge : ¬ ((n : Int) < (n : Int)) := by omega
      have M9 := (M.drop 1).drop 1
      go_wp2
      go_ret
      exact ToldPost.mk HVL.out M9
end Go.Proofs.YteonahoboligdaaDoor

/- The normal closure of the reference: a contract. -/
namespace Go.Proofs.YteonahoboligdaaDoor
set_option linter.unusedSimpArgs false
set_option linter.unusedVariables false
open Go Go.RowKit

theorem tdL_cut {p : Nat → Bool} {n : Nat} (h : ∀ y, n ≤ y → p y = false) : ∀ k, n ≤ k → tdL p k = tdL p n
  | 0, hk => by obtain rfl : n = 0 := by omega
                rfl
  | k + 1, hk => by
    by_cases e : n = k + 1
    · rw [e]
    · rw [tdL, h k (by omega), if_neg (by decide)]; exact tdL_cut h k (by omega)
theorem tdL_congr {p q : Nat → Bool} : ∀ {k : Nat}, (∀ y, y < k → p y = q y) → tdL p k = tdL q k
  | 0, _ => rfl
  | k + 1, h => by rw [tdL, tdL, h k (by omega), tdL_congr fun y hy => h y (by omega)]
/-- The class of 0. -/
theorem first_class {n : Nat} {t : Nat → Nat → Nat} (hl : Loo n t) {m : Nat} (hm : ∀ i, m.testBit i = true → i < n) {f : Nat → Nat} (hf : ∀ x y, x < n → y < n → (f x = f y ↔ Cng n t m x y)) : tdL (pkB f 0) n = mL (norM n t m) := by
  have hn : n ≤ 10 := by have := hl.sq.hi; omega
  unfold mL
  rw [tdL_cut (n := n) (fun y hy => by
    cases h : (norM n t m).testBit y with
    | false => rfl
    | true => have := norM_n hl hm h; omega) 10 hn]
  refine tdL_congr fun y hy => ?_
  rw [Bool.eq_iff_iff, norM_cng hl hm]
  unfold pkB
  rw [decide_eq_true_iff, hf y 0 hy hl.pos]
  exact ⟨fun h => h.2.symm, fun h => ⟨Nat.zero_le _, h.symm⟩⟩
theorem bsl_p1z (x : Nat) (w : World) : (Instr.buildSlice 78 1 [(0, Value.agg #[.int .i64 0, .int .i64 (x : Int)])].toArray).run Tryd.prog w = .ok (.slice (some ⟨w.heap.size, 0, none⟩) 1 1) (w.alloc (.cells #[.int .i64 0, .int .i64 (x : Int)] 79)) := by kernel_rfl
theorem flat_p1z (x : Nat) : flat #[.int .i64 0, .int .i64 (x : Int)] := flat_pr2 (0, x)
def zps (l : List Nat) : List (Nat × Nat) := l.map fun i => (0, i)
theorem zps_len (l : List Nat) : (zps l).length = l.length := List.length_map ..

def ClosPost (l : List Nat) (w : World) (e : Ending) (w' : World) : Prop := ∃ g cap, e = .returned (.slice (some ⟨g, 0, none⟩) l.length cap) ∧ w.heap.size ≤ g ∧ rds w' g l.length (i64F l) ∧ Below w.heap.size w w'
theorem ClosPost.mk {l : List Nat} {w w' : World} {g cap : Nat} (h1 : w.heap.size ≤ g) (h2 : rds w' g l.length (i64F l)) (h3 : Below w.heap.size w w') : ClosPost l w (.returned (.slice (some ⟨g, 0, none⟩) l.length cap)) w' := ⟨g, cap, rfl, h1, h2, h3⟩
/-- What the call of l06Classes knows. -/
def StC (n : Nat) (t : Nat → Nat → Nat) (m : Nat) (w0 : World) (row : Ent) : List Value → List Ent → Prop
  | [], Lg => Lg = [row]
  | v :: _, Lg => Lg = [] ∧ ∃ f : Nat → Nat, v = .agg (n10 f) ∧ (∀ x, f x < n) ∧ ∀ x y, x < n → y < n → (f x = f y ↔ Cng n t m x y)

set_option maxRecDepth 100000 in
set_option maxHeartbeats 4000000 in
theorem l06Closure_any (n : Nat) (t : Nat → Nat → Nat) (hl : Loo n t) (m : Nat) (hm : ∀ i, m.testBit i = true → i < n) (l : List Nat) (hlen : l.length ≤ 20) (hlm : ∀ i, m.testBit i = true ↔ i ∈ l) (w : World) (g cap : Nat) (hr : rds w g l.length (i64F l)) :
    Calls Tryd.prog 50 #[.agg (sqs (n : Int) t), .slice (some ⟨g, 0, none⟩) l.length cap] w (ClosPost (mL (norM n t m)) w) := by
  have M := (Mm.start no w).add (x := .rd g l.length (i64F l)) hr fun _ h => by cases h
  have hs := hl.sq
  have hn : n ≤ 10 := by have := hs.hi; omega
  have h1n : 1 ≤ n := by have := hs.lo; omega
  have hn' : (n : Int) ≤ 10 := by omega
  have so := sqs_order (n : Int) t
  have h0 := hl.pos
  have HCL := Hid2.mk (fun w0 w1 v M1 => l06Classes_any n t hl m hm (zps l) (by rw [zps_len]; exact hlen) (fun p hp => by
    unfold zps at hp
    obtain ⟨i, hi, rfl⟩ := List.mem_map.1 hp
    exact .base i ((hlm i).2 hi)) (fun i hi => List.mem_map.2 ⟨i, (hlm i).1 hi, rfl⟩) w0 w1 v M1)
  have HTO := Hid2.mk (fun f w1 => l06Told_any n h1n hn f w1)
  have HFI := Hid2.mk (fun (f : Nat → Nat) (hf : ∀ x y, x < n → y < n → (f x = f y ↔ Cng n t m x y)) => first_class hl hm hf)
  have HPO := Hid2.mk (show 0 < (mL (norM n t m)).length from List.length_pos_of_mem ((mL_mem (norM_lt n t m)).2 (norM_nrm hl hm).clo.zero))
  generalize mL (norM n t m) = res at *
  have HZ : Hid2 (∀ k i, l[k]? = some i → zps (l.take (k + 1)) = zps (l.take k) ++ [(0, i)]) := ⟨fun k i h => by
    unfold zps
    rw [List.take_add_one, h, Option.toList_some, List.map_append]; rfl⟩
  have HZL : Hid2 (∀ k, k ≤ l.length → (zps (l.take k)).length = k) := ⟨fun k h => by rw [zps_len, List.length_take]; omega⟩
  have HZ0 := Hid2.mk (show zps (l.take 0) = [] from rfl)
  have HZA := Hid2.mk (show zps (l.take l.length) = zps l by rw [List.take_length])
  clear hl hm hlm hr hs
  go_enter Tryd.func50, Tryd.ntmps50
  go_wp2_with (first | (((with_reducible apply wpM_box' M 32 (sqs (n : Int) t)); rfl; exact ⟨rfl, rfl⟩; clear M; (try clear C); intro bq w9 h_bq M; have C := M.ruleAll; simp only [Go.Proofs.YteonahoboligdaaDoor.ruleAll] at C); generalize w9 = wb at *; have MW := Hid2.mk M; have M9 := M.anew; clear M; (try clear C); have M := M9; have ML := Hid2.mk M9; clear M9; have C := M.ruleAll; simp only [Go.Proofs.YteonahoboligdaaDoor.ruleAll] at C) | (((with_reducible apply wpM_bsl' M 78 0 79 ([]) (#[])); rfl; rfl; rfl; exact bsl_p0; clear M; (try clear C); intro bo w9 h_bo M; have C := M.ruleAll; simp only [Go.Proofs.YteonahoboligdaaDoor.ruleAll] at C); have M9 := M.asRow 0 rfl wb.heap.size 0 2 h_bo rfl (Nat.zero_le _); simp only [List.set_cons_zero] at M9; clear M; (try clear C); have M := M9; clear M9; have C := M.ruleAll; simp only [Go.Proofs.YteonahoboligdaaDoor.ruleAll] at C))
  go_loopw [5, 6] (fun o i wr => ∃ (k : Nat) (v : Value), k ≤ l.length ∧ i = .int .i64 (k : Int) ∧ o = v ∧ Mm no wb wr [.row wb.heap.size v k (rowC pr2 (zps (l.take k))) 79 2, .box bq (sqs (n : Int) t) 32, .rd g l.length (i64F l)]) (fun _ i _ => l.length - (intOf i).toNat)
  case atStart => exact ⟨0, _, by omega, rfl, rfl, M⟩
  case round =>
    obtain ⟨k, v, hk, rfl, rfl, M9⟩ := hrel
    obtain ⟨pp, cc, rfl⟩ := own_form (M9.row 0 rfl)
    clear M; (try clear C)
    have M := M9
    clear M9
    by_cases hlt : k < l.length
    · have hlt' : (k : Int) < (l.length : Int) := by omega
      have e1 := List.getElem?_eq_getElem hlt
      have hx := i64F_at e1
      have HN := Hid2.mk (HZ.out k _ e1)
      clear e1
      generalize l[k] = x at *
      generalize zps (l.take k) = Z at *
      have C := M.ruleAll; simp only [Go.Proofs.YteonahoboligdaaDoor.ruleAll] at C
      go_wp2_with (first | ((with_reducible apply wpM_bsl' M 78 1 79 ([(0, .agg #[.int .i64 0, .int .i64 (x : Int)])]) (#[.int .i64 0, .int .i64 (x : Int)])); rfl; rfl; rfl; exact bsl_p1z x; clear M; (try clear C); intro bb w9 h_bb M; have C := M.ruleAll; simp only [Go.Proofs.YteonahoboligdaaDoor.ruleAll] at C) | ((with_reducible apply wpM_app' M 78 1 0 (wb.heap.size) (.slice pp k cc) (k) (rowC pr2 Z) 79 2 16); rfl; rfl; rfl; rfl; rfl; rfl; rfl; (first | exact .inl (Nat.le_refl _) | exact .inl (by assumption) | exact .inr (by assumption) | exact .inr HDv.out); (first | exact M.size | (have hq := M.size; omega)); exact und_slp2; exact inf_elp2; rfl; decide; decide; rfl; exact rfl; exact flat_p1z x; omega; clear M; (try clear C); intro v2 w9 far_v2 M; simp only [List.set_cons_zero, List.set_cons_succ, entBlk, entT, List.getElem?_cons_zero, List.getElem?_cons_succ] at M; obtain ⟨pp_v2, cap_v2, rfl⟩ := own_form (M.row 1 rfl); have C := M.ruleAll; simp only [Go.Proofs.YteonahoboligdaaDoor.ruleAll] at C))
      go_roundw
      case rel => exact ⟨k + 1, _, by omega, by go_num, rfl, (M.drop 0).eq (by rw [HN.out, rowC_p1]; rfl)⟩
      case measure => simp [intOf]; omega
    · obtain rfl : k = l.length := by omega
      have hge : ¬ ((l.length : Int) < (l.length : Int)) := by omega
      rw [HZA.out] at M
      have C := M.ruleAll; simp only [Go.Proofs.YteonahoboligdaaDoor.ruleAll] at C
      go_wp2
      apply wp_region_float1 [0, 1, 3, 4] 2 5 _ (Stg (StC n t m wb (.row wb.heap.size (.slice pp l.length cc) l.length (rowC pr2 (zps l)) 79 2)) no wb [.box bq (sqs (n : Int) t) 32, .rd g l.length (i64F l)]) (by kernel_rfl) (by kernel_rfl) rfl rfl
      case hS => exact ⟨[_], rfl, M.drew⟩
      case ht => repeat (first | exact wpTextG_nil | (apply wpTextG_cons; (intro g9 w2 hG; obtain ⟨Lg9, hSt9, G⟩ := hG; have M := G.suffix; have C := M.ruleAll; simp only [Go.Proofs.YteonahoboligdaaDoor.ruleAll] at C; go_wp2_with (first | ((with_reducible apply wpM_lda' M 0 32 0 (sqs (n : Int) t)); rfl; rfl; rfl; exact ⟨rfl, inf_sqs.trans (congrArg some (sqs_size ..).symm), _, und_sqs, rfl⟩; exact whole_of rfl)); exact ⟨rfl, rfl, Lg9, hSt9, G⟩); rfl))
      case hA =>
        intro w2 hG
        obtain ⟨Lg9, hSt, G⟩ := hG
        have hSt' : Lg9 = [_] := hSt
        subst hSt'
        clear M
        try clear C
        refine yield_walk (ops := #[]) rfl rfl (show 24 < 30 by decide) ?_
        go_wp2_with (first | (go_at_call 52; fail))
        refine (HCL.out wb _ _ ((G.sub [0] (by decide)).eq (by rw [zps_len]; rfl))).mono ?_
        rintro e w3 ⟨f, rfl, hf1, hf2, hb⟩
        have HH := Hid2.mk hf2
        have HH1 := Hid2.mk hf1
        clear hf1 hf2
        go_wp2
        exact ⟨[], ⟨rfl, f, rfl, HH1.out, HH.out⟩, ML.out.later hb⟩
      case hQ =>
        clear M
        try clear C
        rintro v w' ⟨Lg9, ⟨rfl, f, rfl, hf1, hf2⟩, M⟩
        have M9 := M
        clear M
        have M := M9
        clear M9
        have HH := Hid2.mk hf2
        clear hf1 hf2
        simp only [List.drop_succ_cons, List.drop_zero]
        go_wp2_with (first | (go_at_call 51; fail))
        refine (HTO.out f _).mono ?_
        rintro e w5 ⟨v, rfl, vs, hvs, M'⟩
        have h01 : n = (n - 1) + 1 := by omega
        have hfst : (toldL f n n)[0]? = some res := by
          rw [← HFI.out f HH.out]
          have := toldL_first f n (n - 1)
          rwa [← h01] at this
        generalize toldL f n n = cls at *
        obtain ⟨hc0, hce⟩ := List.getElem?_eq_some_iff.1 hfst
        have hv0 : 0 < vs.length := by omega
        have hrow : w5.ownsRow w'.heap.size 2 1 vs[0] res.length (ints res) := by
          have h := M'.row 1 (B := w'.heap.size) (v := vs[0]) (n := cls[0].length) (xs := ints cls[0]) (e := 2) (size := 1) (by rw [List.getElem?_cons_succ]; exact clsE_get hv0 hc0)
          rwa [hce] at h
        obtain ⟨g1, c1, e1, hB1, -, hr1⟩ := own_rds hrow (by have := HPO.out; omega)
        obtain ⟨g0, c0, e0, -, -, -⟩ := own_rds (M'.row 0 rfl) (by omega)
        subst e0
        have hd := World.ownsRow.cellAt (M'.row 0 rfl) 0 (by omega)
        rw [List.getElem?_eq_getElem hv0, e1] at hd
        rw [Nat.mul_one] at hr1
        have HR := Hid2.mk (show rds w5 g1 res.length (i64F res) from ⟨hr1.lt, fun j hj => by rw [hr1.at_ j hj]; exact congrArg some (i64N_at hj)⟩)
        have HB := Hid2.mk (show Below w.heap.size w w5 from ((MW.out.later M.below).later M'.below).below)
        have HG := Hid2.mk (show w.heap.size ≤ g1 from Nat.le_trans (Nat.le_trans MW.out.size M.size) hB1)
        have hc0' : (0 : Int) < (cls.length : Int) := by omega
        clear hr1 hrow hfst M M' h01 hB1 hce
        go_wp2
        go_ret
        exact ClosPost.mk HG.out HR.out HB.out
end Go.Proofs.YteonahoboligdaaDoor

