/- Plain facts on blocks of memory, on tables of values, and steps of the walk over whole rows; nothing here speaks of the program. -/
import Derived.WalkKit
import Derived.WalkSpells
import Derived.WalkLawsBesides
namespace Go.Proofs.Ythdldlpflieeoaa
set_option linter.unusedSimpArgs false
set_option linter.unusedVariables false
open Go.RowKit

/-- A fact kept from the walk. -/
structure Hid2 (p : Prop) : Prop where mk :: (out : p)

/-! ### Blocks -/
/-- Block b of the world w holds just the cells cs. -/
structure blk (w : World) (b : Nat) (cs : Array Value) (t : Nat) : Prop where
  out : w.heap[b]? = some (.cells cs t (0, 0))

theorem blk.cell {w : World} {b : Nat} {cs : Array Value} {t : Nat} (h : blk w b cs t) (j : Nat) (v : Value) (hj : cs[j]? = some v) : w.cell? ⟨b, j, none⟩ = some v := by
  have := h.out; simp [World.cell?, this, hj]
theorem blk.free {w : World} {b : Nat} {cs : Array Value} {t : Nat} (h : blk w b cs t) (j : Nat) : w.frozen? ⟨b, j, none⟩ = false := by
  have := h.out; simp [World.frozen?, this]
theorem blk.lt {w : World} {b : Nat} {cs : Array Value} {t : Nat} (h : blk w b cs t) : b < w.heap.size := (Array.getElem?_eq_some_iff.1 h.out).1
theorem blk.below {w w' : World} {B b : Nat} {cs : Array Value} {t : Nat} (h : blk w b cs t) (hb : Below B w w') (hB : b < B) : blk w' b cs t := ⟨by rw [hb.block _ hB, h.out]⟩
theorem blk.later {w w' : World} {b : Nat} {cs : Array Value} {t : Nat} (h : blk w b cs t) (hb : Below w.heap.size w w') : blk w' b cs t := h.below hb h.lt
theorem blk.set {w : World} {b : Nat} {cs : Array Value} {t : Nat} (h : blk w b cs t) (j : Nat) (v : Value) : blk (w.setCell ⟨b, j, none⟩ v) b (cs.setIfInBounds j v) t :=
  ⟨by have := h.out; simp [World.setCell, Array.getElem?_modify, this]⟩
theorem blk.other {w : World} {b c : Nat} {cs : Array Value} {t : Nat} (h : blk w b cs t) (j : Nat) (v : Value) (hc : c ≠ b) : blk (w.setCell ⟨c, j, none⟩ v) b cs t :=
  ⟨by have := h.out; simp [World.setCell, Array.getElem?_modify, this, hc]⟩
theorem blk.alloc {w : World} {b : Nat} {cs : Array Value} {t : Nat} (h : blk w b cs t) (o : Obj) : blk (w.alloc o) b cs t :=
  ⟨by have := h.lt; have e := h.out; show (w.heap.push o)[b]? = _; rw [Array.getElem?_push, if_neg (by omega), e]⟩
theorem blk.drew {w : World} {b : Nat} {cs : Array Value} {t : Nat} (h : blk w b cs t) : blk w.drew b cs t := ⟨h.out⟩
theorem blk.drewN {w : World} {b : Nat} {cs : Array Value} {t : Nat} (h : blk w b cs t) (n : Nat) : blk (w.drewN n) b cs t := ⟨h.out⟩
theorem blk_new (w : World) (cs : Array Value) (t b : Nat) (hb : b = w.heap.size) : blk (w.alloc (.cells cs t)) b cs t := ⟨by subst hb; exact heap_alloc_new w _⟩
theorem blk_past {w : World} {b : Nat} {cs : Array Value} {t : Nat} (h : blk w b cs t) (o : Obj) : blk (w.alloc o) b cs t := h.alloc o

theorem blk.eq {w : World} {b : Nat} {cs cs' : Array Value} {t : Nat} (h : blk w b cs t) (e : cs = cs') : blk w b cs' t := e ▸ h

/-- The world with the cells of one block replaced. -/
def World.put (w : World) (b : Nat) (cs : Array Value) (t : Nat) : World := { w with heap := w.heap.setIfInBounds b (.cells cs t (0, 0)) }
theorem put_size (w : World) (b : Nat) (cs : Array Value) (t : Nat) : (World.put w b cs t).heap.size = w.heap.size := by simp [World.put]
theorem blk_put {w : World} {b : Nat} {cs cs' : Array Value} {t : Nat} (h : blk w b cs t) (t' : Nat) : blk (World.put w b cs' t') b cs' t' :=
  ⟨by have := h.lt; simp [World.put, this]⟩
theorem blk_put_other {w : World} {b c : Nat} {cs cs' : Array Value} {t t' : Nat} (h : blk w b cs t) (hc : c ≠ b) : blk (World.put w c cs' t') b cs t :=
  ⟨by have := h.out; simp [World.put, Array.getElem?_setIfInBounds, hc, this]⟩
theorem below_put {B : Nat} {a w : World} (h : Below B a w) {b : Nat} (hb : B ≤ b) (cs : Array Value) (t : Nat) : Below B a (World.put w b cs t) :=
  h.trans ⟨rfl, rfl, rfl, by simp [World.put], fun k hk => by simp only [World.put]; rw [Array.getElem?_setIfInBounds, if_neg (by omega)]⟩
theorem below_then {B : Nat} {w w1 w2 : World} (h : Below B w w1) (hB : B ≤ w1.heap.size) (k : Below w1.heap.size w1 w2) : Below B w w2 :=
  h.trans ⟨k.os, k.tape, k.output, k.size, fun i hi => k.block i (Nat.lt_of_lt_of_le hi hB)⟩
theorem below_self {w w1 w2 : World} (h : Below w.heap.size w w1) (k : Below w1.heap.size w1 w2) : Below w.heap.size w w2 := below_then h h.size k
theorem below_alloc {w W : World} (h : Below w.heap.size w W) (o : Obj) : Below w.heap.size w (W.alloc o) := h.alloc h.size o
theorem below_drewN {B : Nat} {w W : World} (h : Below B w W) (n : Nat) : Below B w (W.drewN n) := ⟨h.os, h.tape, h.output, h.size, h.block⟩

theorem ret_b {a b : Bool} (h : b = a) : Ending.returned (.bool a) = Ending.returned (.bool b) := by rw [h]
theorem ret_agg {a b : Array Value} (h : b = a) : Ending.returned (.agg a) = Ending.returned (.agg b) := by rw [h]

/-! ### Tables of values -/
/-- The first n values of a function. -/
def tab (n : Nat) (g : Nat → Value) : Array Value := ((List.range n).map g).toArray
theorem tab_size (n : Nat) (g : Nat → Value) : (tab n g).size = n := by simp [tab]
theorem tab_get {n : Nat} {g : Nat → Value} {i : Nat} (h : i < n) : (tab n g)[i]? = some (g i) := by simp [tab, h]
theorem tab_get_some {n : Nat} {g : Nat → Value} {i : Nat} {v : Value} (h : (tab n g)[i]? = some v) : i < n ∧ v = g i := by
  rcases Nat.lt_or_ge i n with hi | hi
  · rw [tab_get hi] at h; exact ⟨hi, (Option.some.inj h).symm⟩
  · rw [Array.getElem?_eq_none (by rw [tab_size]; exact hi)] at h; cases h
theorem tab_ext {n : Nat} {f g : Nat → Value} (h : ∀ i, i < n → f i = g i) : tab n f = tab n g := by
  unfold tab
  congr 1
  exact List.map_congr_left fun a ha => h a (List.mem_range.1 ha)
theorem tab_of {n : Nat} {cs : Array Value} {g : Nat → Value} (hs : cs.size = n) (h : ∀ i, i < n → cs[i]? = some (g i)) : cs = tab n g := by
  apply Array.ext_getElem?
  intro i
  rcases Nat.lt_or_ge i n with hi | hi
  · rw [h i hi, tab_get hi]
  · rw [Array.getElem?_eq_none (by omega), Array.getElem?_eq_none (by rw [tab_size]; exact hi)]
theorem tab_set {n : Nat} {g : Nat → Value} {i : Nat} (v : Value) : (tab n g).setIfInBounds i v = tab n (fun j => if j = i then v else g j) := by
  refine tab_of (by simp [tab_size]) fun j hj => ?_
  rw [Array.getElem?_setIfInBounds]
  by_cases e : i = j
  · subst e; simp [tab_size, hj]
  · rw [if_neg e, tab_get hj, if_neg (fun h => e h.symm)]

/-- The cells of ten bytes. -/
def bys (f : Nat → Nat) : Array Value := tab 10 fun i => .int .u8 (f i)
theorem bys_size (f : Nat → Nat) : (bys f).size = 10 := tab_size _ _
theorem bys_get {f : Nat → Nat} {i : Nat} (h : i < 10) : (bys f)[i]? = some (.int .u8 (f i)) := tab_get h
theorem bys_set (f : Nat → Nat) (i v : Nat) : (bys f).setIfInBounds i (.int .u8 v) = bys (fun j => if j = i then v else f j) := by
  unfold bys; rw [tab_set]; exact tab_ext fun j _ => by dsimp only; split <;> rfl
theorem bys_grow (f : Nat → Nat) (k : Nat) : (bys fun j => if j < k then f j else 0).setIfInBounds k (.int .u8 (f k)) = bys fun j => if j < k + 1 then f j else 0 := by
  rw [bys_set]
  refine tab_ext fun i hi => ?_
  by_cases h : i = k
  · subst h; simp
  · by_cases h2 : i < k
    · simp [h, h2, show i < k + 1 by omega]
    · simp [h, h2, show ¬ i < k + 1 by omega]
theorem bys_ext {f g : Nat → Nat} (h : ∀ i, i < 10 → f i = g i) : bys f = bys g := tab_ext fun i hi => by rw [h i hi]

/-- The cells of ten bools. -/
def bls (f : Nat → Bool) : Array Value := tab 10 fun i => .bool (f i)
theorem bls_size (f : Nat → Bool) : (bls f).size = 10 := tab_size _ _
theorem bls_get {f : Nat → Bool} {i : Nat} (h : i < 10) : (bls f)[i]? = some (.bool (f i)) := tab_get h
theorem bls_set (f : Nat → Bool) (i : Nat) (v : Bool) : (bls f).setIfInBounds i (.bool v) = bls (fun j => if j = i then v else f j) := by
  unfold bls; rw [tab_set]; exact tab_ext fun j _ => by dsimp only; split <;> rfl

/-- The cells of a table of ten rows of ten bytes. -/
def tbs (t : Nat → Nat → Nat) : Array Value := tab 100 fun i => .int .u8 (t (i / 10) (i % 10))
theorem tbs_size (t : Nat → Nat → Nat) : (tbs t).size = 100 := tab_size _ _
theorem tbs_get {t : Nat → Nat → Nat} {x y : Nat} (hx : x < 10) (hy : y < 10) : (tbs t)[x * 10 + y]? = some (.int .u8 (t x y)) := by
  unfold tbs; rw [tab_get (by omega), show (x * 10 + y) / 10 = x by omega, show (x * 10 + y) % 10 = y by omega]
theorem tbs_set {t : Nat → Nat → Nat} {x y v : Nat} (hx : x < 10) (hy : y < 10) :
    (tbs t).setIfInBounds (x * 10 + y) (.int .u8 v) = tbs (fun i j => if i = x ∧ j = y then v else t i j) := by
  unfold tbs; rw [tab_set]
  refine tab_ext fun i hi => ?_
  by_cases h : i = x * 10 + y
  · subst h
    rw [if_pos rfl, show (x * 10 + y) / 10 = x by omega, show (x * 10 + y) % 10 = y by omega]
    simp
  · rw [if_neg h]
    have : ¬(i / 10 = x ∧ i % 10 = y) := by omega
    simp [this]
theorem tbs_ext {t u : Nat → Nat → Nat} (h : ∀ x y, x < 10 → y < 10 → t x y = u x y) : tbs t = tbs u := tab_ext fun i hi => by rw [h _ _ (by omega) (by omega)]

/-- The cells of a square. -/
def sqs (n : Int) (t : Nat → Nat → Nat) : Array Value := tab 101 fun i => if i = 0 then .int .i64 n else .int .u8 (t ((i - 1) / 10) ((i - 1) % 10))
theorem sqs_size (n : Int) (t : Nat → Nat → Nat) : (sqs n t).size = 101 := tab_size _ _
theorem sqs_order (n : Int) (t : Nat → Nat → Nat) : (sqs n t)[0]? = some (.int .i64 n) := tab_get (by omega)
theorem sqs_get {n : Int} {t : Nat → Nat → Nat} {x y : Nat} (hx : x < 10) (hy : y < 10) : (sqs n t)[1 + x * 10 + y]? = some (.int .u8 (t x y)) := by
  unfold sqs; rw [tab_get (by omega), if_neg (by omega), show (1 + x * 10 + y - 1) / 10 = x by omega, show (1 + x * 10 + y - 1) % 10 = y by omega]
theorem sqs_get_first {n : Int} {t : Nat → Nat → Nat} {y : Nat} (hy : y < 10) : (sqs n t)[1 + y]? = some (.int .u8 (t 0 y)) := by
  have := sqs_get (n := n) (t := t) (x := 0) (by omega) hy
  rwa [show 1 + 0 * 10 + y = 1 + y by omega] at this
theorem sqs_get_head {n : Int} {t : Nat → Nat → Nat} {x : Nat} (hx : x < 10) : (sqs n t)[1 + x * 10]? = some (.int .u8 (t x 0)) := by
  have := sqs_get (n := n) (t := t) (y := 0) hx (by omega)
  rwa [Nat.add_zero] at this
theorem sqs_ext {n m : Int} {t u : Nat → Nat → Nat} (hn : n = m) (h : ∀ x y, x < 10 → y < 10 → t x y = u x y) : sqs n t = sqs m u := by
  subst hn
  refine tab_ext fun i hi => ?_
  by_cases h0 : i = 0
  · rw [if_pos h0, if_pos h0]
  · rw [if_neg h0, if_neg h0, h _ _ (by omega) (by omega)]
theorem sqs_set {n : Int} {t : Nat → Nat → Nat} {x y v : Nat} (hx : x < 10) (hy : y < 10) :
    (sqs n t).setIfInBounds (1 + x * 10 + y) (.int .u8 v) = sqs n (fun i j => if i = x ∧ j = y then v else t i j) := by
  unfold sqs; rw [tab_set]
  refine tab_ext fun i hi => ?_
  by_cases h0 : i = 0
  · subst h0; rw [if_neg (by omega), if_pos rfl, if_pos rfl]
  · rw [if_neg h0, if_neg h0]
    by_cases h : i = 1 + x * 10 + y
    · subst h
      rw [if_pos rfl, show (1 + x * 10 + y - 1) / 10 = x by omega, show (1 + x * 10 + y - 1) % 10 = y by omega]
      simp
    · rw [if_neg h]
      have : ¬((i - 1) / 10 = x ∧ (i - 1) % 10 = y) := by omega
      simp [this]
theorem sqs_set_order (n m : Int) (t : Nat → Nat → Nat) : (sqs n t).setIfInBounds 0 (.int .i64 m) = sqs m t := by
  unfold sqs; rw [tab_set]
  refine tab_ext fun i hi => ?_
  by_cases h0 : i = 0
  · rw [if_pos h0, if_pos h0]
  · rw [if_neg h0, if_neg h0, if_neg h0]

theorem sqs_tbs {n : Int} {t : Nat → Nat → Nat} : ∀ j v, (tbs t)[j]? = some v → (sqs n t)[1 + j]? = some v := by
  intro j v h
  obtain ⟨hj, rfl⟩ := tab_get_some h
  unfold sqs; rw [tab_get (by omega), if_neg (by omega), Nat.add_sub_cancel_left]
theorem sqs_row {n : Int} {t : Nat → Nat → Nat} {x : Nat} (hx : x < 10) : ∀ j v, (bys (t x))[j]? = some v → (sqs n t)[1 + x * 10 + j]? = some v := by
  intro j v h
  obtain ⟨hj, rfl⟩ := tab_get_some h
  exact sqs_get hx hj
theorem tbs_row {t : Nat → Nat → Nat} {x : Nat} (hx : x < 10) : ∀ j v, (bys (t x))[j]? = some v → (tbs t)[x * 10 + j]? = some v := by
  intro j v h
  obtain ⟨hj, rfl⟩ := tab_get_some h
  exact tbs_get hx hj

/-! ### Whole rows and parts of rows: read and written -/
section
variable {P : Program}

theorem add_none (b i j : Nat) : (⟨b, i, none⟩ : Addr).add j = ⟨b, i + j, none⟩ := by unfold Addr.add; split <;> simp_all

theorem run_load_part (w : World) (b off : Nat) (ty : TypeId) (part : Array Value) (d : TypeDesc)
    (hu : P.underlying ty = some d) (hd : (match d with | .struct _ | .array _ _ => true | _ => false) = true) (hi : (P.info? ty).map (·.size) = some part.size)
    (hc : ∀ j v, part[j]? = some v → w.cell? ⟨b, off + j, none⟩ = some v) :
    (loadVar ty ⟨b, off, none⟩).run P w = .ok (.agg part) w := by
  have hl : (loadCells ⟨b, off, none⟩ part.toList.length).run P w = .ok part.toList.toArray w :=
    run_loadCells_list (P := P) w ⟨b, off, none⟩ part.toList (fun j v hv => by
      rw [add_none]
      exact hc j v (by simpa using hv))
  cases hq : P.info? ty with
  | none => simp [hq] at hi
  | some i =>
    have hs : i.size = part.size := by simpa [hq] using hi
    have hagg : (isAgg ty).run P w = .ok true w := by
      unfold isAgg
      rw [Sem.run_bind, run_underlying hu w]
      cases d <;> simp_all
    simp only [Array.length_toList, Array.toArray_toList] at hl
    simp [loadVar, Sem.run_bind, hagg, sizeOf, typeInfo, hq, hs, hl]

theorem wp_load_part {o : Oper} {a : Act} {w : World} {K : Act → World → Prop} {Q : Exit → Act → World → Prop} (ty : TypeId) (x : Operand) (ho : o.op = .load ty x)
    (b off : Nat) (hx : a.eval x = .pointer (some ⟨b, off, none⟩)) (part : Array Value) (d : TypeDesc)
    (hu : P.underlying ty = some d) (hd : (match d with | .struct _ | .array _ _ => true | _ => false) = true) (hi : (P.info? ty).map (·.size) = some part.size)
    (hc : ∀ j v, part[j]? = some v → w.cell? ⟨b, off + j, none⟩ = some v)
    (h : K (a.put o.dst (.agg part)) w) : o.wp P a w K Q := by
  unfold Oper.wp execOp
  simp only [ho, hx, Instr.loadAt, Instr.sureAddr, Sem.run_bind, Sem.run_pure, Result.andThen_ok, run_load_part w b off ty part d hu hd hi hc]
  exact h

theorem wpList_load_part {ops : Array Oper} {rest : List Oper} {o : Oper} {a : Act} {w : World} {Q : Exit → Act → World → Prop} (hgd : o.guard = none) (ty : TypeId) (x : Operand) (ho : o.op = .load ty x)
    (b off : Nat) (hx : a.eval x = .pointer (some ⟨b, off, none⟩)) (part : Array Value) (d : TypeDesc)
    (hu : P.underlying ty = some d) (hd : (match d with | .struct _ | .array _ _ => true | _ => false) = true) (hi : (P.info? ty).map (·.size) = some part.size)
    (hc : ∀ j v, part[j]? = some v → w.cell? ⟨b, off + j, none⟩ = some v)
    (h : wpList P ops Q rest (a.put o.dst (.agg part)) w) : wpList P ops Q (o :: rest) a w :=
  wpList_plain hgd fun _ hK => wp_load_part ty x ho b off hx part d hu hd hi hc (hK _ _ h)

theorem wpList_wanted {ops : Array Oper} {rest : List Oper} {o : Oper} {a : Act} {w : World} {Q : Exit → Act → World → Prop} (hw : Region.wanted o (yielded ops a.tmps) = true)
    (h : o.wp P a w (wpList P ops Q rest) Q) : wpList P ops Q (o :: rest) a w := by
  unfold wpList
  rw [if_pos hw]
  exact .inl h

/-- An aggregate is built of parts. -/
theorem wpList_build {ops : Array Oper} {rest : List Oper} {o : Oper} {a : Act} {w : World} {Q : Exit → Act → World → Prop} (ty : TypeId) (l : List (Nat × Operand)) (ho : o.op = .build ty l.toArray) (hw : Region.wanted o (yielded ops a.tmps) = true)
    (vals : List (Nat × Value)) (hv : l.map (fun p => (p.1, a.eval p.2)) = vals) (v : Value) (hb : (Instr.build ty vals.toArray).run P w = .ok v w)
    (h : wpList P ops Q rest (a.put o.dst v) w) : wpList P ops Q (o :: rest) a w := by
  refine wpList_wanted hw ?_
  subst hv
  unfold Oper.wp execOp
  simp only [ho, List.map_toArray, Sem.run_bind, hb, Result.andThen_ok, Sem.run_pure]
  exact h

/-- Two aggregates are compared. -/
theorem wpList_agg_g {ops : Array Oper} {rest : List Oper} {o : Oper} {a : Act} {w : World} {Q : Exit → Act → World → Prop} (op : BinOp) (ty ty' : TypeId) (x y : Operand) (ho : o.op = .binOp op ty x y ty') (hw : Region.wanted o (yielded ops a.tmps) = true)
    (xs ys : Array Value) (hx : a.eval x = .agg xs) (hy : a.eval y = .agg ys) (hm : P.eqGuardType P.depth ty = false) (v : Value) (hb : (binOp op ty (.agg xs) (.agg ys)).run P w = .ok v w)
    (h : wpList P ops Q rest (a.put o.dst v) w) : wpList P ops Q (o :: rest) a w := by
  refine wpList_wanted hw ?_
  unfold Oper.wp execOp
  simp only [ho, hx, hy, Sem.run_bind, run_eqGuard_agg w op ty x y xs ys hm, Result.andThen_ok, hb, Sem.run_pure]
  exact h

theorem wpList_load_part_g {ops : Array Oper} {rest : List Oper} {o : Oper} {a : Act} {w : World} {Q : Exit → Act → World → Prop} (ty : TypeId) (x : Operand) (ho : o.op = .load ty x) (hw : Region.wanted o (yielded ops a.tmps) = true)
    (b off : Nat) (hx : a.eval x = .pointer (some ⟨b, off, none⟩)) (part : Array Value) (d : TypeDesc)
    (hu : P.underlying ty = some d) (hd : (match d with | .struct _ | .array _ _ => true | _ => false) = true) (hi : (P.info? ty).map (·.size) = some part.size)
    (hc : ∀ j v, part[j]? = some v → w.cell? ⟨b, off + j, none⟩ = some v)
    (h : wpList P ops Q rest (a.put o.dst (.agg part)) w) : wpList P ops Q (o :: rest) a w :=
  wpList_wanted hw (wp_load_part ty x ho b off hx part d hu hd hi hc h)

/-- No cell of a row is itself a row. -/
def flat (cs : Array Value) : Prop := ∀ v ∈ cs.toList, (match v with | .agg _ | .tuple _ => false | _ => true) = true
theorem flat_tab {n : Nat} {g : Nat → Value} (h : ∀ i, i < n → (match g i with | .agg _ | .tuple _ => false | _ => true) = true) : flat (tab n g) := by
  intro v hv
  simp only [tab, List.mem_map, List.mem_range] at hv
  obtain ⟨i, hi, rfl⟩ := hv
  exact h i hi
theorem flat_bys (f : Nat → Nat) : flat (bys f) := flat_tab fun _ _ => rfl
theorem flat_bls (f : Nat → Bool) : flat (bls f) := flat_tab fun _ _ => rfl
theorem flat_tbs (t : Nat → Nat → Nat) : flat (tbs t) := flat_tab fun _ _ => rfl
theorem flat_sqs (n : Int) (t : Nat → Nat → Nat) : flat (sqs n t) := flat_tab fun i _ => by by_cases h : i = 0 <;> simp [h]

/-- The cells cs with those of part from off on. -/
def splice (cs : Array Value) (off : Nat) : List Value → Array Value
  | [] => cs
  | v :: l => splice (cs.setIfInBounds off v) (off + 1) l

theorem splice_size (off : Nat) (l : List Value) : ∀ cs : Array Value, ∀ off, (splice cs off l).size = cs.size := by
  induction l with
  | nil => intro cs off; rfl
  | cons v l ih => intro cs off; simp only [splice]; rw [ih]; simp

theorem splice_get (l : List Value) : ∀ (cs : Array Value) (off j : Nat), j < cs.size → (splice cs off l)[j]? = if off ≤ j ∧ j < off + l.length then l[j - off]? else cs[j]? := by
  induction l with
  | nil => intro cs off j hj; simp [splice]; intro h1 h2; omega
  | cons v l ih =>
    intro cs off j hj
    simp only [splice]
    rw [ih _ _ _ (by simpa using hj)]
    simp only [List.length_cons]
    by_cases h1 : off + 1 ≤ j ∧ j < off + 1 + l.length
    · rw [if_pos h1, if_pos (by omega), show j - off = (j - (off + 1)) + 1 by omega]
      simp
    · rw [if_neg h1, Array.getElem?_setIfInBounds]
      by_cases h2 : off = j
      · subst h2; rw [if_pos rfl, if_pos (by omega)]; simp [hj]
      · rw [if_neg h2, if_neg (by omega)]

theorem run_storeCells_blk (t : Nat) (b off : Nat) (l : List Value) (hl : ∀ v ∈ l, (match v with | .agg _ | .tuple _ => false | _ => true) = true) : ∀ (w : World) (cs : Array Value) (i : Nat), blk w b cs t → off + i + l.length ≤ cs.size →
    (storeCells ⟨b, off, none⟩ l i).run P w = .ok () (World.put w b (splice cs (off + i) l) t) := by
  induction l with
  | nil =>
    intro w cs i hb hsz
    have hw : World.put w b cs t = w := by
      have h1 := hb.out
      have h2 := hb.lt
      unfold World.put
      have : w.heap.setIfInBounds b (.cells cs t (0, 0)) = w.heap := by
        apply Array.ext_getElem?
        intro k
        rw [Array.getElem?_setIfInBounds]
        split
        · rename_i e; subst e; rw [h1]
        · rfl
      rw [this]
    simp [storeCells, splice, hw]
  | cons v l ih =>
    intro w cs i hb hsz
    have hv := hl v (by simp)
    have hlen : off + i < cs.size := by simp only [List.length_cons] at hsz; omega
    have hcell := hb.cell (off + i) cs[off + i] (by simp [hlen])
    have hfree := hb.free (off + i)
    have step : (store ((⟨b, off, none⟩ : Addr).add i) v).run P w = .ok () (w.setCell ⟨b, off + i, none⟩ v) := by
      rw [add_none]
      cases v <;> simp_all [store, Sem.run]
    have ih' := ih (fun u hu => hl u (by simp [hu])) (w.setCell ⟨b, off + i, none⟩ v) _ (i + 1) (hb.set (off + i) v) (by simp only [List.length_cons] at hsz; simp only [Array.size_setIfInBounds]; omega)
    have hheap : (w.setCell ⟨b, off + i, none⟩ v).heap.setIfInBounds b (.cells (splice (cs.setIfInBounds (off + i) v) (off + (i + 1)) l) t (0, 0)) = w.heap.setIfInBounds b (.cells (splice cs (off + i) (v :: l)) t (0, 0)) := by
      apply Array.ext_getElem?
      intro k
      simp only [World.setCell, Array.getElem?_setIfInBounds, Array.getElem?_modify, Array.size_modify, splice, Nat.add_assoc]
      by_cases e : b = k
      · simp [e]
      · simp [e]
    have hw : World.put (w.setCell ⟨b, off + i, none⟩ v) b (splice (cs.setIfInBounds (off + i) v) (off + (i + 1)) l) t = World.put w b (splice cs (off + i) (v :: l)) t := by
      unfold World.put
      rw [hheap]
      rfl
    unfold storeCells
    rw [Sem.run_bind, step]
    simp only [Result.andThen_ok]
    rw [ih', hw]

theorem wp_store_part {o : Oper} {a : Act} {w : World} {K : Act → World → Prop} {Q : Exit → Act → World → Prop} (ty : TypeId) (x y : Operand) (ho : o.op = .store ty x y)
    (b off : Nat) (hx : a.eval x = .pointer (some ⟨b, off, none⟩)) (part : Array Value) (hy : a.eval y = .agg part) (hi : (P.info? ty).map (·.size) = some part.size)
    (cs : Array Value) (t : Nat) (hb : blk w b cs t) (hsz : off + part.size ≤ cs.size) (hl : flat part)
    (h : K (a.put o.dst undef) (World.put w b (splice cs off part.toList) t)) : o.wp P a w K Q := by
  have hs := run_storeCells_blk (P := P) t b off part.toList hl w cs 0 hb (by simpa using hsz)
  simp only [Nat.add_zero] at hs
  cases hq : P.info? ty with
  | none => simp [hq] at hi
  | some i =>
    have hs' : i.size = part.size := by simpa [hq] using hi
    unfold Oper.wp execOp
    have hst : (storeVar ty ⟨b, off, none⟩ (.agg part)).run P w = .ok () (World.put w b (splice cs off part.toList) t) := by
      simp [storeVar, sizeOf, typeInfo, hq, hs', Value.cells, hs]
    simp only [ho, hx, hy, Instr.storeAt, Instr.sureAddr, Sem.run_bind, Sem.run_pure, Result.andThen_ok, hst]
    exact h

theorem wpList_store_part {ops : Array Oper} {rest : List Oper} {o : Oper} {a : Act} {w : World} {Q : Exit → Act → World → Prop} (hgd : o.guard = none) (ty : TypeId) (x y : Operand) (ho : o.op = .store ty x y)
    (b off : Nat) (hx : a.eval x = .pointer (some ⟨b, off, none⟩)) (part : Array Value) (hy : a.eval y = .agg part) (hi : (P.info? ty).map (·.size) = some part.size)
    (cs : Array Value) (t : Nat) (hb : blk w b cs t) (hsz : off + part.size ≤ cs.size) (hl : flat part)
    (h : wpList P ops Q rest (a.put o.dst undef) (World.put w b (splice cs off part.toList) t)) : wpList P ops Q (o :: rest) a w :=
  wpList_plain hgd fun _ hK => wp_store_part ty x y ho b off hx part hy hi cs t hb hsz hl (hK _ _ h)

theorem splice_all (cs : Array Value) (l : List Value) (h : l.length = cs.size) : splice cs 0 l = l.toArray := by
  apply Array.ext_getElem?
  intro i
  rcases Nat.lt_or_ge i cs.size with hi | hi
  · rw [splice_get _ _ _ _ hi, if_pos (by omega)]; simp
  · rw [Array.getElem?_eq_none (by rw [splice_size 0]; exact hi), Array.getElem?_eq_none (by simp; omega)]

/-- A whole block is written anew. -/
theorem wpList_store_row {ops : Array Oper} {rest : List Oper} {o : Oper} {a : Act} {w : World} {Q : Exit → Act → World → Prop} (hgd : o.guard = none) (ty : TypeId) (x y : Operand) (ho : o.op = .store ty x y)
    (b : Nat) (hx : a.eval x = .pointer (some ⟨b, 0, none⟩)) (part : Array Value) (hy : a.eval y = .agg part) (hi : (P.info? ty).map (·.size) = some part.size)
    (cs : Array Value) (t : Nat) (hb : blk w b cs t) (hsz : part.size = cs.size) (hl : flat part)
    (h : wpList P ops Q rest (a.put o.dst undef) (World.put w b part t)) : wpList P ops Q (o :: rest) a w := by
  refine wpList_store_part hgd ty x y ho b 0 hx part hy hi cs t hb (by omega) hl ?_
  rw [splice_all cs part.toList (by simpa using hsz), Array.toArray_toList]
  exact h

theorem results_part {fn : Func} {p : Tmp} {ty : TypeId} (h : fn.results = #[.cell p ty]) (tmps : Array Value) (w : World) (b off : Nat) (part : Array Value) (d : TypeDesc)
    (hp : tmps.getD p undef = .pointer (some ⟨b, off, none⟩)) (hu : P.underlying ty = some d) (hd : (match d with | .struct _ | .array _ _ => true | _ => false) = true) (hi : (P.info? ty).map (·.size) = some part.size)
    (hc : ∀ j v, part[j]? = some v → w.cell? ⟨b, off + j, none⟩ = some v) :
    (results fn tmps).run P w = .ok (.agg part) w := by
  have hp' : tmps[p]?.getD undef = .pointer (some ⟨b, off, none⟩) := by simpa using hp
  simp [results, h, hp', asAddr, run_load_part w b off ty part d hu hd hi hc]

theorem cells_of_blk {w : World} {b : Nat} {cs : Array Value} {t : Nat} (h : blk w b cs t) (off : Nat) (part : Array Value) (hp : ∀ j v, part[j]? = some v → cs[off + j]? = some v) : ∀ j v, part[j]? = some v → w.cell? ⟨b, off + j, none⟩ = some v :=
  fun j v hv => h.cell _ _ (hp j v hv)
theorem cells_of_blk0 {w : World} {b : Nat} {cs : Array Value} {t : Nat} (h : blk w b cs t) : ∀ j v, cs[j]? = some v → w.cell? ⟨b, 0 + j, none⟩ = some v :=
  fun j v hv => h.cell _ _ (by rw [Nat.zero_add]; exact hv)

theorem splice_tab {n : Nat} {g : Nat → Value} (off m : Nat) (f : Nat → Value) (h : off + m ≤ n) : splice (tab n g) off (tab m f).toList = tab n (fun i => if off ≤ i ∧ i < off + m then f (i - off) else g i) := by
  refine tab_of (by rw [splice_size 0, tab_size]) fun i hi => ?_
  rw [splice_get _ _ _ _ (by rw [tab_size]; exact hi)]
  have hm : (tab m f).toList.length = m := by rw [Array.length_toList, tab_size]
  rw [hm]
  by_cases hc : off ≤ i ∧ i < off + m
  · rw [if_pos hc, if_pos hc, Array.getElem?_toList, tab_get (by omega)]
  · rw [if_neg hc, if_neg hc, tab_get hi]
theorem splice_row {t : Nat → Nat → Nat} {x : Nat} (hx : x < 10) (r : Nat → Nat) : splice (tbs t) (x * 10) (bys r).toList = tbs (fun i j => if i = x then r j else t i j) := by
  unfold tbs bys
  rw [splice_tab _ _ _ (by omega)]
  refine tab_ext fun i hi => ?_
  by_cases h : i / 10 = x
  · rw [if_pos (by omega)]
    simp only [h, if_true]
    rw [show i - x * 10 = i % 10 by omega]
  · rw [if_neg (by omega)]
    simp only [h, if_false]
theorem tbs_grow {t : Nat → Nat → Nat} {k : Nat} (hk : k < 10) : splice (tbs fun i j => if i < k then t i j else 0) (k * 10) (bys (t k)).toList = tbs fun i j => if i < k + 1 then t i j else 0 := by
  rw [splice_row hk]
  refine tbs_ext fun i j hi hj => ?_
  by_cases h : i = k
  · subst h; simp
  · by_cases h2 : i < k
    · simp [h, h2, show i < k + 1 by omega]
    · simp [h, h2, show ¬ i < k + 1 by omega]
theorem splice_tbs (n : Int) (t u : Nat → Nat → Nat) : splice (sqs n t) 1 (tbs u).toList = sqs n u := by
  unfold sqs tbs
  rw [splice_tab _ _ _ (by omega)]
  refine tab_ext fun i hi => ?_
  by_cases h : i = 0
  · rw [if_neg (by omega), if_pos h, if_pos h]
  · rw [if_pos (by omega), if_neg h]
end
end Go.Proofs.Ythdldlpflieeoaa

/- Squares and permutations of up to ten numbers as plain mathematics. -/
namespace Go.Proofs.Ythdldlpflieeoaa
set_option linter.unusedSimpArgs false
set_option linter.unusedVariables false

/-- Ten bytes; ten rows of ten bytes. -/
structure Byt (p : Nat → Nat) : Prop where
  at_ : ∀ i : Nat, i < 10 → p i < 256
structure Byt2 (t : Nat → Nat → Nat) : Prop where
  at_ : ∀ x y : Nat, x < 10 → y < 10 → t x y < 256
theorem Byt2.row {t : Nat → Nat → Nat} (h : Byt2 t) {x : Nat} (hx : x < 10) : Byt (t x) := ⟨fun y hy => h.at_ x y hx hy⟩
theorem Byt2.turn {t : Nat → Nat → Nat} (h : Byt2 t) : Byt2 (fun x y => t y x) := ⟨fun x y hx hy => h.at_ y x hy hx⟩

/-- Ten places hold a permutation of n numbers, and 0 behind. -/
structure IsPm (n : Int) (p : Nat → Nat) : Prop where
  lo : 1 ≤ n
  hi : n ≤ 10
  zero : ∀ i : Nat, i < 10 → n ≤ (i : Int) → p i = 0
  lt : ∀ i : Nat, i < 10 → (i : Int) < n → (p i : Int) < n
  inj : ∀ i j : Nat, i < 10 → j < i → (i : Int) < n → p i ≠ p j
open Classical in
noncomputable def isPm (n : Int) (p : Nat → Nat) : Bool := decide (IsPm n p)
theorem isPm_true {n : Int} {p : Nat → Nat} : isPm n p = true ↔ IsPm n p := by simp [isPm]
theorem isPm_false {n : Int} {p : Nat → Nat} : isPm n p = false ↔ ¬ IsPm n p := by simp [isPm]

/-- As far as k the places are those of a permutation. -/
structure PmTo (n : Int) (p : Nat → Nat) (k : Nat) : Prop where
  zero : ∀ i : Nat, i < k → n ≤ (i : Int) → p i = 0
  lt : ∀ i : Nat, i < k → (i : Int) < n → (p i : Int) < n
  inj : ∀ i j : Nat, i < k → j < i → (i : Int) < n → p i ≠ p j
theorem PmTo.start (n : Int) (p : Nat → Nat) : PmTo n p 0 := ⟨fun _ h => absurd h (by omega), fun _ h => absurd h (by omega), fun _ _ h => absurd h (by omega)⟩
theorem PmTo.behind {n : Int} {p : Nat → Nat} {k : Nat} (h : PmTo n p k) (hn : n ≤ (k : Int)) (hz : p k = 0) : PmTo n p (k + 1) :=
  ⟨fun i hi hn => if e : i = k then e ▸ hz else h.zero i (by omega) hn, fun i hi hn => if e : i = k then absurd hn (by omega) else h.lt i (by omega) hn,
   fun i j hi hj hn => if e : i = k then absurd hn (by omega) else h.inj i j (by omega) hj hn⟩
theorem PmTo.more {n : Int} {p : Nat → Nat} {k : Nat} (h : PmTo n p k) (hn : (k : Int) < n) (hl : (p k : Int) < n) (hz : ∀ j, j < k → p j ≠ p k) : PmTo n p (k + 1) :=
  ⟨fun i hi hn' => if e : i = k then absurd hn (by omega) else h.zero i (by omega) hn', fun i hi hn => if e : i = k then e ▸ hl else h.lt i (by omega) hn,
   fun i j hi hj hn => if e : i = k then by subst e; exact fun h' => hz j hj h'.symm else h.inj i j (by omega) hj hn⟩
theorem PmTo.all {n : Int} {p : Nat → Nat} (h : PmTo n p 10) (h1 : 1 ≤ n) (h2 : n ≤ 10) : isPm n p = true :=
  isPm_true.2 ⟨h1, h2, h.zero, h.lt, h.inj⟩

/-- The rows of a table are permutations, and those behind are 0. -/
structure IsRw (n : Int) (t : Nat → Nat → Nat) : Prop where
  row : ∀ x : Nat, x < 10 → (x : Int) < n → IsPm n (t x)
  zero : ∀ x y : Nat, x < 10 → y < 10 → n ≤ (x : Int) → t x y = 0
open Classical in
noncomputable def isRw (n : Int) (t : Nat → Nat → Nat) : Bool := decide (IsRw n t)
theorem isRw_true {n : Int} {t : Nat → Nat → Nat} : isRw n t = true ↔ IsRw n t := by simp [isRw]
theorem isRw_false {n : Int} {t : Nat → Nat → Nat} : isRw n t = false ↔ ¬ IsRw n t := by simp [isRw]

/-- A square: rows and columns are permutations. -/
structure IsSq (n : Int) (t : Nat → Nat → Nat) : Prop where
  lo : 1 ≤ n
  hi : n ≤ 10
  rows : IsRw n t
  cols : IsRw n (fun x y => t y x)
open Classical in
noncomputable def isSq (n : Int) (t : Nat → Nat → Nat) : Bool := decide (IsSq n t)
theorem isSq_true {n : Int} {t : Nat → Nat → Nat} : isSq n t = true ↔ IsSq n t := by simp [isSq]
theorem isSq_false {n : Int} {t : Nat → Nat → Nat} : isSq n t = false ↔ ¬ IsSq n t := by simp [isSq]

/-- A loop: 0 is neutral. -/
structure IsLp (n : Int) (t : Nat → Nat → Nat) : Prop where
  sq : IsSq n t
  left : ∀ x : Nat, x < 10 → (x : Int) < n → t 0 x = x
  right : ∀ x : Nat, x < 10 → (x : Int) < n → t x 0 = x
open Classical in
noncomputable def isLp (n : Int) (t : Nat → Nat → Nat) : Bool := decide (IsLp n t)
theorem isLp_true {n : Int} {t : Nat → Nat → Nat} : isLp n t = true ↔ IsLp n t := by simp [isLp]
theorem isLp_false {n : Int} {t : Nat → Nat → Nat} : isLp n t = false ↔ ¬ IsLp n t := by simp [isLp]

/-! ### One map of numbers into themselves: what leads no two to one has all -/
theorem surj_of_inj : ∀ (N : Nat) (f : Nat → Nat), (∀ i, i < N → f i < N) → (∀ i j, i < N → j < N → f i = f j → i = j) → ∀ v, v < N → ∃ i, i < N ∧ f i = v
  | 0, _, _, _, _, hv => absurd hv (by omega)
  | N + 1, f, hl, hi, v, hv => by
    have ih := surj_of_inj N (fun i => if f i = N then f N else f i) (fun i hiN => by
      have h1 := hl i (by omega)
      have h2 := hl N (by omega)
      split
      · rename_i h
        have : f N ≠ N := fun h' => by have := hi i N (by omega) (by omega) (by omega); omega
        omega
      · omega) (fun i j hiN hjN h => by
      have h1 := hi i j (by omega) (by omega)
      have h2 := hi i N (by omega) (by omega)
      have h3 := hi j N (by omega) (by omega)
      split at h <;> split at h
      · rename_i a b; exact h1 (by omega)
      · rename_i a b; exact absurd (h3 h.symm) (by omega)
      · rename_i a b; exact absurd (h2 h) (by omega)
      · exact h1 h)
    by_cases hN : f N = v
    · exact ⟨N, by omega, hN⟩
    by_cases hv' : v = N
    · subst hv'
      obtain ⟨i, hi1, hi2⟩ := ih (f v) (by have := hl v (by omega); omega)
      split at hi2
      · rename_i h; exact ⟨i, by omega, h⟩
      · have := hi i v (by omega) (by omega) hi2; omega
    · obtain ⟨i, hi1, hi2⟩ := ih v (by omega)
      split at hi2
      · exact absurd hi2 hN
      · exact ⟨i, by omega, hi2⟩
theorem inj_of_surj (N : Nat) (f : Nat → Nat) (hs : ∀ v, v < N → ∃ i, i < N ∧ f i = v) : ∀ i j, i < N → j < N → f i = f j → i = j := by
  have hg : ∃ g : Nat → Nat, ∀ v, v < N → g v < N ∧ f (g v) = v := by
    refine ⟨fun v => if h : v < N then Classical.choose (hs v h) else 0, fun v hv => ?_⟩
    simp only [hv, dif_pos]
    exact Classical.choose_spec (hs v hv)
  obtain ⟨g, hg⟩ := hg
  have hsur := surj_of_inj N g (fun i hi => (hg i hi).1) (fun i j hi hj h => by rw [← (hg i hi).2, ← (hg j hj).2, h])
  intro i j hi hj h
  obtain ⟨a, ha, rfl⟩ := hsur i hi
  obtain ⟨b, hb, rfl⟩ := hsur j hj
  rw [(hg a ha).2, (hg b hb).2] at h
  rw [h]

/-! ### Sets of numbers as bits -/
theorem wrap_i64_nat (a : Nat) (ha : a < 9223372036854775808) : IntKind.i64.wrap (a : Int) = a := by
  have h : IntKind.i64.wrap (a : Int) = Go.RowKit.wrap64 a := by
    simp only [IntKind.wrap, IntKind.bits, IntKind.signed, Go.RowKit.wrap64]
    simp
    split <;> omega
  rw [h]; unfold Go.RowKit.wrap64; omega
theorem ofInt_i64_nat (a : Nat) (ha : a < 9223372036854775808) : (BitVec.ofInt 64 (a : Int)).toNat = a := by
  rw [BitVec.ofInt_natCast, BitVec.toNat_ofNat]; exact Nat.mod_eq_of_lt (by omega)
theorem bits_or_i64_nat (a b : Nat) (ha : a < 9223372036854775808) (hb : b < 9223372036854775808) : bits .or .i64 (a : Int) (b : Int) = ((a ||| b : Nat) : Int) := by
  have hx : a ||| b < 2 ^ 63 := Nat.or_lt_two_pow (by omega) (by omega)
  show IntKind.i64.wrap ((BitVec.ofInt 64 (a : Int) ||| BitVec.ofInt 64 (b : Int)).toNat : Int) = _
  rw [BitVec.toNat_or, ofInt_i64_nat a ha, ofInt_i64_nat b hb]
  exact wrap_i64_nat _ (by omega)
theorem bits_and_i64_nat (a b : Nat) (ha : a < 9223372036854775808) (hb : b < 9223372036854775808) : bits .and .i64 (a : Int) (b : Int) = ((a &&& b : Nat) : Int) := by
  have hx : a &&& b < 2 ^ 63 := Nat.and_lt_two_pow _ (by omega)
  show IntKind.i64.wrap ((BitVec.ofInt 64 (a : Int) &&& BitVec.ofInt 64 (b : Int)).toNat : Int) = _
  rw [BitVec.toNat_and, ofInt_i64_nat a ha, ofInt_i64_nat b hb]
  exact wrap_i64_nat _ (by omega)
theorem bits_or_pow (a k : Nat) (ha : a < 1024) (hk : k < 10) : bits .or .i64 (a : Int) (Go.RowKit.wrap64 (2 ^ k)) = ((a ||| 2 ^ k : Nat) : Int) := by
  have h : (2 : Nat) ^ k < 2 ^ 10 := Nat.pow_lt_pow_right (by omega) hk
  have e : Go.RowKit.wrap64 (2 ^ k) = ((2 ^ k : Nat) : Int) := by
    rw [show ((2 : Int) ^ k) = ((2 ^ k : Nat) : Int) by norm_cast]
    generalize 2 ^ k = m at h ⊢
    unfold Go.RowKit.wrap64
    omega
  rw [e]
  exact bits_or_i64_nat _ _ (by omega) (by omega)
/-- The bits of the first k values of f. -/
def msk (f : Nat → Nat) : Nat → Nat
  | 0 => 0
  | k + 1 => msk f k ||| 2 ^ f k
theorem msk_bit (f : Nat → Nat) (v : Nat) : ∀ k, (msk f k).testBit v = true ↔ ∃ i, i < k ∧ f i = v
  | 0 => by simp [msk]
  | k + 1 => by
    simp only [msk, Nat.testBit_or, Nat.testBit_two_pow, Bool.or_eq_true, msk_bit f v k, decide_eq_true_eq]
    constructor
    · rintro (⟨i, h1, h2⟩ | h)
      · exact ⟨i, by omega, h2⟩
      · exact ⟨k, by omega, h⟩
    · rintro ⟨i, h1, h2⟩
      by_cases h : i = k
      · subst h; exact .inr h2
      · exact .inl ⟨i, by omega, h2⟩
theorem msk_lt (f : Nat → Nat) (N : Nat) : ∀ k, (∀ i, i < k → f i < N) → msk f k < 2 ^ N
  | 0, _ => by simp [msk]; exact Nat.two_pow_pos N
  | k + 1, h => by
    refine Nat.or_lt_two_pow (msk_lt f N k fun i hi => h i (by omega)) ?_
    exact Nat.pow_lt_pow_right (by omega) (h k (by omega))
theorem msk_full (f : Nat → Nat) (N : Nat) (hl : ∀ i, i < N → f i < N) : msk f N = 2 ^ N - 1 ↔ ∀ i j, i < N → j < N → f i = f j → i = j := by
  constructor
  · intro h
    refine inj_of_surj N f fun v hv => ?_
    have : (msk f N).testBit v = true := by rw [h, Nat.testBit_two_pow_sub_one]; simpa using hv
    exact (msk_bit f v N).1 this
  · intro h
    apply Nat.eq_of_testBit_eq
    intro v
    rw [Nat.testBit_two_pow_sub_one]
    by_cases hv : v < N
    · obtain ⟨i, h1, h2⟩ := surj_of_inj N f hl h v hv
      simp [hv, (msk_bit f v N).2 ⟨i, h1, h2⟩]
    · simp only [hv, decide_false]
      rw [← Bool.not_eq_true, msk_bit]
      rintro ⟨i, h1, h2⟩
      have := hl i h1
      omega
theorem full64 {N : Nat} (h : N ≤ 10) : Go.RowKit.wrap64 (Go.RowKit.wrap64 (2 ^ N) - 1) = ((2 ^ N - 1 : Nat) : Int) := by
  have h2 : (2 : Nat) ^ N ≤ 2 ^ 10 := Nat.pow_le_pow_right (by omega) h
  have h3 : 0 < (2 : Nat) ^ N := Nat.two_pow_pos N
  rw [show ((2 : Int) ^ N) = ((2 ^ N : Nat) : Int) by norm_cast]
  generalize 2 ^ N = m at h2 h3 ⊢
  unfold Go.RowKit.wrap64
  omega
/-- One number more among the bits of a row, as the walk writes it. -/
theorem msk_step {f : Nat → Nat} {l N : Nat} (hl : l < N) (hN : N ≤ 10) (hlt : ∀ i, i ≤ l → f i < N) : bits .or .i64 ((msk f (min l N) : Nat) : Int) (Go.RowKit.wrap64 (2 ^ f l)) = ((msk f (min (l + 1) N) : Nat) : Int) := by
  rw [show min l N = l by omega, show min (l + 1) N = l + 1 by omega]
  have h1 := msk_lt f 10 l fun i hi => by have := hlt i (by omega); omega
  exact bits_or_pow _ _ (by omega) (by have := hlt l (by omega); omega)
end Go.Proofs.Ythdldlpflieeoaa

/- Permutations, triples and isotopes as plain functions. -/
namespace Go.Proofs.Ythdldlpflieeoaa
set_option linter.unusedSimpArgs false
set_option linter.unusedVariables false

/-- The first k numbers, each at its own place. -/
def idTo (k : Nat) : Nat → Nat := fun i => if i < k then i else 0
/-- p then q, as far as k. -/
def thTo (p q : Nat → Nat) (k : Nat) : Nat → Nat := fun i => if i < k then q (p i) else 0
/-- What leads back the first k places. -/
def bkTo (p : Nat → Nat) : Nat → Nat → Nat
  | 0 => fun _ => 0
  | k + 1 => fun v => if v = p k then k else bkTo p k v
/-- A column, as far as k. -/
def clTo (t : Nat → Nat → Nat) (y k : Nat) : Nat → Nat := fun x => if x < k then t x y else 0

theorem grow_ext {f : Nat → Nat} {k v : Nat} : (bys fun j => if j < k then f j else 0).setIfInBounds k (.int .u8 (v : Int)) = bys fun j => if j = k then v else if j < k then f j else 0 := bys_set _ _ _
theorem idTo_set (k : Nat) : (bys (idTo k)).setIfInBounds k (.int .u8 (k : Int)) = bys (idTo (k + 1)) := bys_grow (fun i => i) k
theorem thTo_set (p q : Nat → Nat) (k : Nat) : (bys (thTo p q k)).setIfInBounds k (.int .u8 (q (p k) : Int)) = bys (thTo p q (k + 1)) := bys_grow (fun i => q (p i)) k
theorem clTo_set (t : Nat → Nat → Nat) (y k : Nat) : (bys (clTo t y k)).setIfInBounds k (.int .u8 (t k y : Int)) = bys (clTo t y (k + 1)) := bys_grow (fun i => t i y) k
theorem bkTo_set (p : Nat → Nat) (k : Nat) : (bys (bkTo p k)).setIfInBounds (p k) (.int .u8 (k : Int)) = bys (bkTo p (k + 1)) := bys_set _ _ _
theorem clTo_all (t : Nat → Nat → Nat) (y : Nat) : ∀ i, i < 10 → clTo t y 10 i = (fun x => t x y) i := fun i hi => by simp [clTo, hi]
/-- 0 and e exchanged among the first N numbers. -/
def xch (N e : Nat) : Nat → Nat := fun i => if i = e then 0 else if i = 0 then e else idTo N i
/-- The table to which three maps lead a table of order N, behind m steps. -/
def isoW (N : Nat) (t : Nat → Nat → Nat) (f g h : Nat → Nat) : Nat → Nat → Nat → Nat
  | 0 => fun _ _ => 0
  | m + 1 => fun i j => if i = f (m / N) ∧ j = g (m % N) then h (t (m / N) (m % N)) else isoW N t f g h m i j
end Go.Proofs.Ythdldlpflieeoaa

/- All isomorphisms that extend a part of one, in order. -/
namespace Go.Proofs.Ythdldlpflieeoaa
set_option linter.unusedSimpArgs false
set_option linter.unusedVariables false

theorem flatMap_congr' {α β : Type} {l : List α} {f g : α → List β} (h : ∀ a ∈ l, f a = g a) : l.flatMap f = l.flatMap g := by
  induction l with
  | nil => rfl
  | cons a l ih => rw [List.flatMap_cons, List.flatMap_cons, h a (by simp), ih fun b hb => h b (by simp [hb])]
theorem nodup_flatMap' {α β : Type} {f : α → List β} : ∀ {l : List α}, (∀ a ∈ l, (f a).Nodup) → l.Pairwise (fun a b => ∀ x ∈ f a, ∀ y ∈ f b, x ≠ y) → (l.flatMap f).Nodup
  | [], _, _ => by simp
  | a :: l, h1, h2 => by
    rw [List.flatMap_cons, List.nodup_append]
    refine ⟨h1 a (by simp), nodup_flatMap' (fun b hb => h1 b (by simp [hb])) (List.pairwise_cons.1 h2).2, fun x hx y hy => ?_⟩
    obtain ⟨b, hb, hyb⟩ := List.mem_flatMap.1 hy
    exact (List.pairwise_cons.1 h2).1 b hb x hx y hyb

/-- All words of k numbers below N, in order. -/
def words (N : Nat) : Nat → List (List Nat)
  | 0 => [[]]
  | k + 1 => (List.range N).flatMap fun y => (words N k).map (y :: ·)
theorem mem_words {N : Nat} : ∀ {k : Nat} {p : List Nat}, p ∈ words N k ↔ p.length = k ∧ ∀ v ∈ p, v < N
  | 0, p => by
    simp only [words, List.mem_singleton]
    constructor
    · rintro rfl; simp
    · rintro ⟨h, _⟩; exact List.eq_nil_of_length_eq_zero h
  | k + 1, p => by
    simp only [words, List.mem_flatMap, List.mem_range, List.mem_map]
    constructor
    · rintro ⟨y, hy, q, hq, rfl⟩
      obtain ⟨h1, h2⟩ := mem_words.1 hq
      refine ⟨by simp [h1], fun v hv => ?_⟩
      rcases List.mem_cons.1 hv with rfl | hv
      · exact hy
      · exact h2 v hv
    · rintro ⟨h1, h2⟩
      cases p with
      | nil => simp at h1
      | cons y q => exact ⟨y, h2 y (by simp), q, mem_words.2 ⟨by simpa using h1, fun v hv => h2 v (by simp [hv])⟩, rfl⟩

/-- A list that is put together of those parts whose key is 0, 1, .. : where the words that count agree ahead of the place x. -/
theorem words_split (N : Nat) : ∀ (k x : Nat) (a : Nat → Nat) (Q : List Nat → Bool), x < k → (∀ p, p ∈ words N k → Q p = true → ∀ i, i < x → p.getD i 0 = a i) →
    (words N k).filter Q = (List.range N).flatMap fun y => (words N k).filter fun p => Q p && decide (p.getD x 0 = y)
  | 0, _, _, _, h, _ => absurd h (by omega)
  | k + 1, 0, a, Q, _, _ => by
    have key : ∀ y, y < N → ((words N (k + 1)).filter fun p => Q p && decide (p.getD 0 0 = y)) = ((words N k).map (y :: ·)).filter Q := by
      intro y hy
      simp only [words, List.filter_flatMap]
      have h1 : ∀ z, (((words N k).map (z :: ·)).filter fun p => Q p && decide (p.getD 0 0 = y)) = if z = y then ((words N k).map (y :: ·)).filter Q else [] := by
        intro z
        split
        · rename_i h; subst h
          refine List.filter_congr fun p hp => ?_
          obtain ⟨q, _, rfl⟩ := List.mem_map.1 hp
          simp
        · rename_i h
          refine List.filter_eq_nil_iff.2 fun p hp => ?_
          obtain ⟨q, _, rfl⟩ := List.mem_map.1 hp
          simp [h]
      simp only [h1]
      have h2 : ∀ (l : List Nat) (c : List (List Nat)), l.Nodup → (l.flatMap fun z => if z = y then c else []) = if y ∈ l then c else [] := by
        intro l c
        induction l with
        | nil => intro _; simp
        | cons z l ih =>
          intro hn
          rw [List.flatMap_cons, ih (List.nodup_cons.1 hn).2]
          by_cases hz : z = y
          · subst hz
            have := (List.nodup_cons.1 hn).1
            simp [this]
          · have : ¬ y = z := fun h => hz h.symm
            simp [hz, this]
      rw [h2 _ _ List.nodup_range]
      simp [hy]
    have h3 : (words N (k + 1)).filter Q = (List.range N).flatMap fun y => ((words N k).map (y :: ·)).filter Q := by simp only [words, List.filter_flatMap]
    rw [h3]
    refine flatMap_congr' fun y hy => ?_
    exact (key y (List.mem_range.1 hy)).symm
  | k + 1, x + 1, a, Q, h, hQ => by
    have ih := fun z : Nat => words_split N k x (fun i => a (i + 1)) (fun p => Q (z :: p)) (by omega)
    have hz : ∀ z, z < N → ((words N k).map (z :: ·)).filter Q = (List.range N).flatMap fun y => ((words N k).map (z :: ·)).filter fun p => Q p && decide (p.getD (x + 1) 0 = y) := by
      intro z hz
      have := ih z fun p hp hq i hi => by
        have := hQ (z :: p) (mem_words.2 ⟨by simp [(mem_words.1 hp).1], fun v hv => by
          rcases List.mem_cons.1 hv with rfl | hv
          · exact hz
          · exact (mem_words.1 hp).2 v hv⟩) hq (i + 1) (by omega)
        simpa using this
      simp only [List.filter_map, Function.comp_def]
      rw [this, List.map_flatMap]
      refine flatMap_congr' fun y _ => ?_
      simp
    by_cases hany : ∃ p, p ∈ words N (k + 1) ∧ Q p = true
    · obtain ⟨p0, hp0, hq0⟩ := hany
      have ha : ∀ z, z ≠ a 0 → ∀ p ∈ words N k, z < N → Q (z :: p) = false := by
        intro z hz p hp hzN
        cases hq : Q (z :: p) with
        | false => rfl
        | true =>
          have := hQ (z :: p) (mem_words.2 ⟨by simp [(mem_words.1 hp).1], fun v hv => by
            rcases List.mem_cons.1 hv with rfl | hv
            · exact hzN
            · exact (mem_words.1 hp).2 v hv⟩) hq 0 (by omega)
          simp at this
          exact absurd this hz
      have ha0 : a 0 < N := by
        have h1 := hQ p0 hp0 hq0 0 (by omega)
        obtain ⟨h2, h3⟩ := mem_words.1 hp0
        cases p0 with
        | nil => simp at h2
        | cons v q => simp at h1; exact h1 ▸ h3 v (by simp)
      have only : ∀ (R : List Nat → Bool), (∀ p, R p = true → Q p = true) → (words N (k + 1)).filter R = ((words N k).map (a 0 :: ·)).filter R := by
        intro R hR
        simp only [words, List.filter_flatMap]
        have h1 : ∀ z ∈ List.range N, ((words N k).map (z :: ·)).filter R = if z = a 0 then ((words N k).map (a 0 :: ·)).filter R else [] := by
          intro z hzr
          split
          · rename_i h; rw [h]
          · rename_i h
            refine List.filter_eq_nil_iff.2 fun p hp => ?_
            obtain ⟨q, hq, rfl⟩ := List.mem_map.1 hp
            intro hr
            have := ha z h q hq (List.mem_range.1 hzr)
            rw [hR _ hr] at this
            cases this
        rw [flatMap_congr' h1]
        have h2 : ∀ (l : List Nat) (c : List (List Nat)), l.Nodup → (l.flatMap fun z => if z = a 0 then c else []) = if a 0 ∈ l then c else [] := by
          intro l c
          induction l with
          | nil => intro _; simp
          | cons z l ih =>
            intro hn
            rw [List.flatMap_cons, ih (List.nodup_cons.1 hn).2]
            by_cases hz : z = a 0
            · have := (List.nodup_cons.1 hn).1
              rw [hz] at this
              simp [hz, this]
            · have : ¬ a 0 = z := fun h => hz h.symm
              simp [hz, this]
        rw [h2 _ _ List.nodup_range]
        simp [ha0]
      rw [only Q fun _ h => h, hz (a 0) ha0]
      refine flatMap_congr' fun y _ => ?_
      rw [only _ fun p hp => by simp at hp; exact hp.1]
    · have h0 : ∀ (R : List Nat → Bool), (∀ p, R p = true → Q p = true) → (words N (k + 1)).filter R = [] := by
        intro R hR
        refine List.filter_eq_nil_iff.2 fun p hp hr => hany ⟨p, hp, hR p hr⟩
      rw [h0 Q fun _ h => h]
      symm
      rw [List.flatMap_eq_nil_iff]
      intro y _
      exact h0 _ fun p hp => by simp at hp; exact hp.1

/-- An isomorphism from t to u, as a word. -/
structure IsIso (N : Nat) (t u : Nat → Nat → Nat) (p : List Nat) : Prop where
  hom : ∀ x y, x < N → y < N → p.getD (t x y) 0 = u (p.getD x 0) (p.getD y 0)
  inj : ∀ x y, x < N → y < N → p.getD x 0 = p.getD y 0 → x = y
/-- A word has what a part of a map has. -/
def Ext (N : Nat) (m : Nat → Option Nat) (p : List Nat) : Prop := ∀ x y, x < N → m x = some y → p.getD x 0 = y
noncomputable def isoB (N : Nat) (t u : Nat → Nat → Nat) (m : Nat → Option Nat) (p : List Nat) : Bool := @decide (IsIso N t u p ∧ Ext N m p) (Classical.propDecidable _)
theorem isoB_true {N : Nat} {t u : Nat → Nat → Nat} {m : Nat → Option Nat} {p : List Nat} : isoB N t u m p = true ↔ IsIso N t u p ∧ Ext N m p := by simp [isoB]
/-- All isomorphisms that extend m, in order. -/
noncomputable def isos (N : Nat) (t u : Nat → Nat → Nat) (m : Nat → Option Nat) : List (List Nat) := (words N N).filter (isoB N t u m)
theorem mem_isos {N : Nat} {t u : Nat → Nat → Nat} {m : Nat → Option Nat} {p : List Nat} : p ∈ isos N t u m ↔ (p.length = N ∧ ∀ v ∈ p, v < N) ∧ IsIso N t u p ∧ Ext N m p := by
  simp [isos, mem_words, isoB_true]
/-- A map with one place more. -/
def upd (m : Nat → Option Nat) (x y : Nat) : Nat → Option Nat := fun i => if i = x then some y else m i

theorem isos_congr {N : Nat} {t u : Nat → Nat → Nat} {m m' : Nat → Option Nat} (h : ∀ p, p.length = N → (∀ v ∈ p, v < N) → IsIso N t u p → (Ext N m p ↔ Ext N m' p)) : isos N t u m = isos N t u m' := by
  unfold isos
  refine List.filter_congr fun p hp => ?_
  obtain ⟨h1, h2⟩ := mem_words.1 hp
  rw [Bool.eq_iff_iff, isoB_true, isoB_true]
  exact ⟨fun h3 => ⟨h3.1, (h p h1 h2 h3.1).1 h3.2⟩, fun h3 => ⟨h3.1, (h p h1 h2 h3.1).2 h3.2⟩⟩
theorem isos_nil {N : Nat} {t u : Nat → Nat → Nat} {m : Nat → Option Nat} (h : ∀ p, p.length = N → (∀ v ∈ p, v < N) → IsIso N t u p → ¬ Ext N m p) : isos N t u m = [] := by
  unfold isos
  refine List.filter_eq_nil_iff.2 fun p hp => ?_
  obtain ⟨h1, h2⟩ := mem_words.1 hp
  rw [isoB_true, not_and]
  exact fun hi => h p h1 h2 hi
theorem isos_split {N : Nat} {t u : Nat → Nat → Nat} {m : Nat → Option Nat} {x : Nat} (hx : x < N) (hm : ∀ i, i < x → m i ≠ none) (hx0 : m x = none) :
    isos N t u m = (List.range N).flatMap fun y => isos N t u (upd m x y) := by
  have h := words_split N N x (fun i => (m i).getD 0) (isoB N t u m) hx fun p _ hq i hi => by
    rw [isoB_true] at hq
    cases hmi : m i with
    | none => exact absurd hmi (hm i hi)
    | some v => exact hq.2 i v (by omega) hmi
  unfold isos
  rw [h]
  refine flatMap_congr' fun y _ => ?_
  refine List.filter_congr fun p _ => ?_
  rw [Bool.eq_iff_iff, isoB_true, Bool.and_eq_true, isoB_true, decide_eq_true_eq]
  constructor
  · rintro ⟨⟨h1, h2⟩, h3⟩
    refine ⟨h1, fun i v hi hv => ?_⟩
    unfold upd at hv
    split at hv
    · rename_i e; subst e; rw [← Option.some.inj hv]; exact h3
    · exact h2 i v hi hv
  · rintro ⟨h1, h2⟩
    refine ⟨⟨h1, fun i v hi hv => h2 i v hi ?_⟩, h2 x y hx (by simp [upd])⟩
    unfold upd
    rw [if_neg (fun e => by subst e; rw [hx0] at hv; cases hv)]
    exact hv

/-- The word of a map that has all. -/
def wordOf (N : Nat) (m : Nat → Option Nat) : List Nat := (List.range N).map fun i => (m i).getD 0
theorem words_nodup (N : Nat) : ∀ k, (words N k).Nodup
  | 0 => by simp [words]
  | k + 1 => by
    unfold words
    refine nodup_flatMap' (fun y _ => ?_) ?_
    · have := words_nodup N k
      rw [List.Nodup, List.pairwise_map]
      exact this.imp fun h e => h (by simpa using e)
    · refine List.nodup_range.imp fun {a b} hab p hp q hq => ?_
      obtain ⟨r, _, rfl⟩ := List.mem_map.1 hp
      obtain ⟨s, _, rfl⟩ := List.mem_map.1 hq
      intro e
      simp at e
      exact hab e.1
theorem isos_total {N : Nat} {t u : Nat → Nat → Nat} {m : Nat → Option Nat} (hall : ∀ i, i < N → ∃ v, m i = some v ∧ v < N) (ht : ∀ x y, x < N → y < N → t x y < N)
    (hhom : ∀ x y a b, x < N → y < N → m x = some a → m y = some b → m (t x y) = some (u a b)) (hinj : ∀ x y a, x < N → y < N → m x = some a → m y = some a → x = y) : isos N t u m = [wordOf N m] := by
  have hget : ∀ i, i < N → (wordOf N m).getD i 0 = (m i).getD 0 := fun i hi => by simp [wordOf, List.getD_eq_getElem?_getD, hi]
  have hmem : wordOf N m ∈ isos N t u m := by
    refine mem_isos.2 ⟨⟨by simp [wordOf], fun v hv => ?_⟩, ⟨fun x y hx hy => ?_, fun x y hx hy h => ?_⟩, fun x y hx h => by rw [hget x hx, h]; rfl⟩
    · simp only [wordOf, List.mem_map, List.mem_range] at hv
      obtain ⟨i, hi, rfl⟩ := hv
      obtain ⟨w, hw, hlt⟩ := hall i hi
      rw [hw]; exact hlt
    · rw [hget _ (ht x y hx hy), hget x hx, hget y hy]
      obtain ⟨a, ha, _⟩ := hall x hx
      obtain ⟨b, hb, _⟩ := hall y hy
      rw [hhom x y a b hx hy ha hb, ha, hb]; rfl
    · rw [hget x hx, hget y hy] at h
      obtain ⟨a, ha, _⟩ := hall x hx
      obtain ⟨b, hb, _⟩ := hall y hy
      rw [ha, hb] at h
      exact hinj x y a hx hy ha (by rw [hb]; exact congrArg some h.symm)
  have huniq : ∀ p ∈ isos N t u m, p = wordOf N m := by
    intro p hp
    obtain ⟨⟨h1, _⟩, _, h3⟩ := mem_isos.1 hp
    refine List.ext_getElem (by simp [wordOf, h1]) fun i hi1 hi2 => ?_
    have hi : i < N := by omega
    obtain ⟨a, ha, _⟩ := hall i hi
    have := h3 i a hi ha
    simp [List.getD_eq_getElem?_getD, hi1] at this
    simp [wordOf, ha, this]
  have hnd : (isos N t u m).Nodup := (words_nodup N N).filter _
  cases hl : isos N t u m with
  | nil => rw [hl] at hmem; cases hmem
  | cons a l =>
    have h1 := huniq a (by rw [hl]; simp)
    cases l with
    | nil => rw [h1]
    | cons b l =>
      have h2 := huniq b (by rw [hl]; simp)
      rw [hl] at hnd
      simp [h1, h2] at hnd
end Go.Proofs.Ythdldlpflieeoaa

/- The reference's closing of a part of an isomorphism, as a plain function, and what it gives. -/
namespace Go.Proofs.Ythdldlpflieeoaa
set_option linter.unusedSimpArgs false
set_option linter.unusedVariables false

/-- A part of a map: where each element is led (less than 0: nowhere), what is used, how many there are. -/
structure PM where
  to : Nat → Int
  used : Nat → Int
  size : Int
def PM.add (m : PM) (x y : Nat) : PM := { to := fun i => if i = x then (y : Int) else m.to i, used := fun i => if i = y then 1 else m.used i, size := m.size + 1 }
/-- The part as a partial map. -/
def PM.abs (m : PM) : Nat → Option Nat := fun x => if m.to x < 0 then none else some (m.to x).toNat

/-- How many of the first k elements are led nowhere. -/
def um (f : Nat → Int) : Nat → Nat
  | 0 => 0
  | k + 1 => um f k + if f k < 0 then 1 else 0
theorem um_mono {f g : Nat → Int} : ∀ k, (∀ z, z < k → 0 ≤ f z → 0 ≤ g z) → um g k ≤ um f k
  | 0, _ => Nat.le_refl _
  | k + 1, h => by
    have ih := um_mono k fun z hz => h z (by omega)
    have := h k (by omega)
    simp only [um]
    split <;> split <;> omega
theorem um_add {f : Nat → Int} {x : Nat} {y : Int} (hx : f x < 0) (hy : 0 ≤ y) : ∀ k, um (fun i => if i = x then y else f i) k + (if x < k then 1 else 0) = um f k
  | 0 => rfl
  | k + 1 => by
    have ih := um_add hx hy k
    simp only [um]
    by_cases e : k = x
    · subst e
      simp only [if_true, if_pos hx, Nat.lt_irrefl, if_false, Nat.lt_add_one] at ih ⊢
      rw [if_neg (by omega)]
      omega
    · simp only [e, if_false]
      split at ih <;> split <;> split <;> omega
theorem um_zero {f : Nat → Int} : ∀ {k : Nat}, um f k = 0 → ∀ z, z < k → 0 ≤ f z
  | 0, _, _, h => absurd h (by omega)
  | k + 1, h, z, hz => by
    simp only [um] at h
    by_cases e : z = k
    · subst e
      by_cases hf : f z < 0
      · rw [if_pos hf] at h; omega
      · omega
    · exact um_zero (k := k) (by omega) z (by omega)
theorem um_pos {f : Nat → Int} : ∀ {k : Nat}, um f k ≠ 0 → ∃ z, z < k ∧ f z < 0 ∧ ∀ i, i < z → 0 ≤ f i
  | 0, h => absurd rfl h
  | k + 1, h => by
    by_cases h0 : um f k = 0
    · simp only [um, h0] at h
      refine ⟨k, by omega, ?_, um_zero h0⟩
      by_cases hf : f k < 0
      · exact hf
      · rw [if_neg hf] at h; exact absurd rfl h
    · obtain ⟨z, h1, h2⟩ := um_pos (k := k) h0
      exact ⟨z, by omega, h2⟩
theorem um_le (f : Nat → Int) : ∀ k, um f k ≤ k
  | 0 => Nat.le_refl _
  | k + 1 => by have := um_le f k; simp only [um]; split <;> omega

structure Va (N : Nat) (m : PM) : Prop where
  lt : ∀ x, x < N → m.to x < N
  inj : ∀ x y, x < N → y < N → 0 ≤ m.to x → m.to x = m.to y → x = y
  used : ∀ v : Nat, v < N → (0 < m.used v ↔ ∃ x, x < N ∧ m.to x = v)
  size : m.size = (N : Int) - um m.to N
theorem Va.add {N : Nat} {m : PM} (h : Va N m) {x y : Nat} (hx : x < N) (hy : y < N) (hx0 : m.to x < 0) (hy0 : ¬ 0 < m.used y) : Va N (m.add x y) where
  lt z hz := by
    unfold PM.add; dsimp only
    split
    · omega
    · exact h.lt z hz
  inj a b ha hb h0 he := by
    unfold PM.add at h0 he; dsimp only at h0 he
    have hn : ∀ z, z < N → m.to z ≠ y := fun z hz e => hy0 ((h.used y hy).2 ⟨z, hz, e⟩)
    split at he <;> split at he
    · omega
    · rename_i h1 h2; exact absurd he.symm (hn b hb)
    · rename_i h1 h2; exact absurd he (hn a ha)
    · rename_i h1 h2; rw [if_neg h1] at h0; exact h.inj a b ha hb h0 he
  used v hv := by
    unfold PM.add; dsimp only
    by_cases e : v = y
    · subst e
      rw [if_pos rfl]
      exact ⟨fun _ => ⟨x, hx, by rw [if_pos rfl]⟩, fun _ => by omega⟩
    · rw [if_neg e, h.used v hv]
      constructor
      · rintro ⟨z, hz, hzv⟩
        refine ⟨z, hz, ?_⟩
        rw [if_neg (fun e' => by subst e'; omega)]; exact hzv
      · rintro ⟨z, hz, hzv⟩
        split at hzv
        · exact absurd hzv (by omega)
        · exact ⟨z, hz, hzv⟩
  size := by
    have := um_add (f := m.to) (x := x) (y := (y : Int)) hx0 (by omega) N
    rw [if_pos hx] at this
    show m.size + 1 = _
    rw [h.size]
    show _ = (N : Int) - (um (fun i => if i = x then (y : Int) else m.to i) N : Nat)
    omega

/-- m' has what m has. -/
def Sub (N : Nat) (m m' : PM) : Prop := ∀ z, z < N → 0 ≤ m.to z → m'.to z = m.to z
theorem Sub.refl (N : Nat) (m : PM) : Sub N m m := fun _ _ _ => rfl
theorem Sub.trans {N : Nat} {a b c : PM} (h : Sub N a b) (k : Sub N b c) : Sub N a c := fun z hz h0 => by
  have := h z hz h0
  rw [k z hz (by omega), this]
/-- The product of a and b is led where it should be. -/
def Cons (t u : Nat → Nat → Nat) (m : PM) (a b : Nat) : Prop := m.to (t a b) = (u (m.to a).toNat (m.to b).toNat : Int)
theorem Cons.sub {N : Nat} {t u : Nat → Nat → Nat} {m m' : PM} {a b : Nat} (h : Cons t u m a b) (hs : Sub N m m') (ht : t a b < N) (ha : a < N) (hb : b < N) (ha0 : 0 ≤ m.to a) (hb0 : 0 ≤ m.to b) : Cons t u m' a b := by
  unfold Cons at *
  rw [hs _ ht (by omega), hs _ ha ha0, hs _ hb hb0]
  exact h
/-- A homomorphism that leads no two to one and has what m has. -/
structure Hom (N : Nat) (t u : Nat → Nat → Nat) (m : PM) (P : Nat → Nat) : Prop where
  hom : ∀ a b, a < N → b < N → P (t a b) = u (P a) (P b)
  inj : ∀ a b, a < N → b < N → P a = P b → a = b
  has : ∀ z, z < N → 0 ≤ m.to z → (P z : Int) = m.to z

def closeL (f : PM → Nat → Nat → PM × Bool) (t u : Nat → Nat → Nat) (x y : Nat) : Nat → Nat → PM → PM × Bool
  | 0, _, m => (m, true)
  | r + 1, a, m =>
    if m.to a < 0 then closeL f t u x y r (a + 1) m else
    if (f m (t x a) (u y (m.to a).toNat)).2 = false then ((f m (t x a) (u y (m.to a).toNat)).1, false) else
    if (f (f m (t x a) (u y (m.to a).toNat)).1 (t a x) (u (m.to a).toNat y)).2 = false then ((f (f m (t x a) (u y (m.to a).toNat)).1 (t a x) (u (m.to a).toNat y)).1, false) else
    closeL f t u x y r (a + 1) (f (f m (t x a) (u y (m.to a).toNat)).1 (t a x) (u (m.to a).toNat y)).1
def closeF (N : Nat) (t u : Nat → Nat → Nat) : Nat → PM → Nat → Nat → PM × Bool
  | 0, m, _, _ => (m, false)
  | K + 1, m, x, y => if 0 ≤ m.to x ∨ 0 < m.used y then (m, decide (m.to x = y)) else closeL (closeF N t u K) t u x y N 0 (m.add x y)

/-- What closing gives. -/
structure Closes (N : Nat) (t u : Nat → Nat → Nat) (m : PM) (x y : Nat) (r : PM × Bool) : Prop where
  va : r.2 = true → Va N r.1
  sub : r.2 = true → Sub N m r.1
  at_ : r.2 = true → r.1.to x = y
  new : r.2 = true → ∀ z c, z < N → c < N → m.to z < 0 → 0 ≤ r.1.to z → 0 ≤ r.1.to c → Cons t u r.1 z c ∧ Cons t u r.1 c z
  forced : ∀ P, Hom N t u m P → P x = y → r.2 = true ∧ Hom N t u r.1 P

theorem closeL_closes {N K : Nat} {t u : Nat → Nat → Nat} {x y : Nat} (hx : x < N) (hy : y < N) (ht : ∀ a b, a < N → b < N → t a b < N) (hu : ∀ a b, a < N → b < N → u a b < N) (f : PM → Nat → Nat → PM × Bool)
    (hf : ∀ m x y, Va N m → x < N → y < N → um m.to N < K → Closes N t u m x y (f m x y)) (m1 : PM) (hm1 : um m1.to N < K) (hx1 : m1.to x = y) :
    ∀ (r a : Nat) (m : PM), a + r = N → Va N m → Sub N m1 m →
      (∀ z c, z < N → c < N → m1.to z < 0 → 0 ≤ m.to z → 0 ≤ m.to c → Cons t u m z c ∧ Cons t u m c z) →
      (∀ c, c < N → 0 ≤ m.to c → (c < a ∨ m1.to c < 0) → Cons t u m x c ∧ Cons t u m c x) →
      let R := closeL f t u x y r a m
      (R.2 = true → Va N R.1 ∧ Sub N m R.1 ∧ (∀ z c, z < N → c < N → m1.to z < 0 → 0 ≤ R.1.to z → 0 ≤ R.1.to c → Cons t u R.1 z c ∧ Cons t u R.1 c z) ∧ (∀ c, c < N → 0 ≤ R.1.to c → Cons t u R.1 x c ∧ Cons t u R.1 c x)) ∧
      (∀ P, Hom N t u m P → R.2 = true ∧ Hom N t u R.1 P)
  | 0, a, m, ha, hv, hs, hnew, hX => by
    refine ⟨fun _ => ⟨hv, Sub.refl _ _, hnew, fun c hc h0 => hX c hc h0 (.inl (by omega))⟩, fun P hP => ⟨rfl, hP⟩⟩
  | r + 1, a, m, ha, hv, hs, hnew, hX => by
    have haN : a < N := by omega
    have hmx : m.to x = y := by rw [hs x hx (by omega), hx1]
    simp only [closeL]
    by_cases h0 : m.to a < 0
    · rw [if_pos h0]
      exact closeL_closes hx hy ht hu f hf m1 hm1 hx1 r (a + 1) m (by omega) hv hs hnew fun c hc hc0 hca => hX c hc hc0 (by
        rcases hca with h | h
        · by_cases e : c = a
          · subst e; omega
          · exact .inl (by omega)
        · exact .inr h)
    · rw [if_neg h0]
      have hma : (m.to a).toNat < N := by have := hv.lt a haN; omega
      have humm : um m.to N < K := Nat.lt_of_le_of_lt (um_mono N fun z hz h => by rw [hs z hz h]; exact h) hm1
      have C1 := hf m (t x a) (u y (m.to a).toNat) hv (ht x a hx haN) (hu _ _ hy hma) humm
      generalize f m (t x a) (u y (m.to a).toNat) = R1 at C1 ⊢
      have hP1 : ∀ P, Hom N t u m P → R1.2 = true ∧ Hom N t u R1.1 P := fun P hP => C1.forced P hP (by
        have e1 := hP.has x hx (by omega)
        have e2 := hP.has a haN (by omega)
        rw [hP.hom x a hx haN, show P x = y by omega, show P a = (m.to a).toNat by omega])
      by_cases k1 : R1.2 = false
      · rw [if_pos k1]
        exact ⟨fun h => (by cases h), fun P hP => by have := (hP1 P hP).1; rw [k1] at this; cases this⟩
      · have k1' : R1.2 = true := by simpa using k1
        rw [if_neg k1]
        have v1 := C1.va k1'
        have s1 := C1.sub k1'
        have hR1x : R1.1.to x = y := by rw [s1 x hx (by omega), hmx]
        have hR1a : R1.1.to a = m.to a := s1 a haN (by omega)
        have hc1 : Cons t u R1.1 x a := by
          unfold Cons
          rw [C1.at_ k1', hR1x, hR1a]; simp
        have new1 : ∀ z c, z < N → c < N → m1.to z < 0 → 0 ≤ R1.1.to z → 0 ≤ R1.1.to c → Cons t u R1.1 z c ∧ Cons t u R1.1 c z := by
          intro z c hz hc hz1 hzR hcR
          by_cases hzm : m.to z < 0
          · exact C1.new k1' z c hz hc hzm hzR hcR
          · by_cases hcm : m.to c < 0
            · exact (C1.new k1' c z hc hz hcm hcR hzR).symm
            · have := hnew z c hz hc hz1 (by omega) (by omega)
              exact ⟨this.1.sub s1 (ht _ _ hz hc) hz hc (by omega) (by omega), this.2.sub s1 (ht _ _ hc hz) hc hz (by omega) (by omega)⟩
        have X1 : ∀ c, c < N → 0 ≤ R1.1.to c → (c < a ∨ m1.to c < 0) → Cons t u R1.1 x c ∧ Cons t u R1.1 c x := by
          intro c hc hcR hca
          by_cases hcm : m.to c < 0
          · exact (C1.new k1' c x hc hx hcm hcR (by omega)).symm
          · have := hX c hc (by omega) hca
            exact ⟨this.1.sub s1 (ht _ _ hx hc) hx hc (by omega) (by omega), this.2.sub s1 (ht _ _ hc hx) hc hx (by omega) (by omega)⟩
        have humR : um R1.1.to N < K := Nat.lt_of_le_of_lt (um_mono N fun z hz h => by rw [s1 z hz h]; exact h) humm
        have C2 := hf R1.1 (t a x) (u (m.to a).toNat y) v1 (ht a x haN hx) (hu _ _ hma hy) humR
        generalize f R1.1 (t a x) (u (m.to a).toNat y) = R2 at C2 ⊢
        have hP2 : ∀ P, Hom N t u m P → R2.2 = true ∧ Hom N t u R2.1 P := fun P hP => C2.forced P (hP1 P hP).2 (by
          have e1 := hP.has x hx (by omega)
          have e2 := hP.has a haN (by omega)
          rw [hP.hom a x haN hx, show P x = y by omega, show P a = (m.to a).toNat by omega])
        by_cases k2 : R2.2 = false
        · rw [if_pos k2]
          exact ⟨fun h => (by cases h), fun P hP => by have := (hP2 P hP).1; rw [k2] at this; cases this⟩
        · have k2' : R2.2 = true := by simpa using k2
          rw [if_neg k2]
          have v2 := C2.va k2'
          have s2 := C2.sub k2'
          have hR2x : R2.1.to x = y := by rw [s2 x hx (by omega), hR1x]
          have hR2a : R2.1.to a = m.to a := by rw [s2 a haN (by omega), hR1a]
          have hc2 : Cons t u R2.1 a x := by
            unfold Cons
            rw [C2.at_ k2', hR2x, hR2a]; simp
          have new2 : ∀ z c, z < N → c < N → m1.to z < 0 → 0 ≤ R2.1.to z → 0 ≤ R2.1.to c → Cons t u R2.1 z c ∧ Cons t u R2.1 c z := by
            intro z c hz hc hz1 hzR hcR
            by_cases hzm : R1.1.to z < 0
            · exact C2.new k2' z c hz hc hzm hzR hcR
            · by_cases hcm : R1.1.to c < 0
              · exact (C2.new k2' c z hc hz hcm hcR hzR).symm
              · have := new1 z c hz hc hz1 (by omega) (by omega)
                exact ⟨this.1.sub s2 (ht _ _ hz hc) hz hc (by omega) (by omega), this.2.sub s2 (ht _ _ hc hz) hc hz (by omega) (by omega)⟩
          have X2 : ∀ c, c < N → 0 ≤ R2.1.to c → (c < a + 1 ∨ m1.to c < 0) → Cons t u R2.1 x c ∧ Cons t u R2.1 c x := by
            intro c hc hcR hca
            by_cases hcm : R1.1.to c < 0
            · exact (C2.new k2' c x hc hx hcm hcR (by omega)).symm
            · by_cases e : c = a
              · subst e
                exact ⟨hc1.sub s2 (ht _ _ hx hc) hx hc (by omega) (by omega), hc2⟩
              · have := X1 c hc (by omega) (hca.imp_left fun h => by omega)
                exact ⟨this.1.sub s2 (ht _ _ hx hc) hx hc (by omega) (by omega), this.2.sub s2 (ht _ _ hc hx) hc hx (by omega) (by omega)⟩
          have hrec := closeL_closes hx hy ht hu f hf m1 hm1 hx1 r (a + 1) R2.1 (by omega) v2 ((hs.trans s1).trans s2) new2 X2
          refine ⟨fun h => ?_, fun P hP => hrec.2 P (hP2 P hP).2⟩
          obtain ⟨g1, g2, g3, g4⟩ := hrec.1 h
          exact ⟨g1, (s1.trans s2).trans g2, g3, g4⟩

theorem closeF_closes {N : Nat} {t u : Nat → Nat → Nat} (ht : ∀ a b, a < N → b < N → t a b < N) (hu : ∀ a b, a < N → b < N → u a b < N) :
    ∀ (K : Nat) (m : PM) (x y : Nat), Va N m → x < N → y < N → um m.to N < K → Closes N t u m x y (closeF N t u K m x y)
  | 0, _, _, _, _, _, _, h => absurd h (by omega)
  | K + 1, m, x, y, hv, hx, hy, hK => by
    simp only [closeF]
    by_cases h : 0 ≤ m.to x ∨ 0 < m.used y
    · rw [if_pos h]
      refine ⟨fun _ => hv, fun _ => Sub.refl _ _, fun h' => by simpa using h', fun _ z c hz hc h1 h2 => by dsimp only at h2; omega, fun P hP hPx => ⟨?_, hP⟩⟩
      simp only [decide_eq_true_eq]
      rcases h with h | h
      · rw [← hP.has x hx h, hPx]
      · obtain ⟨z, hz, hzy⟩ := (hv.used y hy).1 h
        have h1 := hP.has z hz (by omega)
        have : z = x := hP.inj z x hz hx (by omega)
        subst this; exact hzy
    · rw [if_neg h]
      have hx0 : m.to x < 0 := by omega
      have hy0 : ¬ 0 < m.used y := fun h' => h (.inr h')
      have va := hv.add hx hy hx0 hy0
      have hum : um (m.add x y).to N < K := by
        have := um_add (f := m.to) (x := x) (y := (y : Int)) hx0 (by omega) N
        rw [if_pos hx] at this
        show um (fun i => if i = x then (y : Int) else m.to i) N < K
        omega
      have hx1 : (m.add x y).to x = y := by simp [PM.add]
      have hsub : Sub N m (m.add x y) := fun z hz h0 => by simp only [PM.add]; rw [if_neg (fun e => by subst e; omega)]
      have hrec := closeL_closes hx hy ht hu (closeF N t u K) (fun m x y hv hx hy h => closeF_closes ht hu K m x y hv hx hy h) (m.add x y) hum hx1 N 0 (m.add x y) (by omega) va (Sub.refl _ _)
        (fun z c _ _ h1 h2 => by omega) (fun c hc h0 h1 => by omega)
      generalize closeL (closeF N t u K) t u x y N 0 (m.add x y) = R at hrec ⊢
      refine ⟨fun h => (hrec.1 h).1, fun h => hsub.trans (hrec.1 h).2.1, fun h => by rw [(hrec.1 h).2.1 x hx (by omega), hx1], fun h z c hz hc h1 h2 h3 => ?_, fun P hP hPx => hrec.2 P ⟨hP.hom, hP.inj, fun z hz h0 => ?_⟩⟩
      · obtain ⟨_, _, g3, g4⟩ := hrec.1 h
        by_cases e : z = x
        · subst e; exact g4 c hc h3
        · exact g3 z c hz hc (by simp only [PM.add]; rw [if_neg e]; exact h1) h2 h3
      · simp only [PM.add] at h0 ⊢
        split at h0
        · rename_i e; subst e; rw [if_pos rfl, hPx]
        · rename_i e; rw [if_neg e]; exact hP.has z hz h0
end Go.Proofs.Ythdldlpflieeoaa

/- How the reference's search splits: plain laws. -/
namespace Go.Proofs.Ythdldlpflieeoaa
set_option linter.unusedSimpArgs false
set_option linter.unusedVariables false

/-- All products of what is led are led where they should be. -/
def Cl (N : Nat) (t u : Nat → Nat → Nat) (m : PM) : Prop := ∀ a b, a < N → b < N → 0 ≤ m.to a → 0 ≤ m.to b → Cons t u m a b

theorem abs_some {m : PM} {x y : Nat} : m.abs x = some y ↔ m.to x = y := by
  unfold PM.abs
  by_cases h : m.to x < 0
  · rw [if_pos h]; constructor
    · intro h'; cases h'
    · intro h'; omega
  · rw [if_neg h, Option.some.injEq]; omega
theorem abs_none {m : PM} {x : Nat} : m.abs x = none ↔ m.to x < 0 := by
  unfold PM.abs
  by_cases h : m.to x < 0
  · simp [h]
  · simp [h]

theorem hom_of {N : Nat} {t u : Nat → Nat → Nat} {m : PM} {p : List Nat} (hi : IsIso N t u p) (he : ∀ z, z < N → 0 ≤ m.to z → (p.getD z 0 : Int) = m.to z) : Hom N t u m (fun i => p.getD i 0) :=
  ⟨fun a b ha hb => hi.hom a b ha hb, fun a b ha hb h => hi.inj a b ha hb h, he⟩
theorem ext_has {N : Nat} {m : PM} {p : List Nat} (he : Ext N m.abs p) : ∀ z, z < N → 0 ≤ m.to z → (p.getD z 0 : Int) = m.to z := fun z hz h0 => by
  have := he z (m.to z).toNat hz (abs_some.2 (by omega))
  omega
theorem has_ext {N : Nat} {m : PM} {p : List Nat} (h : ∀ z, z < N → 0 ≤ m.to z → (p.getD z 0 : Int) = m.to z) : Ext N m.abs p := fun z y hz hy => by
  have h1 := abs_some.1 hy
  have := h z hz (by omega)
  omega
theorem ext_upd {N : Nat} {m : PM} {p : List Nat} {x y : Nat} (hx : x < N) (hx0 : m.to x < 0) : Ext N (upd m.abs x y) p ↔ Ext N m.abs p ∧ p.getD x 0 = y := by
  constructor
  · intro h
    refine ⟨fun z v hz hv => h z v hz ?_, h x y hx (by simp [upd])⟩
    unfold upd
    rw [if_neg (fun e => by subst e; rw [abs_none.2 hx0] at hv; cases hv)]
    exact hv
  · rintro ⟨h1, h2⟩ z v hz hv
    unfold upd at hv
    split at hv
    · rename_i e; subst e; rw [← Option.some.inj hv]; exact h2
    · exact h1 z v hz hv

/-- A place that is used leads to no isomorphism. -/
theorem isos_used {N : Nat} {t u : Nat → Nat → Nat} {m : PM} (hv : Va N m) {x y : Nat} (hx : x < N) (hy : y < N) (hx0 : m.to x < 0) (hu : 0 < m.used y) : isos N t u (upd m.abs x y) = [] := by
  refine isos_nil fun p _ _ hi he => ?_
  obtain ⟨h1, h2⟩ := (ext_upd hx hx0).1 he
  obtain ⟨z, hz, hzy⟩ := (hv.used y hy).1 hu
  have := ext_has h1 z hz (by omega)
  have e := hi.inj z x hz hx (by omega)
  subst e; omega
theorem isos_closed {N : Nat} {t u : Nat → Nat → Nat} {m : PM} {x y : Nat} {R : PM × Bool} (hx : x < N) (hx0 : m.to x < 0) (hC : Closes N t u m x y R) (h2 : R.2 = true) :
    isos N t u (upd m.abs x y) = isos N t u R.1.abs := by
  refine isos_congr fun p _ _ hi => ?_
  rw [ext_upd hx hx0]
  constructor
  · rintro ⟨h1, h3⟩
    exact has_ext (hC.forced _ (hom_of hi (ext_has h1)) h3).2.has
  · intro he
    have hh := ext_has he
    refine ⟨has_ext fun z hz h0 => ?_, ?_⟩
    · have := hC.sub h2 z hz h0
      rw [hh z hz (by omega), this]
    · have := hC.at_ h2
      have := hh x hx (by omega)
      omega
theorem isos_failed {N : Nat} {t u : Nat → Nat → Nat} {m : PM} {x y : Nat} {R : PM × Bool} (hx : x < N) (hx0 : m.to x < 0) (hC : Closes N t u m x y R) (h2 : R.2 = false) :
    isos N t u (upd m.abs x y) = [] := by
  refine isos_nil fun p _ _ hi he => ?_
  obtain ⟨h1, h3⟩ := (ext_upd hx hx0).1 he
  have := (hC.forced _ (hom_of hi (ext_has h1)) h3).1
  rw [h2] at this; cases this
theorem closed_cl {N : Nat} {t u : Nat → Nat → Nat} {m : PM} {x y : Nat} {R : PM × Bool} (ht : ∀ a b, a < N → b < N → t a b < N) (hm : Cl N t u m) (hC : Closes N t u m x y R) (h2 : R.2 = true) : Cl N t u R.1 := by
  intro a b ha hb ha0 hb0
  by_cases h1 : m.to a < 0
  · exact (hC.new h2 a b ha hb h1 ha0 hb0).1
  · by_cases h3 : m.to b < 0
    · exact (hC.new h2 b a hb ha h3 hb0 ha0).2
    · exact (hm a b ha hb (by omega) (by omega)).sub (hC.sub h2) (ht _ _ ha hb) ha hb (by omega) (by omega)
theorem closed_um {N : Nat} {t u : Nat → Nat → Nat} {m : PM} {x y : Nat} {R : PM × Bool} (hx : x < N) (hx0 : m.to x < 0) (hC : Closes N t u m x y R) (h2 : R.2 = true) : um R.1.to N < um m.to N := by
  have h := um_add (f := m.to) (x := x) (y := (y : Int)) hx0 (by omega) N
  rw [if_pos hx] at h
  have := um_mono (f := fun i => if i = x then (y : Int) else m.to i) (g := R.1.to) N fun z hz h0 => by
    by_cases e : z = x
    · subst e; have := hC.at_ h2; omega
    · rw [if_neg e] at h0
      have := hC.sub h2 z hz h0; omega
  omega
theorem isos_full {N : Nat} {t u : Nat → Nat → Nat} {m : PM} (ht : ∀ a b, a < N → b < N → t a b < N) (hv : Va N m) (hc : Cl N t u m) (h0 : um m.to N = 0) : isos N t u m.abs = [wordOf N m.abs] := by
  have hall := um_zero h0
  refine isos_total (fun i hi => ⟨(m.to i).toNat, abs_some.2 (by have := hall i hi; omega), by have := hv.lt i hi; have := hall i hi; omega⟩) ht (fun x y a b hx hy ha hb => ?_) (fun x y a hx hy ha hb => ?_)
  · have h1 := abs_some.1 ha
    have h2 := abs_some.1 hb
    have := hc x y hx hy (by omega) (by omega)
    unfold Cons at this
    rw [h1, h2] at this
    exact abs_some.2 (by simpa using this)
  · have h1 := abs_some.1 ha
    have h2 := abs_some.1 hb
    exact hv.inj x y hx hy (by omega) (by omega)
theorem isos_first {N : Nat} {t u : Nat → Nat → Nat} {m : PM} {x : Nat} (hx : x < N) (hm : ∀ i, i < x → 0 ≤ m.to i) (hx0 : m.to x < 0) : isos N t u m.abs = (List.range N).flatMap fun y => isos N t u (upd m.abs x y) :=
  isos_split hx (fun i hi h => by have := abs_none.1 h; have := hm i hi; omega) (abs_none.2 hx0)
theorem take_grow {α : Type} {A B : List α} {n : Nat} (h : (A.take n).length = n) : (A ++ B).take n = A.take n := by
  rw [List.take_append, show n - A.length = 0 by rw [List.length_take] at h; omega, List.take_zero, List.append_nil]
theorem take_step {α : Type} (A B : List α) (n : Nat) : (A.take n ++ B).take n = (A ++ B).take n := by
  rw [List.take_append, List.take_take, Nat.min_self, List.take_append, List.length_take]
  by_cases h : A.length ≤ n
  · rw [Nat.min_eq_right h]
  · rw [Nat.min_eq_left (by omega), Nat.sub_self, show n - A.length = 0 by omega]
/-- The part that has nothing is a part. -/
theorem zero_va (N : Nat) : Va N ⟨fun _ => -1, fun _ => 0, 0⟩ where
  lt x hx := by show (-1 : Int) < _; omega
  inj x y _ _ h _ := by have h' : (0 : Int) ≤ -1 := h; omega
  used v _ := ⟨fun h => by have h' : (0 : Int) < 0 := h; omega, fun ⟨x, _, h⟩ => by have : (-1 : Int) = v := h; omega⟩
  size := by
    have : ∀ k, um (fun _ => -1) k = k := fun k => by
      induction k with
      | zero => rfl
      | succ k ih => simp [um, ih]
    show (0 : Int) = N - (um (fun _ => -1) N : Nat)
    rw [this]; omega
theorem zero_cl (N : Nat) (t u : Nat → Nat → Nat) : Cl N t u ⟨fun _ => -1, fun _ => 0, 0⟩ := fun a b _ _ h _ => by have h' : (0 : Int) ≤ -1 := h; omega
theorem zero_abs : PM.abs ⟨fun _ => -1, fun _ => 0, 0⟩ = fun _ => none := rfl
end Go.Proofs.Ythdldlpflieeoaa

/- The program's closing of a part of an isomorphism, by a queue, as a plain function, and what it gives. -/
namespace Go.Proofs.Ythdldlpflieeoaa
set_option linter.unusedSimpArgs false
set_option linter.unusedVariables false

/-- What follows from x being led to y. -/
def news (N : Nat) (t u : Nat → Nat → Nat) (m : PM) (x y : Nat) : Nat → List (Nat × Nat)
  | 0 => []
  | k + 1 => news N t u m x y k ++ (if m.to k < 0 then [] else [(t x k, u y (m.to k).toNat), (t k x, u (m.to k).toNat y)])
def putF (N : Nat) (t u : Nat → Nat → Nat) : Nat → PM → List (Nat × Nat) → PM × Bool
  | 0, m, _ => (m, false)
  | _ + 1, m, [] => (m, true)
  | K + 1, m, (x, y) :: q =>
    if m.to x = y then putF N t u K m q else
    if 0 ≤ m.to x ∨ 0 < m.used y then (m, false) else
    putF N t u K (m.add x y) (q ++ news N t u (m.add x y) x y N)

theorem news_length (N : Nat) (t u : Nat → Nat → Nat) (m : PM) (x y : Nat) : ∀ k, (news N t u m x y k).length ≤ 2 * k
  | 0 => by simp [news]
  | k + 1 => by
    have := news_length N t u m x y k
    simp only [news, List.length_append]
    split <;> simp <;> omega
theorem mem_news {N : Nat} {t u : Nat → Nat → Nat} {m : PM} {x y : Nat} {p : Nat × Nat} : ∀ {k}, p ∈ news N t u m x y k ↔ ∃ z, z < k ∧ 0 ≤ m.to z ∧ (p = (t x z, u y (m.to z).toNat) ∨ p = (t z x, u (m.to z).toNat y))
  | 0 => by simp [news]
  | k + 1 => by
    simp only [news, List.mem_append, mem_news (k := k)]
    constructor
    · rintro (⟨z, h1, h2, h3⟩ | h)
      · exact ⟨z, by omega, h2, h3⟩
      · split at h
        · simp at h
        · rename_i h0
          refine ⟨k, by omega, by omega, ?_⟩
          simpa using h
    · rintro ⟨z, h1, h2, h3⟩
      by_cases e : z = k
      · subst e
        right
        rw [if_neg (by omega)]
        simpa using h3
      · exact .inl ⟨z, by omega, h2, h3⟩

theorem putF_closes {N : Nat} {t u : Nat → Nat → Nat} (ht : ∀ a b, a < N → b < N → t a b < N) (hu : ∀ a b, a < N → b < N → u a b < N) (m0 : PM) (x0 y0 : Nat) :
    ∀ (K : Nat) (m : PM) (Q : List (Nat × Nat)), Va N m → Sub N m0 m → (∀ p ∈ Q, p.1 < N ∧ p.2 < N) →
      (∀ z c, z < N → c < N → m0.to z < 0 → 0 ≤ m.to z → 0 ≤ m.to c → (Cons t u m z c ∨ (t z c, u (m.to z).toNat (m.to c).toNat) ∈ Q) ∧ (Cons t u m c z ∨ (t c z, u (m.to c).toNat (m.to z).toNat) ∈ Q)) →
      (m.to x0 = y0 ∨ (x0, y0) ∈ Q) → (∀ P, Hom N t u m0 P → P x0 = y0 → Hom N t u m P ∧ ∀ p ∈ Q, P p.1 = p.2) → Q.length + (2 * N + 1) * um m.to N < K →
      Closes N t u m0 x0 y0 (putF N t u K m Q)
  | 0, _, _, _, _, _, _, _, _, h => absurd h (by omega)
  | K + 1, m, [], hv, hs, _, hp, ha, hf, _ => by
    simp only [putF]
    refine ⟨fun _ => hv, fun _ => hs, fun _ => ?_, fun _ z c hz hc h1 h2 h3 => ?_, fun P hP hx => ⟨rfl, (hf P hP hx).1⟩⟩
    · rcases ha with h | h
      · exact h
      · simp at h
    · obtain ⟨g1, g2⟩ := hp z c hz hc h1 h2 h3
      exact ⟨g1.resolve_right (by simp), g2.resolve_right (by simp)⟩
  | K + 1, m, (x, y) :: q, hv, hs, hq, hp, ha, hf, hK => by
    obtain ⟨hx, hy⟩ := hq (x, y) (by simp)
    simp only at hx hy
    simp only [putF]
    simp only [List.length_cons] at hK
    by_cases h1 : m.to x = y
    · rw [if_pos h1]
      refine putF_closes ht hu m0 x0 y0 K m q hv hs (fun p h => hq p (by simp [h])) (fun z c hz hc a1 a2 a3 => ?_) ?_ (fun P hP hx => ⟨(hf P hP hx).1, fun p h => (hf P hP hx).2 p (by simp [h])⟩) (by omega)
      · obtain ⟨g1, g2⟩ := hp z c hz hc a1 a2 a3
        have key : ∀ i j, (i, j) ∈ (x, y) :: q → m.to i = j ∨ (i, j) ∈ q := fun i j h => by
          rcases List.mem_cons.1 h with h | h
          · cases h; exact .inl h1
          · exact .inr h
        exact ⟨g1.elim .inl fun h => key _ _ h, g2.elim .inl fun h => key _ _ h⟩
      · rcases ha with h | h
        · exact .inl h
        · rcases List.mem_cons.1 h with h | h
          · cases h; exact .inl h1
          · exact .inr h
    · rw [if_neg h1]
      by_cases h2 : 0 ≤ m.to x ∨ 0 < m.used y
      · rw [if_pos h2]
        refine ⟨fun h => (by cases h), fun h => (by cases h), fun h => (by cases h), fun h => (by cases h), fun P hP hx0 => ?_⟩
        exfalso
        obtain ⟨hH, hQ⟩ := hf P hP hx0
        have hPx := hQ (x, y) (by simp)
        simp only at hPx
        rcases h2 with h | h
        · have := hH.has x hx h; omega
        · obtain ⟨z, hz, hzy⟩ := (hv.used y hy).1 h
          have h3 := hH.has z hz (by omega)
          have e := hH.inj z x hz hx (by omega)
          subst e; exact h1 hzy
      · rw [if_neg h2]
        have hx0 : m.to x < 0 := by omega
        have hy0 : ¬ 0 < m.used y := fun h => h2 (.inr h)
        have hum := um_add (f := m.to) (x := x) (y := (y : Int)) hx0 (by omega) N
        rw [if_pos hx] at hum
        have hum' : um (m.add x y).to N + 1 = um m.to N := hum
        have hsub : Sub N m (m.add x y) := fun z hz h0 => by simp only [PM.add]; rw [if_neg (fun e => by subst e; omega)]
        have hxx : (m.add x y).to x = y := by simp [PM.add]
        have hother : ∀ z, z ≠ x → (m.add x y).to z = m.to z := fun z e => by simp [PM.add, e]
        have hva := hv.add hx hy hx0 hy0
        refine putF_closes ht hu m0 x0 y0 K (m.add x y) _ hva (hs.trans hsub) (fun p h => ?_) (fun z c hz hc a1 a2 a3 => ?_) ?_ (fun P hP hPx => ?_) ?_
        · rcases List.mem_append.1 h with h | h
          · exact hq p (by simp [h])
          · obtain ⟨z, hz, h0, h⟩ := mem_news.1 h
            have hlz := hva.lt z hz
            rcases h with h | h
            · subst h; exact ⟨ht _ _ hx hz, hu _ _ hy (by omega)⟩
            · subst h; exact ⟨ht _ _ hz hx, hu _ _ (by omega) hy⟩
        · by_cases ez : z = x
          · subst ez
            rw [hxx]
            refine ⟨.inr (List.mem_append.2 (.inr (mem_news.2 ⟨c, hc, a3, .inl (by simp)⟩))), .inr (List.mem_append.2 (.inr (mem_news.2 ⟨c, hc, a3, .inr (by simp)⟩)))⟩
          · by_cases ec : c = x
            · subst ec
              rw [hxx]
              exact ⟨.inr (List.mem_append.2 (.inr (mem_news.2 ⟨z, hz, a2, .inr (by simp)⟩))), .inr (List.mem_append.2 (.inr (mem_news.2 ⟨z, hz, a2, .inl (by simp)⟩)))⟩
            · rw [hother z ez] at a2 ⊢
              rw [hother c ec] at a3 ⊢
              obtain ⟨g1, g2⟩ := hp z c hz hc a1 a2 a3
              have key : ∀ i j, i < N → j < N → 0 ≤ m.to i → 0 ≤ m.to j → i ≠ x → j ≠ x → (Cons t u m i j ∨ (t i j, u (m.to i).toNat (m.to j).toNat) ∈ (x, y) :: q) → Cons t u (m.add x y) i j ∨ (t i j, u (m.to i).toNat (m.to j).toNat) ∈ q ++ news N t u (m.add x y) x y N := by
                intro i j hi hj i0 j0 ei ej h
                rcases h with h | h
                · exact .inl (h.sub hsub (ht _ _ hi hj) hi hj i0 j0)
                · rcases List.mem_cons.1 h with h | h
                  · left
                    unfold Cons
                    rw [hother i ei, hother j ej]
                    have e1 := congrArg Prod.fst h
                    have e2 := congrArg Prod.snd h
                    simp only at e1 e2
                    rw [e1, e2, hxx]
                  · exact .inr (List.mem_append.2 (.inl h))
              exact ⟨key z c hz hc a2 a3 ez ec g1, key c z hc hz a3 a2 ec ez g2⟩
        · rcases ha with h | h
          · by_cases e : x0 = x
            · subst e; omega
            · exact .inl (by rw [hother x0 e]; exact h)
          · rcases List.mem_cons.1 h with h | h
            · cases h; exact .inl hxx
            · exact .inr (List.mem_append.2 (.inl h))
        · obtain ⟨hH, hQ⟩ := hf P hP hPx
          have hPxy := hQ (x, y) (by simp)
          simp only at hPxy
          have hH' : Hom N t u (m.add x y) P := ⟨hH.hom, hH.inj, fun z hz h0 => by
            by_cases e : z = x
            · subst e; rw [hxx, hPxy]
            · rw [hother z e] at h0 ⊢; exact hH.has z hz h0⟩
          refine ⟨hH', fun p h => ?_⟩
          rcases List.mem_append.1 h with h | h
          · exact hQ p (by simp [h])
          · obtain ⟨z, hz, h0, h⟩ := mem_news.1 h
            have hPz := hH'.has z hz h0
            rcases h with h | h
            · subst h; simp only; rw [hH.hom x z hx hz, hPxy]; congr 1; omega
            · subst h; simp only; rw [hH.hom z x hz hx, hPxy]; congr 1; omega
        · have := news_length N t u (m.add x y) x y N
          rw [← hum', Nat.mul_add] at hK
          rw [List.length_append]
          omega

/-- THE LAW OF THE QUEUE: closing with one pair. -/
theorem put_closes {N : Nat} {t u : Nat → Nat → Nat} (ht : ∀ a b, a < N → b < N → t a b < N) (hu : ∀ a b, a < N → b < N → u a b < N) {K : Nat} {m : PM} {x y : Nat} (hv : Va N m) (hx : x < N) (hy : y < N)
    (hK : 1 + (2 * N + 1) * um m.to N < K) : Closes N t u m x y (putF N t u K m [(x, y)]) :=
  putF_closes ht hu m x y K m [(x, y)] hv (Sub.refl N m) (fun p h => by simp at h; subst h; exact ⟨hx, hy⟩) (fun z c _ _ h1 h2 _ => by omega) (.inr (by simp)) (fun P hP hPx => ⟨hP, fun p h => by simp at h; subst h; exact hPx⟩) (by simpa using hK)
end Go.Proofs.Ythdldlpflieeoaa

/- How many isomorphisms there are at most; loops at elements are squares. -/
namespace Go.Proofs.Ythdldlpflieeoaa
set_option linter.unusedSimpArgs false
set_option linter.unusedVariables false

/-- Rows and columns tell their places. -/
structure Lat (N : Nat) (t : Nat → Nat → Nat) : Prop where
  lt : ∀ x y, x < N → y < N → t x y < N
  left : ∀ x y z, x < N → y < N → z < N → t x y = t x z → y = z
  right : ∀ x y z, x < N → y < N → z < N → t y x = t z x → y = z
theorem pm_inj {n : Int} {p : Nat → Nat} (h : IsPm n p) {i j : Nat} (hi : (i : Int) < n) (hj : (j : Int) < n) (e : p i = p j) : i = j := by
  have := h.hi
  rcases Nat.lt_trichotomy i j with h2 | h2 | h2
  · exact absurd e.symm (h.inj j i (by omega) h2 hj)
  · exact h2
  · exact absurd e (h.inj i j (by omega) h2 hi)
theorem Lat.of_sq {N : Nat} {t : Nat → Nat → Nat} (h : IsSq (N : Int) t) : Lat N t where
  lt x y hx hy := by
    have := h.hi
    have := (h.rows.row x (by omega) (by omega)).lt y (by omega) (by omega)
    omega
  left x y z hx hy hz e := by
    have := h.hi
    exact pm_inj (h.rows.row x (by omega) (by omega)) (by omega) (by omega) e
  right x y z hx hy hz e := by
    have := h.hi
    exact pm_inj (h.cols.row x (by omega) (by omega)) (i := y) (j := z) (by omega) (by omega) e

/-- Where a part leads, and where it does not. -/
def dm (N : Nat) (f : Nat → Int) : List Nat := (List.range N).filter fun z => decide (0 ≤ f z)
def dn (N : Nat) (f : Nat → Int) : List Nat := (List.range N).filter fun z => decide (f z < 0)
theorem dm_len (f : Nat → Int) : ∀ N, (dm N f).length + um f N = N
  | 0 => by simp [dm, um]
  | N + 1 => by
    have ih := dm_len f N
    unfold dm at *
    rw [List.range_succ, List.filter_append, List.length_append]
    simp only [um, List.filter_cons, List.filter_nil]
    by_cases h : f N < 0
    · rw [if_pos h, if_neg (by simp; omega)]; simp; omega
    · rw [if_neg h, if_pos (by simp; omega)]; simp; omega
theorem dn_len (f : Nat → Int) : ∀ N, (dn N f).length = um f N
  | 0 => by simp [dn, um]
  | N + 1 => by
    have ih := dn_len f N
    unfold dn at *
    rw [List.range_succ, List.filter_append, List.length_append, ih]
    simp only [um, List.filter_cons, List.filter_nil]
    by_cases h : f N < 0
    · rw [if_pos h, if_pos (by simpa using h)]; simp
    · rw [if_neg h, if_neg (by simpa using h)]; simp
theorem nodup_map' {α β : Type} {f : α → β} : ∀ {l : List α}, l.Nodup → (∀ a ∈ l, ∀ b ∈ l, f a = f b → a = b) → (l.map f).Nodup
  | [], _, _ => by simp
  | a :: l, h, hi => by
    rw [List.map_cons, List.nodup_cons]
    obtain ⟨h1, h2⟩ := List.nodup_cons.1 h
    refine ⟨fun hm => ?_, nodup_map' h2 fun x hx y hy => hi x (by simp [hx]) y (by simp [hy])⟩
    obtain ⟨b, hb, e⟩ := List.mem_map.1 hm
    exact h1 (hi b (by simp [hb]) a (by simp) e ▸ hb)
/-- A part that is closed and does not lead all leads half of all at most. -/
theorem half {N : Nat} {t u : Nat → Nat → Nat} {m : PM} (hl : Lat N t) (hc : Cl N t u m) {x : Nat} (hx : x < N) (hx0 : m.to x < 0) : 2 * (N - um m.to N) ≤ N := by
  have hcl : ∀ a b, a < N → b < N → 0 ≤ m.to a → 0 ≤ m.to b → 0 ≤ m.to (t a b) := fun a b ha hb h1 h2 => by
    have := hc a b ha hb h1 h2
    unfold Cons at this; omega
  have hnew : ∀ z, z < N → 0 ≤ m.to z → m.to (t x z) < 0 := fun z hz hz0 => by
    rcases Int.lt_or_le (m.to (t x z)) 0 with h | h
    · exact h
    · exfalso
      obtain ⟨i, hi, he⟩ := surj_of_inj N (fun i => if 0 ≤ m.to i then t i z else i) (fun i hi => by
        split
        · exact hl.lt _ _ hi hz
        · exact hi) (fun i j hi hj e => by
        split at e <;> split at e
        · exact hl.right z i j hz hi hj e
        · rename_i h1 h2; exact absurd (e ▸ hcl i z hi hz h1 hz0) h2
        · rename_i h1 h2; exact absurd (e ▸ hcl j z hj hz h2 hz0) h1
        · exact e) (t x z) (hl.lt x z hx hz)
      split at he
      · rename_i h1
        have := hl.right z i x hz hi hx he
        subst this; omega
      · rename_i h1; exact h1 (he ▸ h)
  have h1 := dm_len m.to N
  have h2 := dn_len m.to N
  have h3 := List.Nodup.length_le_of_subset (l₁ := (dm N m.to).map (t x)) (l₂ := dn N m.to) (nodup_map' (List.Pairwise.filter _ List.nodup_range) fun a ha b hb e => by
    simp only [dm, List.mem_filter, List.mem_range] at ha hb
    exact hl.left x a b hx ha.1 hb.1 e) fun v hv => by
    obtain ⟨z, hz, rfl⟩ := List.mem_map.1 hv
    simp only [dm, List.mem_filter, List.mem_range, decide_eq_true_eq] at hz
    simp only [dn, List.mem_filter, List.mem_range, decide_eq_true_eq]
    exact ⟨hl.lt x z hx hz.1, hnew z hz.1 hz.2⟩
  rw [List.length_map] at h3
  omega

theorem flatMap_len {α : Type} {f : Nat → List α} {B : Nat} : ∀ {N : Nat}, (∀ y, y < N → (f y).length ≤ B) → ((List.range N).flatMap f).length ≤ N * B
  | 0, _ => by simp
  | N + 1, h => by
    rw [List.range_succ, List.flatMap_append, List.length_append, List.flatMap_singleton, Nat.succ_mul]
    exact Nat.add_le_add (flatMap_len fun y hy => h y (by omega)) (h N (by omega))
def gq (N d : Nat) : Nat := if d = N then 0 else N / 2 + 1 - d
theorem isos_bound {N : Nat} {t u : Nat → Nat → Nat} (hl : Lat N t) (hu : ∀ a b, a < N → b < N → u a b < N) : ∀ (K : Nat) (m : PM), Va N m → Cl N t u m → um m.to N < K → (isos N t u m.abs).length ≤ N ^ gq N (N - um m.to N)
  | 0, _, _, _, h => absurd h (by omega)
  | K + 1, m, hv, hc, hK => by
    by_cases h0 : um m.to N = 0
    · rw [isos_full hl.lt hv hc h0, h0, Nat.sub_zero, gq, if_pos rfl]; simp
    · obtain ⟨x, hx, hx0, hxm⟩ := um_pos h0
      have hul := um_le m.to N
      have hh := half hl hc hx hx0
      rw [isos_first hx hxm hx0]
      have hg : gq N (N - um m.to N) = (gq N (N - um m.to N) - 1) + 1 := by
        unfold gq; rw [if_neg (by omega)]; omega
      rw [hg, Nat.pow_succ, Nat.mul_comm]
      refine flatMap_len fun y hy => ?_
      have hC := closeF_closes hl.lt hu (um m.to N + 1) m x y hv hx hy (by omega)
      cases h2 : (closeF N t u (um m.to N + 1) m x y).2 with
      | false => rw [isos_failed hx hx0 hC h2]; exact Nat.zero_le _
      | true =>
        have hum := closed_um hx hx0 hC h2
        have hcl := closed_cl hl.lt hc hC h2
        rw [isos_closed hx hx0 hC h2]
        refine Nat.le_trans (isos_bound hl hu K _ (hC.va h2) hcl (by omega)) (Nat.pow_le_pow_right (by omega) ?_)
        generalize (closeF N t u (um m.to N + 1) m x y).1 = m' at hum hcl
        have hul' := um_le m'.to N
        by_cases h3 : um m'.to N = 0
        · rw [h3, Nat.sub_zero]; unfold gq; rw [if_pos rfl]; exact Nat.zero_le _
        · obtain ⟨x', hx', hx0', _⟩ := um_pos h3
          have := half hl hcl hx' hx0'
          unfold gq; rw [if_neg (by omega), if_neg (by omega)]; omega
theorem iso_most {N : Nat} {t u : Nat → Nat → Nat} (h1 : N ≤ 10) (hl : Lat N t) (hu : ∀ a b, a < N → b < N → u a b < N) : (isos N t u fun _ => none).length ≤ 1000000 := by
  have h := isos_bound hl hu (N + 1) ⟨fun _ => -1, fun _ => 0, 0⟩ (zero_va N) (zero_cl N t u) (by have := um_le (fun _ => (-1 : Int)) N; show um (fun _ => -1) N < N + 1; omega)
  rw [zero_abs] at h
  refine Nat.le_trans h ?_
  have hg : gq N (N - um (fun _ => (-1 : Int)) N) ≤ 6 := by
    unfold gq; split <;> omega
  have e1 : ∀ k, k ≤ 6 → N ^ k ≤ 10 ^ 6 := fun k hk => Nat.le_trans (Nat.pow_le_pow_left h1 k) (Nat.pow_le_pow_right (by omega) hk)
  exact e1 _ hg

/-! ### Isotopes of squares -/
structure Pm (N : Nat) (f : Nat → Nat) : Prop where
  lt : ∀ i, i < N → f i < N
  inj : ∀ i j, i < N → j < N → f i = f j → i = j
theorem Pm.surj {N : Nat} {f : Nat → Nat} (h : Pm N f) {v : Nat} (hv : v < N) : ∃ i, i < N ∧ f i = v := surj_of_inj N f h.lt h.inj v hv
theorem isoW_at {N : Nat} {t : Nat → Nat → Nat} {f g h : Nat → Nat} (hf : Pm N f) (hg : Pm N g) : ∀ m, m ≤ N * N → ∀ x y, x < N → y < N → isoW N t f g h m (f x) (g y) = if x * N + y < m then h (t x y) else 0
  | 0, _, x, y, _, _ => by simp [isoW]
  | m + 1, hm, x, y, hx, hy => by
    have hN : 0 < N := by omega
    have h1 : m / N < N := Nat.div_lt_of_lt_mul (by omega)
    have h2 : m % N < N := Nat.mod_lt _ hN
    have h3 := Nat.div_add_mod m N
    rw [Nat.mul_comm] at h3
    simp only [isoW]
    by_cases e : x = m / N ∧ y = m % N
    · obtain ⟨rfl, rfl⟩ := e
      rw [if_pos ⟨rfl, rfl⟩, if_pos (by omega)]
    · rw [if_neg (fun hc => e ⟨hf.inj _ _ hx h1 hc.1, hg.inj _ _ hy h2 hc.2⟩), isoW_at hf hg m (by omega) x y hx hy]
      have hne : x * N + y ≠ m := fun hc => e (by
        have e1 : (x * N + y) / N = x := by rw [Nat.mul_comm, Nat.mul_add_div hN, Nat.div_eq_of_lt hy]; rfl
        have e2 : (x * N + y) % N = y := by rw [Nat.mul_comm, Nat.mul_add_mod]; exact Nat.mod_eq_of_lt hy
        rw [hc] at e1 e2
        exact ⟨e1.symm, e2.symm⟩)
      by_cases c : x * N + y < m
      · rw [if_pos c, if_pos (by omega)]
      · rw [if_neg c, if_neg (by omega)]
theorem isoW_all {N : Nat} {t : Nat → Nat → Nat} {f g h : Nat → Nat} (hf : Pm N f) (hg : Pm N g) {x y : Nat} (hx : x < N) (hy : y < N) : isoW N t f g h (N * N) (f x) (g y) = h (t x y) := by
  rw [isoW_at hf hg _ (Nat.le_refl _) x y hx hy, if_pos]
  have : (x + 1) * N ≤ N * N := Nat.mul_le_mul_right _ hx
  rw [Nat.succ_mul] at this; omega
theorem lat_isoW {N : Nat} {t : Nat → Nat → Nat} {f g h : Nat → Nat} (hl : Lat N t) (hf : Pm N f) (hg : Pm N g) (hh : Pm N h) : Lat N (isoW N t f g h (N * N)) where
  lt i j hi hj := by
    obtain ⟨x, hx, rfl⟩ := hf.surj hi
    obtain ⟨y, hy, rfl⟩ := hg.surj hj
    rw [isoW_all hf hg hx hy]; exact hh.lt _ (hl.lt _ _ hx hy)
  left i j k hi hj hk e := by
    obtain ⟨x, hx, rfl⟩ := hf.surj hi
    obtain ⟨y, hy, rfl⟩ := hg.surj hj
    obtain ⟨z, hz, rfl⟩ := hg.surj hk
    rw [isoW_all hf hg hx hy, isoW_all hf hg hx hz] at e
    rw [hl.left x y z hx hy hz (hh.inj _ _ (hl.lt _ _ hx hy) (hl.lt _ _ hx hz) e)]
  right i j k hi hj hk e := by
    obtain ⟨x, hx, rfl⟩ := hg.surj hi
    obtain ⟨y, hy, rfl⟩ := hf.surj hj
    obtain ⟨z, hz, rfl⟩ := hf.surj hk
    rw [isoW_all hf hg hy hx, isoW_all hf hg hz hx] at e
    rw [hl.right x y z hx hy hz (hh.inj _ _ (hl.lt _ _ hy hx) (hl.lt _ _ hz hx) e)]
theorem pm_xch {N e : Nat} (he : e < N) : Pm N (xch N e) where
  lt i hi := by unfold xch idTo; split <;> (try split) <;> (try split) <;> omega
  inj i j hi hj h := by
    unfold xch idTo at h
    repeat' split at h
    all_goals omega
theorem pm_then {N : Nat} {p q : Nat → Nat} (hp : Pm N p) (hq : Pm N q) : Pm N (thTo p q N) where
  lt i hi := by unfold thTo; rw [if_pos hi]; exact hq.lt _ (hp.lt i hi)
  inj i j hi hj h := by unfold thTo at h; rw [if_pos hi, if_pos hj] at h; exact hp.inj i j hi hj (hq.inj _ _ (hp.lt i hi) (hp.lt j hj) h)
theorem Lat.row {N : Nat} {t : Nat → Nat → Nat} (h : Lat N t) {a : Nat} (ha : a < N) : Pm N (t a) := ⟨fun i hi => h.lt a i ha hi, fun i j hi hj e => h.left a i j ha hi hj e⟩
theorem Lat.col {N : Nat} {t : Nat → Nat → Nat} (h : Lat N t) {b : Nat} (hb : b < N) : Pm N (fun x => t x b) := ⟨fun i hi => h.lt i b hi hb, fun i j hi hj e => h.right b i j hb hi hj e⟩
/-- The maps that lead a square to its loop at two elements. -/
def toF (N : Nat) (t : Nat → Nat → Nat) (a b : Nat) : Nat → Nat := thTo (fun x => t x b) (xch N (t a b)) N
def toG (N : Nat) (t : Nat → Nat → Nat) (a b : Nat) : Nat → Nat := thTo (t a) (xch N (t a b)) N
def toH (N : Nat) (t : Nat → Nat → Nat) (a b : Nat) : Nat → Nat := xch N (t a b)
theorem pm_toF {N : Nat} {t : Nat → Nat → Nat} (h : Lat N t) {a b : Nat} (ha : a < N) (hb : b < N) : Pm N (toF N t a b) := pm_then (h.col hb) (pm_xch (h.lt a b ha hb))
theorem pm_toG {N : Nat} {t : Nat → Nat → Nat} (h : Lat N t) {a b : Nat} (ha : a < N) (hb : b < N) : Pm N (toG N t a b) := pm_then (h.row ha) (pm_xch (h.lt a b ha hb))
theorem pm_toH {N : Nat} {t : Nat → Nat → Nat} (h : Lat N t) {a b : Nat} (ha : a < N) (hb : b < N) : Pm N (toH N t a b) := pm_xch (h.lt a b ha hb)
/-- The loop of a square at two elements. -/
def loopAt (N : Nat) (t : Nat → Nat → Nat) (a b : Nat) : Nat → Nat → Nat := isoW N t (toF N t a b) (toG N t a b) (toH N t a b) (N * N)
theorem lat_loopAt {N : Nat} {t : Nat → Nat → Nat} (h : Lat N t) {a b : Nat} (ha : a < N) (hb : b < N) : Lat N (loopAt N t a b) := lat_isoW h (pm_toF h ha hb) (pm_toG h ha hb) (pm_toH h ha hb)
end Go.Proofs.Ythdldlpflieeoaa

/- Squares that are drawn, in plain words: cyclic, direct, elementary, moved and switched squares are squares. -/
namespace Go.Proofs.Ythdldlpflieeoaa
set_option linter.unusedSimpArgs false
set_option linter.unusedVariables false

theorem isoW_zeroX {n : Nat} {t : Nat → Nat → Nat} {f g h : Nat → Nat} (hf : ∀ i, i < n → f i < n) (hg : ∀ i, i < n → g i < n) {i j : Nat} (hij : n ≤ i ∨ n ≤ j) : ∀ m, m ≤ n * n → isoW n t f g h m i j = 0
  | 0, _ => by simp [isoW]
  | m + 1, hm => by
    have hN : 0 < n := by
      rcases Nat.eq_zero_or_pos n with h | h
      · subst h; omega
      · exact h
    have h1 := hf _ (Nat.div_lt_of_lt_mul (show m < n * n by omega))
    have h2 := hg _ (Nat.mod_lt m hN)
    simp only [isoW]
    rw [if_neg (by omega), isoW_zeroX hf hg hij m (by omega)]
theorem sq_of_latX {n : Nat} {t : Nat → Nat → Nat} (h0 : 1 ≤ n) (h1 : n ≤ 10) (h : Lat n t) (hz : ∀ i j, i < 10 → j < 10 → n ≤ i ∨ n ≤ j → t i j = 0) : IsSq (n : Int) t where
  lo := by omega
  hi := by omega
  rows := ⟨fun x hx1 hx => ⟨by omega, by omega, fun i hi1 hi => hz x i hx1 hi1 (by omega), fun i _ hi => by have := h.lt x i (by omega) (by omega); omega, fun i j _ hj hi e => by
    have := h.left x i j (by omega) (by omega) (by omega) e; omega⟩, fun x y hx1 hy1 hx => hz x y hx1 hy1 (by omega)⟩
  cols := ⟨fun x hx1 hx => ⟨by omega, by omega, fun i hi1 hi => hz i x hi1 hx1 (by omega), fun i _ hi => by have := h.lt i x (by omega) (by omega); omega, fun i j _ hj hi e => by
    have := h.right x i j (by omega) (by omega) (by omega) e; omega⟩, fun x y hx1 hy1 hx => hz y x hy1 hx1 (by omega)⟩
theorem sq_zero {n : Nat} {t : Nat → Nat → Nat} (h : IsSq (n : Int) t) {i j : Nat} (hi : i < 10) (hj : j < 10) (hij : n ≤ i ∨ n ≤ j) : t i j = 0 := by
  by_cases hin : n ≤ i
  · exact h.rows.zero i j hi hj (by omega)
  · exact (h.rows.row i hi (by omega)).zero j hj (by omega)
theorem sq_moved {n : Nat} {t : Nat → Nat → Nat} {f g h : Nat → Nat} (hs : IsSq (n : Int) t) (hf : Pm n f) (hg : Pm n g) (hh : Pm n h) : IsSq (n : Int) (isoW n t f g h (n * n)) :=
  sq_of_latX (by have := hs.lo; omega) (by have := hs.hi; omega) (lat_isoW (Lat.of_sq hs) hf hg hh) fun _ _ _ _ hij => isoW_zeroX hf.lt hg.lt hij _ (Nat.le_refl _)
theorem sq_turned {n : Int} {t : Nat → Nat → Nat} (h : IsSq n t) : IsSq n (fun x y => t y x) := ⟨h.lo, h.hi, h.cols, h.rows⟩

/-- The cyclic square. -/
def cyT (n x y : Nat) : Nat := if x < n ∧ y < n then (x + y) % n else 0
theorem add_modX {n x y : Nat} (hx : x < n) (hy : y < n) : (x + y) % n = if x + y < n then x + y else x + y - n := by
  split
  · exact Nat.mod_eq_of_lt (by omega)
  · rw [Nat.mod_eq_sub_mod (by omega), Nat.mod_eq_of_lt (by omega)]
theorem cyT_sq {n : Nat} (h0 : 1 ≤ n) (h1 : n ≤ 10) : IsSq (n : Int) (cyT n) := by
  refine sq_of_latX h0 h1 ⟨fun x y hx hy => ?_, fun x y z hx hy hz e => ?_, fun x y z hx hy hz e => ?_⟩ fun i j _ _ h => ?_
  · unfold cyT; rw [if_pos ⟨hx, hy⟩]; exact Nat.mod_lt _ (by omega)
  · unfold cyT at e
    rw [if_pos ⟨hx, hy⟩, if_pos ⟨hx, hz⟩, add_modX hx hy, add_modX hx hz] at e
    (repeat' split at e) <;> omega
  · unfold cyT at e
    rw [if_pos ⟨hy, hx⟩, if_pos ⟨hz, hx⟩, add_modX hy hx, add_modX hz hx] at e
    (repeat' split at e) <;> omega
  · unfold cyT; rw [if_neg (by omega)]
/-- A direct product. -/
def diT (n m : Nat) (t u : Nat → Nat → Nat) (x y : Nat) : Nat := if x < n * m ∧ y < n * m then m * t (x / m) (y / m) + u (x % m) (y % m) else 0
theorem mul_add_lt {n m a b : Nat} (ha : a < n) (hb : b < m) : m * a + b < n * m := by
  have : m * (a + 1) ≤ m * n := Nat.mul_le_mul_left m ha
  rw [Nat.mul_comm n m]
  rw [Nat.mul_add, Nat.mul_one] at this
  omega
theorem diT_lat {n m : Nat} {t u : Nat → Nat → Nat} (ht : Lat n t) (hu : Lat m u) : Lat (n * m) (diT n m t u) := by
  have hd : ∀ {x : Nat}, x < n * m → x / m < n ∧ x % m < m := fun {x} hx => by
    have hm : 0 < m := by
      rcases Nat.eq_zero_or_pos m with e | e
      · subst e; simp at hx
      · exact e
    exact ⟨Nat.div_lt_of_lt_mul (by rw [Nat.mul_comm]; exact hx), Nat.mod_lt _ hm⟩
  have hdm : ∀ {a b c d : Nat}, b < m → d < m → m * a + b = m * c + d → a = c ∧ b = d := fun {a b c d} hb hd' e => by
    have hm : 0 < m := by omega
    have e1 := congrArg (· / m) e
    have e2 := congrArg (· % m) e
    simp only [Nat.mul_add_div hm, Nat.div_eq_of_lt hb, Nat.div_eq_of_lt hd', Nat.mul_add_mod, Nat.mod_eq_of_lt hb, Nat.mod_eq_of_lt hd', Nat.add_zero] at e1 e2
    exact ⟨e1, e2⟩
  have hxx : ∀ {x y : Nat}, x / m = y / m → x % m = y % m → x = y := fun {x y} e1 e2 => by
    have h1 := Nat.div_add_mod x m
    have h2 := Nat.div_add_mod y m
    rw [e1, e2] at h1
    omega
  refine ⟨fun x y hx hy => ?_, fun x y z hx hy hz e => ?_, fun x y z hx hy hz e => ?_⟩
  · unfold diT; rw [if_pos ⟨hx, hy⟩]
    exact mul_add_lt (ht.lt _ _ (hd hx).1 (hd hy).1) (hu.lt _ _ (hd hx).2 (hd hy).2)
  · unfold diT at e
    rw [if_pos ⟨hx, hy⟩, if_pos ⟨hx, hz⟩] at e
    obtain ⟨e1, e2⟩ := hdm (hu.lt _ _ (hd hx).2 (hd hy).2) (hu.lt _ _ (hd hx).2 (hd hz).2) e
    exact hxx (ht.left _ _ _ (hd hx).1 (hd hy).1 (hd hz).1 e1) (hu.left _ _ _ (hd hx).2 (hd hy).2 (hd hz).2 e2)
  · unfold diT at e
    rw [if_pos ⟨hy, hx⟩, if_pos ⟨hz, hx⟩] at e
    obtain ⟨e1, e2⟩ := hdm (hu.lt _ _ (hd hy).2 (hd hx).2) (hu.lt _ _ (hd hz).2 (hd hx).2) e
    exact hxx (ht.right _ _ _ (hd hx).1 (hd hy).1 (hd hz).1 e1) (hu.right _ _ _ (hd hx).2 (hd hy).2 (hd hz).2 e2)
theorem diT_sq {n m : Nat} {t u : Nat → Nat → Nat} (ht : IsSq (n : Int) t) (hu : IsSq (m : Int) u) (h : n * m ≤ 10) : IsSq ((n * m : Nat) : Int) (diT n m t u) :=
  sq_of_latX (Nat.mul_pos (by have := ht.lo; omega) (by have := hu.lo; omega)) h (diT_lat (Lat.of_sq ht) (Lat.of_sq hu)) fun i j _ _ hij => by unfold diT; rw [if_neg (by omega)]
/-- The elementary square. -/
def elT (n x y : Nat) : Nat := if x < n ∧ y < n then x ^^^ y else 0
theorem xor_lt8 : ∀ k, k < 4 → ∀ x, x < 2 ^ k → ∀ y, y < 2 ^ k → x ^^^ y < 2 ^ k := by decide +kernel
theorem xor_inj {x y z : Nat} (h : x ^^^ y = x ^^^ z) : y = z := by
  have := congrArg (x ^^^ ·) h
  simpa [← Nat.xor_assoc] using this
theorem elT_sq {k : Nat} (hk : k < 4) : IsSq ((2 ^ k : Nat) : Int) (elT (2 ^ k)) := by
  have hp : 2 ^ k ≤ 8 := (by decide : ∀ k, k < 4 → 2 ^ k ≤ 8) k hk
  have hp0 : 1 ≤ 2 ^ k := Nat.one_le_two_pow
  refine sq_of_latX hp0 (by omega) ⟨fun x y hx hy => ?_, fun x y z hx hy hz e => ?_, fun x y z hx hy hz e => ?_⟩ fun i j _ _ h => ?_
  · unfold elT; rw [if_pos ⟨hx, hy⟩]; exact xor_lt8 k hk x hx y hy
  · unfold elT at e
    rw [if_pos ⟨hx, hy⟩, if_pos ⟨hx, hz⟩] at e
    exact xor_inj e
  · unfold elT at e
    rw [if_pos ⟨hy, hx⟩, if_pos ⟨hz, hx⟩, Nat.xor_comm y, Nat.xor_comm z] at e
    exact xor_inj e
  · unfold elT; rw [if_neg (by omega)]

/-! ### Two rows whose entries are exchanged in some columns -/
def swT (t : Nat → Nat → Nat) (a b : Nat) (S : Nat → Bool) (x y : Nat) : Nat := bif S y then (if x = a then t b y else if x = b then t a y else t x y) else t x y
theorem swT_no {t : Nat → Nat → Nat} {a b : Nat} {S : Nat → Bool} {x y : Nat} (h : S y = false) : swT t a b S x y = t x y := by unfold swT; rw [h]; rfl
theorem swT_a {t : Nat → Nat → Nat} {a b : Nat} {S : Nat → Bool} {y : Nat} (h : S y = true) : swT t a b S a y = t b y := by unfold swT; rw [h, if_pos rfl]; rfl
theorem swT_b {t : Nat → Nat → Nat} {a b : Nat} {S : Nat → Bool} {y : Nat} (hab : a ≠ b) (h : S y = true) : swT t a b S b y = t a y := by unfold swT; rw [h, if_neg (fun e => hab e.symm), if_pos rfl]; rfl
theorem swT_ne {t : Nat → Nat → Nat} {a b : Nat} {S : Nat → Bool} {x y : Nat} (h1 : x ≠ a) (h2 : x ≠ b) : swT t a b S x y = t x y := by
  unfold swT; rw [if_neg h1, if_neg h2]; cases S y <;> rfl
def addS (S : Nat → Bool) (y : Nat) : Nat → Bool := fun z => z == y || S z
theorem addS_at (S : Nat → Bool) (y : Nat) : addS S y y = true := by simp [addS]
theorem addS_of {S : Nat → Bool} {y z : Nat} (h : S z = true) : addS S y z = true := by simp [addS, h]
theorem addS_ne {S : Nat → Bool} {y z : Nat} (h : z ≠ y) : addS S y z = S z := by simp [addS, h]
theorem addS_cases {S : Nat → Bool} {y z : Nat} (h : addS S y z = true) : z = y ∨ S z = true := by simpa [addS] using h
theorem sw_step {t : Nat → Nat → Nat} {a b : Nat} {S : Nat → Bool} {y : Nat} (hab : a ≠ b) (hy : S y = false) (i j : Nat) :
    (if i = b ∧ j = y then swT t a b S a y else if i = a ∧ j = y then swT t a b S b y else swT t a b S i j) = swT t a b (addS S y) i j := by
  by_cases hj : j = y
  · subst hj
    by_cases hb : i = b
    · subst hb
      rw [if_pos ⟨rfl, rfl⟩, swT_no hy, swT_b hab (addS_at ..)]
    · by_cases ha : i = a
      · subst ha
        rw [if_neg (fun h => hb h.1), if_pos ⟨rfl, rfl⟩, swT_no hy, swT_a (addS_at ..)]
      · rw [if_neg (fun h => hb h.1), if_neg (fun h => ha h.1), swT_ne ha hb, swT_ne ha hb]
  · rw [if_neg (fun h => hj h.2), if_neg (fun h => hj h.2)]
    unfold swT
    rw [addS_ne hj]
/-- The columns led on by two rows stay among S. -/
def ClS (n : Nat) (t : Nat → Nat → Nat) (a b : Nat) (S : Nat → Bool) : Prop := ∀ z, z < n → S z = true → ∃ w, w < n ∧ S w = true ∧ t b z = t a w
theorem clS_back {n : Nat} {t : Nat → Nat → Nat} {a b : Nat} {S : Nat → Bool} (hl : Lat n t) (ha : a < n) (hb : b < n) (h : ClS n t a b S) {z : Nat} (hz : z < n) (hS : S z = true) : ∃ w, w < n ∧ S w = true ∧ t a z = t b w := by
  have hex : ∀ x, ∃ w, x < n → w < n ∧ ((S x = true → S w = true ∧ t b x = t a w) ∧ (S x = false → w = x)) := fun x => by
    by_cases hx : x < n
    · cases hSx : S x with
      | true =>
        obtain ⟨w, h1, h2, h3⟩ := h x hx hSx
        exact ⟨w, fun _ => ⟨h1, fun _ => ⟨h2, h3⟩, fun h => by cases h⟩⟩
      | false => exact ⟨x, fun _ => ⟨hx, (fun h => by cases h), fun _ => rfl⟩⟩
    · exact ⟨0, fun h => absurd h hx⟩
  have hf' : ∃ f : Nat → Nat, ∀ x, x < n → f x < n ∧ ((S x = true → S (f x) = true ∧ t b x = t a (f x)) ∧ (S x = false → f x = x)) := ⟨fun x => Classical.choose (hex x), fun x hx => Classical.choose_spec (hex x) hx⟩
  obtain ⟨f, hf⟩ := hf'
  have hinj : ∀ i j, i < n → j < n → f i = f j → i = j := fun i j hi hj e => by
    obtain ⟨h1, h2, h3⟩ := hf i hi
    obtain ⟨g1, g2, g3⟩ := hf j hj
    cases hSi : S i with
    | true =>
      obtain ⟨p1, p2⟩ := h2 hSi
      cases hSj : S j with
      | true =>
        obtain ⟨q1, q2⟩ := g2 hSj
        exact hl.left b i j hb hi hj (by rw [p2, q2, e])
      | false => rw [e, g3 hSj, hSj] at p1; cases p1
    | false =>
      cases hSj : S j with
      | true =>
        obtain ⟨q1, q2⟩ := g2 hSj
        rw [← e, h3 hSi, hSi] at q1; cases q1
      | false => rw [← h3 hSi, ← g3 hSj]; exact e
  obtain ⟨w, hw, e⟩ := surj_of_inj n f (fun i hi => (hf i hi).1) hinj z hz
  obtain ⟨h1, h2, h3⟩ := hf w hw
  cases hSw : S w with
  | true =>
    obtain ⟨p1, p2⟩ := h2 hSw
    exact ⟨w, hw, hSw, by rw [p2, e]⟩
  | false => rw [h3 hSw] at e; rw [e, hS] at hSw; cases hSw
/-- A square with two rows exchanged in such columns is a square. -/
theorem sw_lat {n : Nat} {t : Nat → Nat → Nat} {a b : Nat} {S : Nat → Bool} (hl : Lat n t) (ha : a < n) (hb : b < n) (hab : a ≠ b) (h : ClS n t a b S) : Lat n (swT t a b S) := by
  refine ⟨fun x y hx hy => ?_, fun x y z hx hy hz e => ?_, fun x y z hx hy hz e => ?_⟩
  · unfold swT
    cases S y
    · exact hl.lt x y hx hy
    · show (if x = a then t b y else if x = b then t a y else t x y) < n
      split
      · exact hl.lt b y hb hy
      · split
        · exact hl.lt a y ha hy
        · exact hl.lt x y hx hy
  · by_cases hxa : x = a
    · subst hxa
      cases hSy : S y <;> cases hSz : S z
      · rw [swT_no hSy, swT_no hSz] at e; exact hl.left _ _ _ hx hy hz e
      · rw [swT_no hSy, swT_a hSz] at e
        obtain ⟨w, hw, hSw, ew⟩ := h z hz hSz
        rw [ew] at e
        rw [hl.left _ _ _ hx hy hw e, hSw] at hSy; cases hSy
      · rw [swT_a hSy, swT_no hSz] at e
        obtain ⟨w, hw, hSw, ew⟩ := h y hy hSy
        rw [ew] at e
        rw [← hl.left _ _ _ hx hw hz e, hSw] at hSz; cases hSz
      · rw [swT_a hSy, swT_a hSz] at e; exact hl.left _ _ _ hb hy hz e
    · by_cases hxb : x = b
      · subst hxb
        cases hSy : S y <;> cases hSz : S z
        · rw [swT_no hSy, swT_no hSz] at e; exact hl.left _ _ _ hx hy hz e
        · rw [swT_no hSy, swT_b hab hSz] at e
          obtain ⟨w, hw, hSw, ew⟩ := clS_back hl ha hb h hz hSz
          rw [ew] at e
          rw [hl.left _ _ _ hx hy hw e, hSw] at hSy; cases hSy
        · rw [swT_b hab hSy, swT_no hSz] at e
          obtain ⟨w, hw, hSw, ew⟩ := clS_back hl ha hb h hy hSy
          rw [ew] at e
          rw [← hl.left _ _ _ hx hw hz e, hSw] at hSz; cases hSz
        · rw [swT_b hab hSy, swT_b hab hSz] at e; exact hl.left _ _ _ ha hy hz e
      · rw [swT_ne hxa hxb, swT_ne hxa hxb] at e; exact hl.left _ _ _ hx hy hz e
  · cases hS : S x with
    | false => rw [swT_no hS, swT_no hS] at e; exact hl.right _ _ _ hx hy hz e
    | true =>
      have hv : ∀ u, swT t a b S u x = t (if u = a then b else if u = b then a else u) x := fun u => by
        unfold swT; rw [hS]
        show (if u = a then t b x else if u = b then t a x else t u x) = _
        split
        · rfl
        · split <;> rfl
      rw [hv, hv] at e
      have hlt : ∀ u, u < n → (if u = a then b else if u = b then a else u) < n := fun u hu => by split; exact hb; split; exact ha; exact hu
      have := hl.right x _ _ hx (hlt y hy) (hlt z hz) e
      (repeat' split at this) <;> omega
theorem sw_sq {n : Nat} {t : Nat → Nat → Nat} {a b : Nat} {S : Nat → Bool} (hs : IsSq (n : Int) t) (ha : a < n) (hb : b < n) (hab : a ≠ b) (h : ClS n t a b S) (hS : ∀ y, S y = true → y < n) : IsSq (n : Int) (swT t a b S) :=
  sq_of_latX (by have := hs.lo; omega) (by have := hs.hi; omega) (sw_lat (Lat.of_sq hs) ha hb hab h) fun i j hi10 hj10 hij => by
    unfold swT
    cases hSj : S j with
    | false => exact sq_zero hs hi10 hj10 hij
    | true =>
      have hj := hS j hSj
      show (if i = a then t b j else if i = b then t a j else t i j) = 0
      rw [if_neg (by omega), if_neg (by omega)]
      exact sq_zero hs hi10 hj10 hij
end Go.Proofs.Ythdldlpflieeoaa

/- Triples that lead there and back, in plain words. -/
namespace Go.Proofs.Ythdldlpflieeoaa
set_option linter.unusedSimpArgs false
set_option linter.unusedVariables false

theorem IsPm.toPm {N : Nat} {p : Nat → Nat} (h : IsPm (N : Int) p) : Pm N p := ⟨fun i hi => by have := h.hi; have := h.lt i (by omega) (by omega); omega, fun i j hi hj e => pm_inj h (by omega) (by omega) e⟩
theorem pm_is {N : Nat} {p : Nat → Nat} (h0 : 1 ≤ N) (h1 : N ≤ 10) (h : Pm N p) (hz : ∀ i, i < 10 → N ≤ i → p i = 0) : IsPm (N : Int) p :=
  ⟨by omega, by omega, fun i hi hn => hz i hi (by omega), fun i _ hn => by have := h.lt i (by omega); omega, fun i j _ hj hn e => by have := h.inj i j (by omega) (by omega) e; omega⟩
theorem bk_at {N : Nat} {p : Nat → Nat} (hp : Pm N p) : ∀ {k : Nat}, k ≤ N → ∀ {i : Nat}, i < k → bkTo p k (p i) = i
  | k + 1, hk, i, hi => by
    show (if p i = p k then k else bkTo p k (p i)) = i
    by_cases e : i = k
    · subst e; rw [if_pos rfl]
    · rw [if_neg (fun h => e (hp.inj _ _ (by omega) (by omega) h)), bk_at hp (by omega) (by omega)]
theorem bk_out {p : Nat → Nat} {v : Nat} : ∀ {k : Nat}, (∀ i, i < k → p i ≠ v) → bkTo p k v = 0
  | 0, _ => rfl
  | k + 1, h => by
    show (if v = p k then k else bkTo p k v) = 0
    rw [if_neg (fun e => h k (by omega) e.symm), bk_out fun i hi => h i (by omega)]
theorem bk_pm {N : Nat} {p : Nat → Nat} (hp : Pm N p) : Pm N (bkTo p N) := by
  refine ⟨fun v hv => ?_, fun u v hu hv e => ?_⟩
  · obtain ⟨i, hi, rfl⟩ := hp.surj hv
    rw [bk_at hp (Nat.le_refl _) hi]; exact hi
  · obtain ⟨i, hi, rfl⟩ := hp.surj hu
    obtain ⟨j, hj, rfl⟩ := hp.surj hv
    rw [bk_at hp (Nat.le_refl _) hi, bk_at hp (Nat.le_refl _) hj] at e
    rw [e]
theorem bk_is {N : Nat} {p : Nat → Nat} (h : IsPm (N : Int) p) : IsPm (N : Int) (bkTo p N) :=
  pm_is (by have := h.lo; omega) (by have := h.hi; omega) (bk_pm h.toPm) fun i _ hi => bk_out fun j hj e => by have := h.toPm.lt j hj; omega
theorem th_is {N : Nat} {p q : Nat → Nat} (h : IsPm (N : Int) p) (k : IsPm (N : Int) q) : IsPm (N : Int) (thTo p q N) :=
  pm_is (by have := h.lo; omega) (by have := h.hi; omega) (pm_then h.toPm k.toPm) fun i _ hi => by unfold thTo; rw [if_neg (by omega)]
theorem th_bk {N : Nat} {p : Nat → Nat} (hp : Pm N p) : thTo p (bkTo p N) N = idTo N := by
  funext i
  unfold thTo idTo
  by_cases h : i < N
  · rw [if_pos h, if_pos h, bk_at hp (Nat.le_refl _) h]
  · rw [if_neg h, if_neg h]
theorem pm_idTo (N : Nat) : Pm N (idTo N) := ⟨fun i hi => by unfold idTo; rw [if_pos hi]; exact hi, fun i j hi hj e => by unfold idTo at e; rwa [if_pos hi, if_pos hj] at e⟩
theorem idTo_is {N : Nat} (h0 : 1 ≤ N) (h1 : N ≤ 10) : IsPm (N : Int) (idTo N) := pm_is h0 h1 (pm_idTo N) fun i _ hi => by unfold idTo; rw [if_neg (by omega)]
/-- The isotope by maps that lead back is the square. -/
theorem iso_back {N : Nat} {t : Nat → Nat → Nat} {f g h : Nat → Nat} (hs : IsSq (N : Int) t) (hf : Pm N f) (hg : Pm N g) (hh : Pm N h) {x y : Nat} (hx : x < 10) (hy : y < 10) :
    isoW N (isoW N t f g h (N * N)) (bkTo f N) (bkTo g N) (bkTo h N) (N * N) x y = t x y := by
  by_cases hc : x < N ∧ y < N
  · have hl := Lat.of_sq hs
    have e := isoW_all (t := isoW N t f g h (N * N)) (h := bkTo h N) (bk_pm hf) (bk_pm hg) (hf.lt x hc.1) (hg.lt y hc.2)
    rw [bk_at hf (Nat.le_refl _) hc.1, bk_at hg (Nat.le_refl _) hc.2, isoW_all hf hg hc.1 hc.2, bk_at hh (Nat.le_refl _) (hl.lt x y hc.1 hc.2)] at e
    exact e
  · rw [sq_zero hs hx hy (by omega)]
    exact isoW_zeroX (bk_pm hf).lt (bk_pm hg).lt (by omega) _ (Nat.le_refl _)
theorem iso_same {N : Nat} {t : Nat → Nat → Nat} (hs : IsSq (N : Int) t) {x y : Nat} (hx : x < 10) (hy : y < 10) : isoW N t (idTo N) (idTo N) (idTo N) (N * N) x y = t x y := by
  by_cases hc : x < N ∧ y < N
  · have hl := Lat.of_sq hs
    have e := isoW_all (t := t) (h := idTo N) (pm_idTo N) (pm_idTo N) hc.1 hc.2
    have ex : idTo N x = x := by unfold idTo; rw [if_pos hc.1]
    have ey : idTo N y = y := by unfold idTo; rw [if_pos hc.2]
    have et : idTo N (t x y) = t x y := by unfold idTo; rw [if_pos (hl.lt x y hc.1 hc.2)]
    rw [ex, ey, et] at e
    exact e
  · rw [sq_zero hs hx hy (by omega)]
    exact isoW_zeroX (pm_idTo N).lt (pm_idTo N).lt (by omega) _ (Nat.le_refl _)
end Go.Proofs.Ythdldlpflieeoaa

/- Rows of memory that are read, and append of one element. -/
namespace Go.Proofs.Ythdldlpflieeoaa
set_option linter.unusedSimpArgs false
set_option linter.unusedVariables false
open Go.RowKit

/-- The first n cells of block g hold the values of f. -/
structure rds (w : World) (g n : Nat) (f : Nat → Value) : Prop where
  lt : g < w.heap.size
  at_ : ∀ j, j < n → w.cell? ⟨g, j, none⟩ = some (f j)
theorem rds.below {w w' : World} {B g n : Nat} {f : Nat → Value} (h : rds w g n f) (hb : Below B w w') (hB : g < B) : rds w' g n f :=
  ⟨Nat.lt_of_lt_of_le h.lt hb.size, fun j hj => by rw [hb.cell (p := ⟨g, j, none⟩) hB]; exact h.at_ j hj⟩
theorem rds.later {w w' : World} {g n : Nat} {f : Nat → Value} (h : rds w g n f) (hb : Below w.heap.size w w') : rds w' g n f := h.below hb h.lt
theorem rds.drew {w : World} {g n : Nat} {f : Nat → Value} (h : rds w g n f) : rds w.drew g n f := ⟨h.lt, h.at_⟩
theorem rds.drewN {w : World} {g n : Nat} {f : Nat → Value} (h : rds w g n f) (k : Nat) : rds (w.drewN k) g n f := ⟨h.lt, h.at_⟩
theorem rds.alloc {w : World} {g n : Nat} {f : Nat → Value} (h : rds w g n f) (o : Obj) : rds (w.alloc o) g n f := h.later ((Below.refl _ _).alloc (Nat.le_refl _) _)
theorem rds.other {w : World} {g n b : Nat} {f : Nat → Value} (h : rds w g n f) (j : Nat) (v : Value) (hb : b ≠ g) : rds (w.setCell ⟨b, j, none⟩ v) g n f :=
  ⟨by simpa [World.setCell] using h.lt, fun i hi => by rw [World.cell?_of_block (w := w) (a := ⟨g, i, none⟩) (Below.heap_setCell _ _ _ _ (Ne.symm hb))]; exact h.at_ i hi⟩
theorem rds.put_other {w : World} {g n b : Nat} {f : Nat → Value} (h : rds w g n f) (cs : Array Value) (t : Nat) (hb : b ≠ g) : rds (World.put w b cs t) g n f :=
  ⟨by simpa [World.put] using h.lt, fun i hi => by rw [World.cell?_of_block (w := w) (a := ⟨g, i, none⟩) (by simp [World.put, Array.getElem?_setIfInBounds, hb])]; exact h.at_ i hi⟩
theorem rds.grown {w w' : World} {g n : Nat} {f : Nat → Value} {row : Option Nat} (h : rds w g n f) (hg : w.grownBy w' row) (hr : some g ≠ row) : rds w' g n f :=
  ⟨Nat.lt_of_lt_of_le h.lt hg.size, fun j hj => by rw [World.cell?_of_block (w := w) (a := ⟨g, j, none⟩) (hg.block g h.lt hr)]; exact h.at_ j hj⟩
theorem blk.grown {w w' : World} {b : Nat} {cs : Array Value} {t : Nat} {row : Option Nat} (h : blk w b cs t) (hg : w.grownBy w' row) (hr : some b ≠ row) : blk w' b cs t :=
  ⟨by rw [hg.block b h.lt hr, h.out]⟩
theorem grown_below {w w' : World} (hb : Below w.heap.size w w') (row : Option Nat) : w.grownBy w' row := ⟨hb.os, hb.tape, hb.output, hb.size, fun k hk _ => hb.block k hk⟩
theorem blk.rds {w : World} {b : Nat} {cs : Array Value} {t : Nat} (h : blk w b cs t) {n : Nat} {f : Nat → Value} (hc : ∀ j, j < n → cs[j]? = some (f j)) : rds w b n f :=
  ⟨h.lt, fun j hj => h.cell j _ (hc j hj)⟩

theorem flat_one {cs : Array Value} (h : flat cs) : ∀ u ∈ cs.toList, u.oneCell' = true := by
  intro u hu
  have := h u hu
  cases u <;> simp_all [Value.oneCell']

/-- What a slice that owns its row reads as. -/
theorem own_rds {w : World} {base e n : Nat} {v : Value} {xs : List Value} {size : Nat} (h : w.ownsRow base e size v n xs) (hn : 0 < n * size) : ∃ g cap, v = .slice (some ⟨g, 0, none⟩) n cap ∧ base ≤ g ∧ v.ownBlock = some g ∧ rds w g (n * size) (fun j => xs.getD j undef) := by
  rcases h.2 with ⟨_, rfl⟩ | ⟨g, cap, cur, rfl, hb, hh, h1, h2, h3, h4⟩
  · simp at hn
  · refine ⟨g, cap, rfl, hb, rfl, (Array.getElem?_eq_some_iff.1 hh).1, fun j hj => ?_⟩
    have := h.cells (g := g) rfl j (xs.getD j undef) (by rw [List.getD_eq_getElem?_getD]; rw [List.getElem?_eq_getElem (by rw [h.1]; exact hj)]; rfl)
    rwa [add_none, Nat.zero_add] at this

theorem own_form {w : World} {base e size n : Nat} {v : Value} {xs : List Value} (h : w.ownsRow base e size v n xs) : ∃ pp cap, v = .slice pp n cap := by
  rcases h.2 with ⟨h, h'⟩ | ⟨g, cap, cur, h, _⟩
  · exact ⟨none, 0, by rw [h, h']⟩
  · exact ⟨_, _, h⟩
theorem own_empty (W : World) (base e size b : Nat) (hb : b = W.heap.size) (h : base ≤ W.heap.size) : (W.alloc (.cells #[] e)).ownsRow base e size (.slice (some ⟨b, 0, none⟩) 0 0) 0 [] := by
  subst hb
  exact World.ownsRow_lit (base := base) (size := size) W #[] 0 h (by simp [maxLen]) (by simp)

section
variable {P : Program}
/-- A slice of given parts. -/
theorem wpList_bsl {ops : Array Oper} {rest : List Oper} {o : Oper} {a : Act} {w : World} {Q : Exit → Act → World → Prop} (hgd : o.guard = none) (ty : TypeId) (len : Nat) (l : List (Nat × Operand)) (ho : o.op = .buildSlice ty len l.toArray)
    (vals : List (Nat × Value)) (hv : l.map (fun p => (p.1, a.eval p.2)) = vals) (v : Value) (w' : World) (hb : (Instr.buildSlice ty len vals.toArray).run P w = .ok v w')
    (h : wpList P ops Q rest (a.put o.dst v) w') : wpList P ops Q (o :: rest) a w := by
  refine wpList_wanted (by simp [Region.wanted, hgd]) ?_
  subst hv
  unfold Oper.wp execOp
  simp only [ho, List.map_toArray, Sem.run_bind, hb, Result.andThen_ok, Sem.run_pure]
  exact h
/-- append(v, x): one element more. -/
theorem wpList_app1 {ops : Array Oper} {rest : List Oper} {o : Oper} {a : Act} {w : World} {Q : Exit → Act → World → Prop} (hgd : o.guard = none) (s x : Operand) (t : TypeId)
    (ho : o.op = .call { callee := .builtin .append, args := #[s, x], argTypes := #[t, t] })
    (base : Nat) (e : TypeId) (z : Value) (size bytes : Nat) (ht : P.underlying t = some (.slice e)) (hinfo : (P.info? e).map (fun i => (i.zero, i.size, i.bytes)) = some (some z, size, bytes))
    (hzs : z.cells.size = size) (hsz : 0 < size) (hby : 0 < bytes) (v : Value) (n : Nat) (xs : List Value) (hs : a.eval s = v) (hown : w.ownsRow base e size v n xs)
    (b : Nat) (hx : a.eval x = .slice (some ⟨b, 0, none⟩) 1 1) (ys : Array Value) (hy : blk w b ys e) (hys : ys.size = size) (h1 : flat ys)
    (hbytes : (n + 1) * bytes ≤ 140737488355328) (hbase : base ≤ w.heap.size)
    (h : ∀ v' w', w'.ownsRow base e size v' (n + 1) (xs ++ ys.toList) → w.grownBy w' v.ownBlock → (v'.ownBlock = v.ownBlock ∨ v'.ownBlock = some w.heap.size) → wpList P ops Q rest (a.put o.dst v') w') :
    wpList P ops Q (o :: rest) a w := by
  obtain ⟨i0, hi, hzz⟩ := Option.map_eq_some_iff.1 hinfo
  simp only [Prod.mk.injEq] at hzz
  obtain ⟨hz0, hz1, hz2⟩ := hzz
  refine wpList_append_own_at w hgd s x t ho base e i0 z size bytes ht hi hz0 hz1 hz2 hzs hsz v n xs hs hown ⟨b, 0, none⟩ 1 1 ys.toList hx (by simpa using hys) (fun j u hu => ?_) (flat_one h1) ?_ hbytes hbase (fun v' w' h2 h3 _ h5 => h v' w' h2 h3 h5)
  · rw [add_none, Nat.zero_add]
    exact hy.cell j u (by simpa using hu)
  · have : n + 1 ≤ (n + 1) * bytes := Nat.le_mul_of_pos_right _ hby
    simp only [maxLen]
    omega
end
end Go.Proofs.Ythdldlpflieeoaa

