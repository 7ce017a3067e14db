/- Plain facts on blocks of memory, on tables of values, and steps of the walk over whole rows; nothing here speaks of the program. -/
import Derived.WalkKit
import Derived.WalkSpells
import Derived.WalkLawsBesides
namespace Go.Proofs.Ytinjjaoikofkdaa
set_option linter.unusedSimpArgs false
set_option linter.unusedVariables false
open Go.RowKit

/-- A fact kept from the walk. -/
structure Hid2 (p : Prop) : Prop where mk :: (out : p)

/-! ### Blocks -/
/-- Block b of the world w holds just the cells cs. -/
structure blk (w : World) (b : Nat) (cs : Array Value) (t : Nat) : Prop where
  out : w.heap[b]? = some (.cells cs t (0, 0))

theorem blk.cell {w : World} {b : Nat} {cs : Array Value} {t : Nat} (h : blk w b cs t) (j : Nat) (v : Value) (hj : cs[j]? = some v) : w.cell? ⟨b, j, none⟩ = some v := by
  have := h.out; simp [World.cell?, this, hj]
theorem blk.free {w : World} {b : Nat} {cs : Array Value} {t : Nat} (h : blk w b cs t) (j : Nat) : w.frozen? ⟨b, j, none⟩ = false := by
  have := h.out; simp [World.frozen?, this]
theorem blk.lt {w : World} {b : Nat} {cs : Array Value} {t : Nat} (h : blk w b cs t) : b < w.heap.size := (Array.getElem?_eq_some_iff.1 h.out).1
theorem blk.below {w w' : World} {B b : Nat} {cs : Array Value} {t : Nat} (h : blk w b cs t) (hb : Below B w w') (hB : b < B) : blk w' b cs t := ⟨by rw [hb.block _ hB, h.out]⟩
theorem blk.later {w w' : World} {b : Nat} {cs : Array Value} {t : Nat} (h : blk w b cs t) (hb : Below w.heap.size w w') : blk w' b cs t := h.below hb h.lt
theorem blk.set {w : World} {b : Nat} {cs : Array Value} {t : Nat} (h : blk w b cs t) (j : Nat) (v : Value) : blk (w.setCell ⟨b, j, none⟩ v) b (cs.setIfInBounds j v) t :=
  ⟨by have := h.out; simp [World.setCell, Array.getElem?_modify, this]⟩
theorem blk.other {w : World} {b c : Nat} {cs : Array Value} {t : Nat} (h : blk w b cs t) (j : Nat) (v : Value) (hc : c ≠ b) : blk (w.setCell ⟨c, j, none⟩ v) b cs t :=
  ⟨by have := h.out; simp [World.setCell, Array.getElem?_modify, this, hc]⟩
theorem blk.alloc {w : World} {b : Nat} {cs : Array Value} {t : Nat} (h : blk w b cs t) (o : Obj) : blk (w.alloc o) b cs t :=
  ⟨by have := h.lt; have e := h.out; show (w.heap.push o)[b]? = _; rw [Array.getElem?_push, if_neg (by omega), e]⟩
theorem blk.drew {w : World} {b : Nat} {cs : Array Value} {t : Nat} (h : blk w b cs t) : blk w.drew b cs t := ⟨h.out⟩
theorem blk.drewN {w : World} {b : Nat} {cs : Array Value} {t : Nat} (h : blk w b cs t) (n : Nat) : blk (w.drewN n) b cs t := ⟨h.out⟩
theorem blk_new (w : World) (cs : Array Value) (t b : Nat) (hb : b = w.heap.size) : blk (w.alloc (.cells cs t)) b cs t := ⟨by subst hb; exact heap_alloc_new w _⟩
theorem blk_past {w : World} {b : Nat} {cs : Array Value} {t : Nat} (h : blk w b cs t) (o : Obj) : blk (w.alloc o) b cs t := h.alloc o

theorem blk.eq {w : World} {b : Nat} {cs cs' : Array Value} {t : Nat} (h : blk w b cs t) (e : cs = cs') : blk w b cs' t := e ▸ h

/-- The world with the cells of one block replaced. -/
def World.put (w : World) (b : Nat) (cs : Array Value) (t : Nat) : World := { w with heap := w.heap.setIfInBounds b (.cells cs t (0, 0)) }
theorem put_size (w : World) (b : Nat) (cs : Array Value) (t : Nat) : (World.put w b cs t).heap.size = w.heap.size := by simp [World.put]
theorem blk_put {w : World} {b : Nat} {cs cs' : Array Value} {t : Nat} (h : blk w b cs t) (t' : Nat) : blk (World.put w b cs' t') b cs' t' :=
  ⟨by have := h.lt; simp [World.put, this]⟩
theorem blk_put_other {w : World} {b c : Nat} {cs cs' : Array Value} {t t' : Nat} (h : blk w b cs t) (hc : c ≠ b) : blk (World.put w c cs' t') b cs t :=
  ⟨by have := h.out; simp [World.put, Array.getElem?_setIfInBounds, hc, this]⟩
theorem below_put {B : Nat} {a w : World} (h : Below B a w) {b : Nat} (hb : B ≤ b) (cs : Array Value) (t : Nat) : Below B a (World.put w b cs t) :=
  h.trans ⟨rfl, rfl, rfl, by simp [World.put], fun k hk => by simp only [World.put]; rw [Array.getElem?_setIfInBounds, if_neg (by omega)]⟩
theorem below_then {B : Nat} {w w1 w2 : World} (h : Below B w w1) (hB : B ≤ w1.heap.size) (k : Below w1.heap.size w1 w2) : Below B w w2 :=
  h.trans ⟨k.os, k.tape, k.output, k.size, fun i hi => k.block i (Nat.lt_of_lt_of_le hi hB)⟩
theorem below_self {w w1 w2 : World} (h : Below w.heap.size w w1) (k : Below w1.heap.size w1 w2) : Below w.heap.size w w2 := below_then h h.size k
theorem below_alloc {w W : World} (h : Below w.heap.size w W) (o : Obj) : Below w.heap.size w (W.alloc o) := h.alloc h.size o
theorem below_drewN {B : Nat} {w W : World} (h : Below B w W) (n : Nat) : Below B w (W.drewN n) := ⟨h.os, h.tape, h.output, h.size, h.block⟩

theorem ret_b {a b : Bool} (h : b = a) : Ending.returned (.bool a) = Ending.returned (.bool b) := by rw [h]
theorem ret_agg {a b : Array Value} (h : b = a) : Ending.returned (.agg a) = Ending.returned (.agg b) := by rw [h]

/-! ### Tables of values -/
/-- The first n values of a function. -/
def tab (n : Nat) (g : Nat → Value) : Array Value := ((List.range n).map g).toArray
theorem tab_size (n : Nat) (g : Nat → Value) : (tab n g).size = n := by simp [tab]
theorem tab_get {n : Nat} {g : Nat → Value} {i : Nat} (h : i < n) : (tab n g)[i]? = some (g i) := by simp [tab, h]
theorem tab_get_some {n : Nat} {g : Nat → Value} {i : Nat} {v : Value} (h : (tab n g)[i]? = some v) : i < n ∧ v = g i := by
  rcases Nat.lt_or_ge i n with hi | hi
  · rw [tab_get hi] at h; exact ⟨hi, (Option.some.inj h).symm⟩
  · rw [Array.getElem?_eq_none (by rw [tab_size]; exact hi)] at h; cases h
theorem tab_ext {n : Nat} {f g : Nat → Value} (h : ∀ i, i < n → f i = g i) : tab n f = tab n g := by
  unfold tab
  congr 1
  exact List.map_congr_left fun a ha => h a (List.mem_range.1 ha)
theorem tab_of {n : Nat} {cs : Array Value} {g : Nat → Value} (hs : cs.size = n) (h : ∀ i, i < n → cs[i]? = some (g i)) : cs = tab n g := by
  apply Array.ext_getElem?
  intro i
  rcases Nat.lt_or_ge i n with hi | hi
  · rw [h i hi, tab_get hi]
  · rw [Array.getElem?_eq_none (by omega), Array.getElem?_eq_none (by rw [tab_size]; exact hi)]
theorem tab_set {n : Nat} {g : Nat → Value} {i : Nat} (v : Value) : (tab n g).setIfInBounds i v = tab n (fun j => if j = i then v else g j) := by
  refine tab_of (by simp [tab_size]) fun j hj => ?_
  rw [Array.getElem?_setIfInBounds]
  by_cases e : i = j
  · subst e; simp [tab_size, hj]
  · rw [if_neg e, tab_get hj, if_neg (fun h => e h.symm)]

/-- The cells of ten bytes. -/
def bys (f : Nat → Nat) : Array Value := tab 10 fun i => .int .u8 (f i)
theorem bys_size (f : Nat → Nat) : (bys f).size = 10 := tab_size _ _
theorem bys_get {f : Nat → Nat} {i : Nat} (h : i < 10) : (bys f)[i]? = some (.int .u8 (f i)) := tab_get h
theorem bys_set (f : Nat → Nat) (i v : Nat) : (bys f).setIfInBounds i (.int .u8 v) = bys (fun j => if j = i then v else f j) := by
  unfold bys; rw [tab_set]; exact tab_ext fun j _ => by dsimp only; split <;> rfl
theorem bys_grow (f : Nat → Nat) (k : Nat) : (bys fun j => if j < k then f j else 0).setIfInBounds k (.int .u8 (f k)) = bys fun j => if j < k + 1 then f j else 0 := by
  rw [bys_set]
  refine tab_ext fun i hi => ?_
  by_cases h : i = k
  · subst h; simp
  · by_cases h2 : i < k
    · simp [h, h2, show i < k + 1 by omega]
    · simp [h, h2, show ¬ i < k + 1 by omega]
theorem bys_ext {f g : Nat → Nat} (h : ∀ i, i < 10 → f i = g i) : bys f = bys g := tab_ext fun i hi => by rw [h i hi]

/-- The cells of ten bools. -/
def bls (f : Nat → Bool) : Array Value := tab 10 fun i => .bool (f i)
theorem bls_size (f : Nat → Bool) : (bls f).size = 10 := tab_size _ _
theorem bls_get {f : Nat → Bool} {i : Nat} (h : i < 10) : (bls f)[i]? = some (.bool (f i)) := tab_get h
theorem bls_set (f : Nat → Bool) (i : Nat) (v : Bool) : (bls f).setIfInBounds i (.bool v) = bls (fun j => if j = i then v else f j) := by
  unfold bls; rw [tab_set]; exact tab_ext fun j _ => by dsimp only; split <;> rfl

/-- The cells of a table of ten rows of ten bytes. -/
def tbs (t : Nat → Nat → Nat) : Array Value := tab 100 fun i => .int .u8 (t (i / 10) (i % 10))
theorem tbs_size (t : Nat → Nat → Nat) : (tbs t).size = 100 := tab_size _ _
theorem tbs_get {t : Nat → Nat → Nat} {x y : Nat} (hx : x < 10) (hy : y < 10) : (tbs t)[x * 10 + y]? = some (.int .u8 (t x y)) := by
  unfold tbs; rw [tab_get (by omega), show (x * 10 + y) / 10 = x by omega, show (x * 10 + y) % 10 = y by omega]
theorem tbs_set {t : Nat → Nat → Nat} {x y v : Nat} (hx : x < 10) (hy : y < 10) :
    (tbs t).setIfInBounds (x * 10 + y) (.int .u8 v) = tbs (fun i j => if i = x ∧ j = y then v else t i j) := by
  unfold tbs; rw [tab_set]
  refine tab_ext fun i hi => ?_
  by_cases h : i = x * 10 + y
  · subst h
    rw [if_pos rfl, show (x * 10 + y) / 10 = x by omega, show (x * 10 + y) % 10 = y by omega]
    simp
  · rw [if_neg h]
    have : ¬(i / 10 = x ∧ i % 10 = y) := by omega
    simp [this]
theorem tbs_ext {t u : Nat → Nat → Nat} (h : ∀ x y, x < 10 → y < 10 → t x y = u x y) : tbs t = tbs u := tab_ext fun i hi => by rw [h _ _ (by omega) (by omega)]

/-- The cells of a square. -/
def sqs (n : Int) (t : Nat → Nat → Nat) : Array Value := tab 101 fun i => if i = 0 then .int .i64 n else .int .u8 (t ((i - 1) / 10) ((i - 1) % 10))
theorem sqs_size (n : Int) (t : Nat → Nat → Nat) : (sqs n t).size = 101 := tab_size _ _
theorem sqs_order (n : Int) (t : Nat → Nat → Nat) : (sqs n t)[0]? = some (.int .i64 n) := tab_get (by omega)
theorem sqs_get {n : Int} {t : Nat → Nat → Nat} {x y : Nat} (hx : x < 10) (hy : y < 10) : (sqs n t)[1 + x * 10 + y]? = some (.int .u8 (t x y)) := by
  unfold sqs; rw [tab_get (by omega), if_neg (by omega), show (1 + x * 10 + y - 1) / 10 = x by omega, show (1 + x * 10 + y - 1) % 10 = y by omega]
theorem sqs_get_first {n : Int} {t : Nat → Nat → Nat} {y : Nat} (hy : y < 10) : (sqs n t)[1 + y]? = some (.int .u8 (t 0 y)) := by
  have := sqs_get (n := n) (t := t) (x := 0) (by omega) hy
  rwa [show 1 + 0 * 10 + y = 1 + y by omega] at this
theorem sqs_get_head {n : Int} {t : Nat → Nat → Nat} {x : Nat} (hx : x < 10) : (sqs n t)[1 + x * 10]? = some (.int .u8 (t x 0)) := by
  have := sqs_get (n := n) (t := t) (y := 0) hx (by omega)
  rwa [Nat.add_zero] at this
theorem sqs_ext {n m : Int} {t u : Nat → Nat → Nat} (hn : n = m) (h : ∀ x y, x < 10 → y < 10 → t x y = u x y) : sqs n t = sqs m u := by
  subst hn
  refine tab_ext fun i hi => ?_
  by_cases h0 : i = 0
  · rw [if_pos h0, if_pos h0]
  · rw [if_neg h0, if_neg h0, h _ _ (by omega) (by omega)]
theorem sqs_set {n : Int} {t : Nat → Nat → Nat} {x y v : Nat} (hx : x < 10) (hy : y < 10) :
    (sqs n t).setIfInBounds (1 + x * 10 + y) (.int .u8 v) = sqs n (fun i j => if i = x ∧ j = y then v else t i j) := by
  unfold sqs; rw [tab_set]
  refine tab_ext fun i hi => ?_
  by_cases h0 : i = 0
  · subst h0; rw [if_neg (by omega), if_pos rfl, if_pos rfl]
  · rw [if_neg h0, if_neg h0]
    by_cases h : i = 1 + x * 10 + y
    · subst h
      rw [if_pos rfl, show (1 + x * 10 + y - 1) / 10 = x by omega, show (1 + x * 10 + y - 1) % 10 = y by omega]
      simp
    · rw [if_neg h]
      have : ¬((i - 1) / 10 = x ∧ (i - 1) % 10 = y) := by omega
      simp [this]
theorem sqs_set_order (n m : Int) (t : Nat → Nat → Nat) : (sqs n t).setIfInBounds 0 (.int .i64 m) = sqs m t := by
  unfold sqs; rw [tab_set]
  refine tab_ext fun i hi => ?_
  by_cases h0 : i = 0
  · rw [if_pos h0, if_pos h0]
  · rw [if_neg h0, if_neg h0, if_neg h0]

theorem sqs_tbs {n : Int} {t : Nat → Nat → Nat} : ∀ j v, (tbs t)[j]? = some v → (sqs n t)[1 + j]? = some v := by
  intro j v h
  obtain ⟨hj, rfl⟩ := tab_get_some h
  unfold sqs; rw [tab_get (by omega), if_neg (by omega), Nat.add_sub_cancel_left]
theorem sqs_row {n : Int} {t : Nat → Nat → Nat} {x : Nat} (hx : x < 10) : ∀ j v, (bys (t x))[j]? = some v → (sqs n t)[1 + x * 10 + j]? = some v := by
  intro j v h
  obtain ⟨hj, rfl⟩ := tab_get_some h
  exact sqs_get hx hj
theorem tbs_row {t : Nat → Nat → Nat} {x : Nat} (hx : x < 10) : ∀ j v, (bys (t x))[j]? = some v → (tbs t)[x * 10 + j]? = some v := by
  intro j v h
  obtain ⟨hj, rfl⟩ := tab_get_some h
  exact tbs_get hx hj

/-! ### Whole rows and parts of rows: read and written -/
section
variable {P : Program}

theorem add_none (b i j : Nat) : (⟨b, i, none⟩ : Addr).add j = ⟨b, i + j, none⟩ := by unfold Addr.add; split <;> simp_all

theorem run_load_part (w : World) (b off : Nat) (ty : TypeId) (part : Array Value) (d : TypeDesc)
    (hu : P.underlying ty = some d) (hd : (match d with | .struct _ | .array _ _ => true | _ => false) = true) (hi : (P.info? ty).map (·.size) = some part.size)
    (hc : ∀ j v, part[j]? = some v → w.cell? ⟨b, off + j, none⟩ = some v) :
    (loadVar ty ⟨b, off, none⟩).run P w = .ok (.agg part) w := by
  have hl : (loadCells ⟨b, off, none⟩ part.toList.length).run P w = .ok part.toList.toArray w :=
    run_loadCells_list (P := P) w ⟨b, off, none⟩ part.toList (fun j v hv => by
      rw [add_none]
      exact hc j v (by simpa using hv))
  cases hq : P.info? ty with
  | none => simp [hq] at hi
  | some i =>
    have hs : i.size = part.size := by simpa [hq] using hi
    have hagg : (isAgg ty).run P w = .ok true w := by
      unfold isAgg
      rw [Sem.run_bind, run_underlying hu w]
      cases d <;> simp_all
    simp only [Array.length_toList, Array.toArray_toList] at hl
    simp [loadVar, Sem.run_bind, hagg, sizeOf, typeInfo, hq, hs, hl]

theorem wp_load_part {o : Oper} {a : Act} {w : World} {K : Act → World → Prop} {Q : Exit → Act → World → Prop} (ty : TypeId) (x : Operand) (ho : o.op = .load ty x)
    (b off : Nat) (hx : a.eval x = .pointer (some ⟨b, off, none⟩)) (part : Array Value) (d : TypeDesc)
    (hu : P.underlying ty = some d) (hd : (match d with | .struct _ | .array _ _ => true | _ => false) = true) (hi : (P.info? ty).map (·.size) = some part.size)
    (hc : ∀ j v, part[j]? = some v → w.cell? ⟨b, off + j, none⟩ = some v)
    (h : K (a.put o.dst (.agg part)) w) : o.wp P a w K Q := by
  unfold Oper.wp execOp
  simp only [ho, hx, Instr.loadAt, Instr.sureAddr, Sem.run_bind, Sem.run_pure, Result.andThen_ok, run_load_part w b off ty part d hu hd hi hc]
  exact h

theorem wpList_load_part {ops : Array Oper} {rest : List Oper} {o : Oper} {a : Act} {w : World} {Q : Exit → Act → World → Prop} (hgd : o.guard = none) (ty : TypeId) (x : Operand) (ho : o.op = .load ty x)
    (b off : Nat) (hx : a.eval x = .pointer (some ⟨b, off, none⟩)) (part : Array Value) (d : TypeDesc)
    (hu : P.underlying ty = some d) (hd : (match d with | .struct _ | .array _ _ => true | _ => false) = true) (hi : (P.info? ty).map (·.size) = some part.size)
    (hc : ∀ j v, part[j]? = some v → w.cell? ⟨b, off + j, none⟩ = some v)
    (h : wpList P ops Q rest (a.put o.dst (.agg part)) w) : wpList P ops Q (o :: rest) a w :=
  wpList_plain hgd fun _ hK => wp_load_part ty x ho b off hx part d hu hd hi hc (hK _ _ h)

theorem wpList_wanted {ops : Array Oper} {rest : List Oper} {o : Oper} {a : Act} {w : World} {Q : Exit → Act → World → Prop} (hw : Region.wanted o (yielded ops a.tmps) = true)
    (h : o.wp P a w (wpList P ops Q rest) Q) : wpList P ops Q (o :: rest) a w := by
  unfold wpList
  rw [if_pos hw]
  exact .inl h

/-- An aggregate is built of parts. -/
theorem wpList_build {ops : Array Oper} {rest : List Oper} {o : Oper} {a : Act} {w : World} {Q : Exit → Act → World → Prop} (ty : TypeId) (l : List (Nat × Operand)) (ho : o.op = .build ty l.toArray) (hw : Region.wanted o (yielded ops a.tmps) = true)
    (vals : List (Nat × Value)) (hv : l.map (fun p => (p.1, a.eval p.2)) = vals) (v : Value) (hb : (Instr.build ty vals.toArray).run P w = .ok v w)
    (h : wpList P ops Q rest (a.put o.dst v) w) : wpList P ops Q (o :: rest) a w := by
  refine wpList_wanted hw ?_
  subst hv
  unfold Oper.wp execOp
  simp only [ho, List.map_toArray, Sem.run_bind, hb, Result.andThen_ok, Sem.run_pure]
  exact h

/-- Two aggregates are compared. -/
theorem wpList_agg_g {ops : Array Oper} {rest : List Oper} {o : Oper} {a : Act} {w : World} {Q : Exit → Act → World → Prop} (op : BinOp) (ty ty' : TypeId) (x y : Operand) (ho : o.op = .binOp op ty x y ty') (hw : Region.wanted o (yielded ops a.tmps) = true)
    (xs ys : Array Value) (hx : a.eval x = .agg xs) (hy : a.eval y = .agg ys) (hm : P.eqGuardType P.depth ty = false) (v : Value) (hb : (binOp op ty (.agg xs) (.agg ys)).run P w = .ok v w)
    (h : wpList P ops Q rest (a.put o.dst v) w) : wpList P ops Q (o :: rest) a w := by
  refine wpList_wanted hw ?_
  unfold Oper.wp execOp
  simp only [ho, hx, hy, Sem.run_bind, run_eqGuard_agg w op ty x y xs ys hm, Result.andThen_ok, hb, Sem.run_pure]
  exact h

theorem wpList_load_part_g {ops : Array Oper} {rest : List Oper} {o : Oper} {a : Act} {w : World} {Q : Exit → Act → World → Prop} (ty : TypeId) (x : Operand) (ho : o.op = .load ty x) (hw : Region.wanted o (yielded ops a.tmps) = true)
    (b off : Nat) (hx : a.eval x = .pointer (some ⟨b, off, none⟩)) (part : Array Value) (d : TypeDesc)
    (hu : P.underlying ty = some d) (hd : (match d with | .struct _ | .array _ _ => true | _ => false) = true) (hi : (P.info? ty).map (·.size) = some part.size)
    (hc : ∀ j v, part[j]? = some v → w.cell? ⟨b, off + j, none⟩ = some v)
    (h : wpList P ops Q rest (a.put o.dst (.agg part)) w) : wpList P ops Q (o :: rest) a w :=
  wpList_wanted hw (wp_load_part ty x ho b off hx part d hu hd hi hc h)

/-- No cell of a row is itself a row. -/
def flat (cs : Array Value) : Prop := ∀ v ∈ cs.toList, (match v with | .agg _ | .tuple _ => false | _ => true) = true
theorem flat_tab {n : Nat} {g : Nat → Value} (h : ∀ i, i < n → (match g i with | .agg _ | .tuple _ => false | _ => true) = true) : flat (tab n g) := by
  intro v hv
  simp only [tab, List.mem_map, List.mem_range] at hv
  obtain ⟨i, hi, rfl⟩ := hv
  exact h i hi
theorem flat_bys (f : Nat → Nat) : flat (bys f) := flat_tab fun _ _ => rfl
theorem flat_bls (f : Nat → Bool) : flat (bls f) := flat_tab fun _ _ => rfl
theorem flat_tbs (t : Nat → Nat → Nat) : flat (tbs t) := flat_tab fun _ _ => rfl
theorem flat_sqs (n : Int) (t : Nat → Nat → Nat) : flat (sqs n t) := flat_tab fun i _ => by by_cases h : i = 0 <;> simp [h]

/-- The cells cs with those of part from off on. -/
def splice (cs : Array Value) (off : Nat) : List Value → Array Value
  | [] => cs
  | v :: l => splice (cs.setIfInBounds off v) (off + 1) l

theorem splice_size (off : Nat) (l : List Value) : ∀ cs : Array Value, ∀ off, (splice cs off l).size = cs.size := by
  induction l with
  | nil => intro cs off; rfl
  | cons v l ih => intro cs off; simp only [splice]; rw [ih]; simp

theorem splice_get (l : List Value) : ∀ (cs : Array Value) (off j : Nat), j < cs.size → (splice cs off l)[j]? = if off ≤ j ∧ j < off + l.length then l[j - off]? else cs[j]? := by
  induction l with
  | nil => intro cs off j hj; simp [splice]; intro h1 h2; omega
  | cons v l ih =>
    intro cs off j hj
    simp only [splice]
    rw [ih _ _ _ (by simpa using hj)]
    simp only [List.length_cons]
    by_cases h1 : off + 1 ≤ j ∧ j < off + 1 + l.length
    · rw [if_pos h1, if_pos (by omega), show j - off = (j - (off + 1)) + 1 by omega]
      simp
    · rw [if_neg h1, Array.getElem?_setIfInBounds]
      by_cases h2 : off = j
      · subst h2; rw [if_pos rfl, if_pos (by omega)]; simp [hj]
      · rw [if_neg h2, if_neg (by omega)]

theorem run_storeCells_blk (t : Nat) (b off : Nat) (l : List Value) (hl : ∀ v ∈ l, (match v with | .agg _ | .tuple _ => false | _ => true) = true) : ∀ (w : World) (cs : Array Value) (i : Nat), blk w b cs t → off + i + l.length ≤ cs.size →
    (storeCells ⟨b, off, none⟩ l i).run P w = .ok () (World.put w b (splice cs (off + i) l) t) := by
  induction l with
  | nil =>
    intro w cs i hb hsz
    have hw : World.put w b cs t = w := by
      have h1 := hb.out
      have h2 := hb.lt
      unfold World.put
      have : w.heap.setIfInBounds b (.cells cs t (0, 0)) = w.heap := by
        apply Array.ext_getElem?
        intro k
        rw [Array.getElem?_setIfInBounds]
        split
        · rename_i e; subst e; rw [h1]
        · rfl
      rw [this]
    simp [storeCells, splice, hw]
  | cons v l ih =>
    intro w cs i hb hsz
    have hv := hl v (by simp)
    have hlen : off + i < cs.size := by simp only [List.length_cons] at hsz; omega
    have hcell := hb.cell (off + i) cs[off + i] (by simp [hlen])
    have hfree := hb.free (off + i)
    have step : (store ((⟨b, off, none⟩ : Addr).add i) v).run P w = .ok () (w.setCell ⟨b, off + i, none⟩ v) := by
      rw [add_none]
      cases v <;> simp_all [store, Sem.run]
    have ih' := ih (fun u hu => hl u (by simp [hu])) (w.setCell ⟨b, off + i, none⟩ v) _ (i + 1) (hb.set (off + i) v) (by simp only [List.length_cons] at hsz; simp only [Array.size_setIfInBounds]; omega)
    have hheap : (w.setCell ⟨b, off + i, none⟩ v).heap.setIfInBounds b (.cells (splice (cs.setIfInBounds (off + i) v) (off + (i + 1)) l) t (0, 0)) = w.heap.setIfInBounds b (.cells (splice cs (off + i) (v :: l)) t (0, 0)) := by
      apply Array.ext_getElem?
      intro k
      simp only [World.setCell, Array.getElem?_setIfInBounds, Array.getElem?_modify, Array.size_modify, splice, Nat.add_assoc]
      by_cases e : b = k
      · simp [e]
      · simp [e]
    have hw : World.put (w.setCell ⟨b, off + i, none⟩ v) b (splice (cs.setIfInBounds (off + i) v) (off + (i + 1)) l) t = World.put w b (splice cs (off + i) (v :: l)) t := by
      unfold World.put
      rw [hheap]
      rfl
    unfold storeCells
    rw [Sem.run_bind, step]
    simp only [Result.andThen_ok]
    rw [ih', hw]

theorem wp_store_part {o : Oper} {a : Act} {w : World} {K : Act → World → Prop} {Q : Exit → Act → World → Prop} (ty : TypeId) (x y : Operand) (ho : o.op = .store ty x y)
    (b off : Nat) (hx : a.eval x = .pointer (some ⟨b, off, none⟩)) (part : Array Value) (hy : a.eval y = .agg part) (hi : (P.info? ty).map (·.size) = some part.size)
    (cs : Array Value) (t : Nat) (hb : blk w b cs t) (hsz : off + part.size ≤ cs.size) (hl : flat part)
    (h : K (a.put o.dst undef) (World.put w b (splice cs off part.toList) t)) : o.wp P a w K Q := by
  have hs := run_storeCells_blk (P := P) t b off part.toList hl w cs 0 hb (by simpa using hsz)
  simp only [Nat.add_zero] at hs
  cases hq : P.info? ty with
  | none => simp [hq] at hi
  | some i =>
    have hs' : i.size = part.size := by simpa [hq] using hi
    unfold Oper.wp execOp
    have hst : (storeVar ty ⟨b, off, none⟩ (.agg part)).run P w = .ok () (World.put w b (splice cs off part.toList) t) := by
      simp [storeVar, sizeOf, typeInfo, hq, hs', Value.cells, hs]
    simp only [ho, hx, hy, Instr.storeAt, Instr.sureAddr, Sem.run_bind, Sem.run_pure, Result.andThen_ok, hst]
    exact h

theorem wpList_store_part {ops : Array Oper} {rest : List Oper} {o : Oper} {a : Act} {w : World} {Q : Exit → Act → World → Prop} (hgd : o.guard = none) (ty : TypeId) (x y : Operand) (ho : o.op = .store ty x y)
    (b off : Nat) (hx : a.eval x = .pointer (some ⟨b, off, none⟩)) (part : Array Value) (hy : a.eval y = .agg part) (hi : (P.info? ty).map (·.size) = some part.size)
    (cs : Array Value) (t : Nat) (hb : blk w b cs t) (hsz : off + part.size ≤ cs.size) (hl : flat part)
    (h : wpList P ops Q rest (a.put o.dst undef) (World.put w b (splice cs off part.toList) t)) : wpList P ops Q (o :: rest) a w :=
  wpList_plain hgd fun _ hK => wp_store_part ty x y ho b off hx part hy hi cs t hb hsz hl (hK _ _ h)

theorem splice_all (cs : Array Value) (l : List Value) (h : l.length = cs.size) : splice cs 0 l = l.toArray := by
  apply Array.ext_getElem?
  intro i
  rcases Nat.lt_or_ge i cs.size with hi | hi
  · rw [splice_get _ _ _ _ hi, if_pos (by omega)]; simp
  · rw [Array.getElem?_eq_none (by rw [splice_size 0]; exact hi), Array.getElem?_eq_none (by simp; omega)]

/-- A whole block is written anew. -/
theorem wpList_store_row {ops : Array Oper} {rest : List Oper} {o : Oper} {a : Act} {w : World} {Q : Exit → Act → World → Prop} (hgd : o.guard = none) (ty : TypeId) (x y : Operand) (ho : o.op = .store ty x y)
    (b : Nat) (hx : a.eval x = .pointer (some ⟨b, 0, none⟩)) (part : Array Value) (hy : a.eval y = .agg part) (hi : (P.info? ty).map (·.size) = some part.size)
    (cs : Array Value) (t : Nat) (hb : blk w b cs t) (hsz : part.size = cs.size) (hl : flat part)
    (h : wpList P ops Q rest (a.put o.dst undef) (World.put w b part t)) : wpList P ops Q (o :: rest) a w := by
  refine wpList_store_part hgd ty x y ho b 0 hx part hy hi cs t hb (by omega) hl ?_
  rw [splice_all cs part.toList (by simpa using hsz), Array.toArray_toList]
  exact h

theorem results_part {fn : Func} {p : Tmp} {ty : TypeId} (h : fn.results = #[.cell p ty]) (tmps : Array Value) (w : World) (b off : Nat) (part : Array Value) (d : TypeDesc)
    (hp : tmps.getD p undef = .pointer (some ⟨b, off, none⟩)) (hu : P.underlying ty = some d) (hd : (match d with | .struct _ | .array _ _ => true | _ => false) = true) (hi : (P.info? ty).map (·.size) = some part.size)
    (hc : ∀ j v, part[j]? = some v → w.cell? ⟨b, off + j, none⟩ = some v) :
    (results fn tmps).run P w = .ok (.agg part) w := by
  have hp' : tmps[p]?.getD undef = .pointer (some ⟨b, off, none⟩) := by simpa using hp
  simp [results, h, hp', asAddr, run_load_part w b off ty part d hu hd hi hc]

theorem cells_of_blk {w : World} {b : Nat} {cs : Array Value} {t : Nat} (h : blk w b cs t) (off : Nat) (part : Array Value) (hp : ∀ j v, part[j]? = some v → cs[off + j]? = some v) : ∀ j v, part[j]? = some v → w.cell? ⟨b, off + j, none⟩ = some v :=
  fun j v hv => h.cell _ _ (hp j v hv)
theorem cells_of_blk0 {w : World} {b : Nat} {cs : Array Value} {t : Nat} (h : blk w b cs t) : ∀ j v, cs[j]? = some v → w.cell? ⟨b, 0 + j, none⟩ = some v :=
  fun j v hv => h.cell _ _ (by rw [Nat.zero_add]; exact hv)

theorem splice_tab {n : Nat} {g : Nat → Value} (off m : Nat) (f : Nat → Value) (h : off + m ≤ n) : splice (tab n g) off (tab m f).toList = tab n (fun i => if off ≤ i ∧ i < off + m then f (i - off) else g i) := by
  refine tab_of (by rw [splice_size 0, tab_size]) fun i hi => ?_
  rw [splice_get _ _ _ _ (by rw [tab_size]; exact hi)]
  have hm : (tab m f).toList.length = m := by rw [Array.length_toList, tab_size]
  rw [hm]
  by_cases hc : off ≤ i ∧ i < off + m
  · rw [if_pos hc, if_pos hc, Array.getElem?_toList, tab_get (by omega)]
  · rw [if_neg hc, if_neg hc, tab_get hi]
theorem splice_row {t : Nat → Nat → Nat} {x : Nat} (hx : x < 10) (r : Nat → Nat) : splice (tbs t) (x * 10) (bys r).toList = tbs (fun i j => if i = x then r j else t i j) := by
  unfold tbs bys
  rw [splice_tab _ _ _ (by omega)]
  refine tab_ext fun i hi => ?_
  by_cases h : i / 10 = x
  · rw [if_pos (by omega)]
    simp only [h, if_true]
    rw [show i - x * 10 = i % 10 by omega]
  · rw [if_neg (by omega)]
    simp only [h, if_false]
theorem tbs_grow {t : Nat → Nat → Nat} {k : Nat} (hk : k < 10) : splice (tbs fun i j => if i < k then t i j else 0) (k * 10) (bys (t k)).toList = tbs fun i j => if i < k + 1 then t i j else 0 := by
  rw [splice_row hk]
  refine tbs_ext fun i j hi hj => ?_
  by_cases h : i = k
  · subst h; simp
  · by_cases h2 : i < k
    · simp [h, h2, show i < k + 1 by omega]
    · simp [h, h2, show ¬ i < k + 1 by omega]
theorem splice_tbs (n : Int) (t u : Nat → Nat → Nat) : splice (sqs n t) 1 (tbs u).toList = sqs n u := by
  unfold sqs tbs
  rw [splice_tab _ _ _ (by omega)]
  refine tab_ext fun i hi => ?_
  by_cases h : i = 0
  · rw [if_neg (by omega), if_pos h, if_pos h]
  · rw [if_pos (by omega), if_neg h]
end
end Go.Proofs.Ytinjjaoikofkdaa
