/- What is known of memory, in another order; one cell of a row written; rows of rows. -/
import Derived.Test.YtinjjaoikofkdaaK8
import Derived.Laws.OwnMore
import Derived.Test.YtinjjaoikofkdaaK11
import Derived.Laws.MakeOwn
namespace Go.Proofs.Ytinjjaoikofkdaa
set_option linter.unusedSimpArgs false
set_option linter.unusedVariables false
open Go Go.RowKit

section
variable {D : Nat → Prop} {w0 w w' : World} {L L' : List Ent}
theorem Mm.mem (M : Mm D w0 w L) {x : Ent} (h : x ∈ L) : x.holds w := by
  obtain ⟨i, hi⟩ := List.getElem?_of_mem h
  exact M.ents i x hi
theorem Mm.pair (M : Mm D w0 w L) : L.Pairwise apart :=
  List.pairwise_iff_getElem.2 fun i j hi hj hij => M.dist i j _ _ (List.getElem?_eq_getElem hi) (List.getElem?_eq_getElem hj) (by omega)
theorem Mm.of_pair (hk : Kept D w0 w) (he : ∀ x ∈ L, x.holds w) (hp : L.Pairwise apart) : Mm D w0 w L := by
  refine ⟨hk, fun i x h => he x (List.mem_of_getElem? h), fun i j x y hi hj hij => ?_⟩
  obtain ⟨h1, rfl⟩ := List.getElem?_eq_some_iff.1 hi
  obtain ⟨h2, rfl⟩ := List.getElem?_eq_some_iff.1 hj
  rcases Nat.lt_or_gt_of_ne hij with h | h
  · exact List.pairwise_iff_getElem.1 hp i j h1 h2 h
  · exact (List.pairwise_iff_getElem.1 hp j i h2 h1 h).symm
/-- The order of what is told is free. -/
theorem Mm.perm (M : Mm D w0 w L) (h : L.Perm L') : Mm D w0 w L' :=
  .of_pair M.kept (fun _ hx => M.mem (h.mem_iff.2 hx)) (h.pairwise M.pair apart.symm)
/-- A slice that holds nothing. -/
theorem Mm.nilRow (M : Mm D w0 w L) (B e size : Nat) : Mm D w0 w (.row B (.slice none 0 0) 0 [] e size :: L) :=
  M.add (World.ownsRow_nil w B e size) fun _ _ b h => by cases h
/-- What a call has made is told besides. -/
theorem Mm.join (M : Mm D w0 w L) (M' : Mm no w w' L') (hn : ∀ x ∈ L', ∀ b, x.place b → w.heap.size ≤ b) : Mm D w0 w' (L' ++ L) := by
  have h := M.later M'.below
  refine .of_pair h.kept (fun x hx => ?_) (List.pairwise_append.2 ⟨M'.pair, h.pair, fun x hx y hy b h1 h2 => ?_⟩)
  · rcases List.mem_append.1 hx with h1 | h1
    · exact M'.mem h1
    · exact h.mem h1
  · have := Ent.lt (M.mem hy) h2
    have := hn x hx b h1
    omega
/-- One cell of a row is written. -/
theorem Mm.rowset (M : Mm D w0 w L) (i : Nat) {B g n cap e size : Nat} {xs : List Value} (hi : L[i]? = some (.row B (.slice (some ⟨g, 0, none⟩) n cap) n xs e size)) (hB : w0.heap.size ≤ B ∨ D g) (j : Nat) (u : Value) :
    Mm D w0 (w.setCell ⟨g, j, none⟩ u) (L.set i (.row B (.slice (some ⟨g, 0, none⟩) n cap) n (xs.set j u) e size)) := by
  obtain ⟨h1, h2⟩ := (M.row i hi).stored j u
  have hlt := World.ownsRow.lt (M.row i hi) g rfl
  exact M.set i hi (kept_setCell w g j u) (fun k h => by cases h; rfl) (fun k hk h => by subst h; rcases hB with h | h; omega; exact h) h1 fun k h => .inl h
end

section
variable {P : Program} {D : Nat → Prop} {w0 w : World} {L : List Ent} {ops : Array Oper} {rest : List Oper} {o : Oper} {a : Act} {Q : Exit → Act → World → Prop}
/-- One cell of a row is written. -/
theorem wpM_rst (M : Mm D w0 w L) (i : Nat) {B g n cap e : Nat} {xs : List Value} (hi : L[i]? = some (.row B (.slice (some ⟨g, 0, none⟩) n cap) n xs e 1)) (hB : w0.heap.size ≤ B ∨ D g) (hw : Region.wanted o (yielded ops a.tmps) = true) (ty : TypeId) (x y : Operand) (ho : o.op = .store ty x y)
    (j : Nat) (hx : a.eval x = .pointer (some ⟨g, j, none⟩)) (v : Value) (hy : a.eval y = v) (hv : oneV v = true) (hs : (P.info? ty).map (·.size) = some 1) (hj : j < n)
    (h : ∀ w', Mm D w0 w' (L.set i (.row B (.slice (some ⟨g, 0, none⟩) n cap) n (xs.set j v) e 1)) → wpList P ops Q rest (a.put o.dst undef) w') : wpList P ops Q (o :: rest) a w := by
  refine wpList_wanted hw ?_
  have hB' := M.row i hi
  have hlen : xs.length = n := by have := hB'.1; omega
  have hcell : w.cell? ⟨g, j, none⟩ = some xs[j] := by rw [World.ownsRow.cellAt hB' j (by omega), List.getElem?_eq_getElem]
  have hfree := World.ownsRow.frozenAt hB' j
  cases hq : P.info? ty with
  | none => simp [hq] at hs
  | some q =>
    have hs' : q.size = 1 := by simpa [hq] using hs
    have hst : (storeVar ty ⟨g, j, none⟩ v).run P w = .ok () (w.setCell ⟨g, j, none⟩ v) := by
      have hc : v.cells = #[v] := by cases v <;> simp_all [Value.cells, oneV]
      have step : (store ((⟨g, j, none⟩ : Addr).add 0) v).run P w = .ok () (w.setCell ⟨g, j, none⟩ v) := by
        rw [add_none, Nat.add_zero]
        cases v <;> simp_all [store, Sem.run, oneV]
      simp [storeVar, sizeOf, typeInfo, hq, hs', hc, storeCells, step]
    unfold Oper.wp execOp
    simp only [ho, hx, hy, Instr.storeAt, Instr.sureAddr, Sem.run_bind, Sem.run_pure, Result.andThen_ok, hst]
    exact h _ (M.rowset i hi hB j v)
theorem wpM_rst' (M : Mm D w0 w L) (i ty B g n cap e : Nat) (xs : List Value) (j : Nat) (v : Value) (ho : isStore o.op ty = true) (hi : L[i]? = some (.row B (.slice (some ⟨g, 0, none⟩) n cap) n xs e 1)) (hx : a.eval (addrOf o.op) = .pointer (some ⟨g, j, none⟩)) (hy : a.eval (valOf o.op) = v)
    (H : Region.wanted o (yielded ops a.tmps) = true ∧ oneV v = true ∧ (P.info? ty).map (·.size) = some 1) (hB : w0.heap.size ≤ B ∨ D g) (hj : j < n)
    (h : ∀ w', Mm D w0 w' (L.set i (.row B (.slice (some ⟨g, 0, none⟩) n cap) n (xs.set j v) e 1)) → wpList P ops Q rest (a.put o.dst undef) w') : wpList P ops Q (o :: rest) a w :=
  wpM_rst M i hi hB H.1 ty _ _ (isStore_spec ho) j hx v hy H.2.1 H.2.2 hj h
end
end Go.Proofs.Ytinjjaoikofkdaa

/- make over what is known of memory; slices that come in are read. -/
namespace Go.Proofs.Ytinjjaoikofkdaa
set_option linter.unusedSimpArgs false
set_option linter.unusedVariables false
open Go Go.RowKit

def isMake : Op → Nat → Bool | .makeSlice t _ _, ty => t == ty | _, _ => false
def mkL : Op → Operand | .makeSlice _ l _ => l | _ => .tmp 0
def mkC : Op → Operand | .makeSlice _ _ c => c | _ => .tmp 0
theorem isMake_spec {p : Op} {ty : Nat} (h : isMake p ty = true) : p = .makeSlice ty (mkL p) (mkC p) := by cases p <;> simp_all [isMake, mkL, mkC]
section
variable {P : Program} {D : Nat → Prop} {w0 w : World} {L : List Ent} {ops : Array Oper} {rest : List Oper} {o : Oper} {a : Act} {Q : Exit → Act → World → Prop}
theorem wpM_make' (M : Mm D w0 w L) (t e size bytes : Nat) (z : Value) (n : Nat) (ho : isMake o.op t = true) (hl : a.eval (mkL o.op) = .int .i64 (n : Int)) (hc : a.eval (mkC o.op) = .int .i64 (n : Int)) (hgd : o.guard = none) (ht : P.underlying t = some (.slice e))
    (hinfo : (P.info? e).map (fun i => (i.zero, i.size, i.bytes)) = some (some z, size, bytes)) (hbytes : bytes * n ≤ 281474976710656) (h63 : n ≤ 9223372036854775807)
    (h : ∀ b w', w0.heap.size ≤ b → Mm D w0 w' (.box b (madeCells z.cells (n * size)) e :: L) → wpList P ops Q rest (a.put o.dst (.slice (some ⟨b, 0, none⟩) n n)) w') : wpList P ops Q (o :: rest) a w := by
  obtain ⟨i, hi, hzz⟩ := Option.map_eq_some_iff.1 hinfo
  simp only [Prod.mk.injEq] at hzz
  obtain ⟨hz, hs, hb⟩ := hzz
  refine wpList_wanted (by simp [Region.wanted, hgd]) ?_
  have hb' : (i.bytes : Int) * (n : Int) ≤ 281474976710656 := by
    have h : ((i.bytes * n : Nat) : Int) ≤ 281474976710656 := by rw [hb]; omega
    rwa [Int.natCast_mul] at h
  have hr := run_make (P := P) w t e i z ht hi hz .i64 .i64 n n (by omega) (Int.le_refl _) hb' (by omega)
  simp only [Int.toNat_natCast, hs] at hr
  unfold Oper.wp execOp
  rw [isMake_spec ho]
  simp only [hl, hc, Sem.run_bind, hr, Result.andThen_ok, Sem.run_pure]
  exact h _ _ M.size (M.alloc _ _)
end

/-- A slice that comes in: its cells, if it has any. -/
def rdp (w : World) (p : Option Addr) (n : Nat) (f : Nat → Value) : Prop := 0 < n → ∃ b off, p = some ⟨b, off, none⟩ ∧ b < w.heap.size ∧ ∀ j, j < n → w.cell? ⟨b, off + j, none⟩ = some (f j)
def pBlk (p : Option Addr) : Nat → Prop := fun k => ∃ a, p = some a ∧ a.block = k
/-- What is known of a slice that comes in. -/
def Ent.inc (n : Nat) (p : Option Addr) (f : Nat → Value) : Ent := .res (fun k => 0 < n ∧ pBlk p k) (fun w => rdp w p n f)
theorem rdp.kept {w w' : World} {p : Option Addr} {n : Nat} {f : Nat → Value} (h : rdp w p n f) {E : Nat → Prop} (hk : Kept E w w') (hd : ∀ k, pBlk p k → 0 < n → ¬ E k) : rdp w' p n f := fun hn => by
  obtain ⟨b, off, rfl, hb, hc⟩ := h hn
  have e := hk.block b hb (hd b ⟨_, rfl, rfl⟩ hn)
  exact ⟨b, off, rfl, Nat.lt_of_lt_of_le hb hk.size, fun j hj => by rw [World.cell?_of_block (w := w) (a := ⟨b, off + j, none⟩) e]; exact hc j hj⟩
theorem rdp.ent {w : World} {p : Option Addr} {n : Nat} {f : Nat → Value} (h : rdp w p n f) : (Ent.inc n p f).holds w :=
  ⟨fun k ⟨hn, a, e, hk⟩ => by
    obtain ⟨b, off, rfl, hb, _⟩ := h hn
    cases e; subst hk; exact hb,
   fun _ _ hk hd => h.kept hk fun k hp hn => hd k ⟨hn, hp⟩⟩
theorem rdp_in {w : World} {D : Nat → Prop} {w0 : World} {L : List Ent} (M : Mm D w0 w L) (i : Nat) {p : Option Addr} {n : Nat} {f : Nat → Value} (h : L[i]? = some (Ent.inc n p f)) : rdp w p n f := Ent.res_now (M.ents i _ h)
/-- A row of one's own, told as a slice that comes in. -/
theorem blk.rdp {w : World} {b t : Nat} {cs : Array Value} (h : blk w b cs t) (n : Nat) (f : Nat → Value) (hf : ∀ j, j < n → cs[j]? = some (f j)) : rdp w (some ⟨b, 0, none⟩) n f := fun _ => ⟨b, 0, rfl, h.lt, fun j hj => h.cell _ _ (by rw [Nat.zero_add]; exact hf j hj)⟩
theorem rds.rdp {w : World} {g n : Nat} {f : Nat → Value} (h : rds w g n f) : rdp w (some ⟨g, 0, none⟩) n f := fun _ => ⟨g, 0, rfl, h.lt, fun j hj => by rw [Nat.zero_add]; exact h.at_ j hj⟩
/-- A known box is read from now on. -/
theorem Mm.toRd {D : Nat → Prop} {w0 w : World} {L : List Ent} (M : Mm D w0 w L) (i : Nat) {b t : Nat} {cs : Array Value} (hi : L[i]? = some (.box b cs t)) (n : Nat) (f : Nat → Value) (hf : ∀ j, j < n → cs[j]? = some (f j)) : Mm D w0 w (L.set i (.rd b n f)) :=
  M.set i hi (.refl no w) (fun _ h => h.elim) (fun _ _ h => h.elim) ((M.box i hi).rds hf) fun k h => .inl (by cases h; rfl)
end Go.Proofs.Ytinjjaoikofkdaa

/- Rows of rows: a list of lists of numbers in memory. -/
namespace Go.Proofs.Ytinjjaoikofkdaa
set_option linter.unusedSimpArgs false
set_option linter.unusedVariables false
open Go Go.RowKit

/-- A slice of one's own (it begins where its block begins): its cells, if it has any. -/
def rdq (w : World) (p : Option Addr) (n : Nat) (f : Nat → Value) : Prop := 0 < n → ∃ g, p = some ⟨g, 0, none⟩ ∧ rds w g n f
def Ent.own (n : Nat) (p : Option Addr) (f : Nat → Value) : Ent := .res (fun k => 0 < n ∧ pBlk p k) (fun w => rdq w p n f)
theorem rdq.kept {w w' : World} {p : Option Addr} {n : Nat} {f : Nat → Value} (h : rdq w p n f) {E : Nat → Prop} (hk : Kept E w w') (hd : ∀ k, pBlk p k → 0 < n → ¬ E k) : rdq w' p n f := fun hn => by
  obtain ⟨g, rfl, hr⟩ := h hn
  exact ⟨g, rfl, Ent.holds_of (x := .rd g n f) hr hk fun b hb => by cases hb; exact hd g ⟨_, rfl, rfl⟩ hn⟩
theorem rdq.ent {w : World} {p : Option Addr} {n : Nat} {f : Nat → Value} (h : rdq w p n f) : (Ent.own n p f).holds w :=
  ⟨fun k ⟨hn, a, e, hk⟩ => by
    obtain ⟨g, rfl, hr⟩ := h hn
    cases e; subst hk; exact hr.lt,
   fun _ _ hk hd => h.kept hk fun k hp hn => hd k ⟨hn, hp⟩⟩
theorem rdq_in {D : Nat → Prop} {w0 w : World} {L : List Ent} (M : Mm D w0 w L) (i : Nat) {p : Option Addr} {n : Nat} {f : Nat → Value} (h : L[i]? = some (Ent.own n p f)) : rdq w p n f := Ent.res_now (M.ents i _ h)
theorem rdq_of_own {w : World} {base e size n cap : Nat} {p : Option Addr} {xs : List Value} (h : w.ownsRow base e size (.slice p n cap) n xs) : rdq w p (n * size) (fun j => xs.getD j undef) := fun hn => by
  obtain ⟨g, cap', e, _, _, hr⟩ := own_rds h hn
  cases e
  exact ⟨g, rfl, hr⟩
theorem rds.rdq {w : World} {g n : Nat} {f : Nat → Value} (h : rds w g n f) : rdq w (some ⟨g, 0, none⟩) n f := fun _ => ⟨g, rfl, h⟩

/-- The numbers of a list as cells. -/
def ints (l : List Nat) : List Value := l.map fun (i : Nat) => .int .i64 (i : Int)
theorem ints_len (l : List Nat) : (ints l).length = l.length := by simp [ints]
theorem ints_app (l : List Nat) (i : Nat) : ints (l ++ [i]) = ints l ++ [.int .i64 (i : Int)] := by simp [ints]
/-- What is known of the rows of a list of lists. -/
def clsE (B e : Nat) (vs : List Value) (cls : List (List Nat)) : List Ent := List.zipWith (fun v c => .row B v c.length (ints c) e 1) vs cls
theorem clsE_len {B e : Nat} {vs : List Value} {cls : List (List Nat)} (h : vs.length = cls.length) : (clsE B e vs cls).length = cls.length := by simp [clsE, h]
theorem clsE_get {B e : Nat} {vs : List Value} {cls : List (List Nat)} {k : Nat} (hv : k < vs.length) (hc : k < cls.length) : (clsE B e vs cls)[k]? = some (.row B vs[k] cls[k].length (ints cls[k]) e 1) := by
  simp [clsE, List.getElem?_zipWith, List.getElem?_eq_getElem hv, List.getElem?_eq_getElem hc]
theorem clsE_new {B e : Nat} {vs : List Value} {cls : List (List Nat)} (h : vs.length = cls.length) (v : Value) (c : List Nat) : clsE B e (vs ++ [v]) (cls ++ [c]) = clsE B e vs cls ++ [.row B v c.length (ints c) e 1] := by
  simp only [clsE]; rw [List.zipWith_append h]; rfl
theorem clsE_set {B e : Nat} {vs : List Value} {cls : List (List Nat)} {k : Nat} (v : Value) (hc : k < cls.length) (i : Nat) :
    (clsE B e vs cls).set k (.row B v (cls[k].length + 1) (ints cls[k] ++ [.int .i64 (i : Int)]) e 1) = clsE B e (vs.set k v) (cls.modify k (· ++ [i])) := by
  apply List.ext_getElem?
  intro j
  simp only [clsE, List.getElem?_set, List.getElem?_zipWith, List.getElem?_modify, List.length_zipWith]
  by_cases hj : k = j
  · subst hj
    by_cases hv : k < vs.length
    · have : k < min vs.length cls.length := by omega
      simp [hv, hc, this, ints_app]
    · have : ¬ k < min vs.length cls.length := by omega
      simp [hv, this]
  · simp [hj]

/-- The slice that is the whole of a row, and where its first cell lies. -/
theorem own_head {w : World} {base e n : Nat} {v : Value} {xs : List Value} (h : w.ownsRow base e 1 v n xs) (hn : 0 < n) : ∃ g cap, v = .slice (some ⟨g, 0, none⟩) n cap ∧ w.cell? ⟨g, 0, none⟩ = xs[0]? ∧ g < w.heap.size := by
  obtain ⟨g, cap, e, _, ho, hr⟩ := own_rds h (by omega)
  subst e
  exact ⟨g, cap, rfl, World.ownsRow.cellAt h 0 (by omega), hr.lt⟩

/-- The list of lists that a slice of slices holds: all of it in memory of its own. -/
def ClsRes (B : Nat) (w0 w : World) (v : Value) (cls : List (List Nat)) (eo ei : Nat) : Prop :=
  ∃ vs : List Value, vs.length = cls.length ∧ Mm no w0 w (.row B v cls.length vs eo 1 :: clsE B ei vs cls)
theorem set_last {α : Type} {l : List α} {n : Nat} (h : n = l.length) (x y : α) : (l ++ [x]).set n y = l ++ [y] := by
  subst h
  rw [List.set_append_right _ _ (Nat.le_refl _), Nat.sub_self]; rfl
theorem clsE_set_new {B e : Nat} {vs : List Value} {cls : List (List Nat)} (h : vs.length = cls.length) (x v : Value) (i : Nat) :
    (clsE B e (vs ++ [x]) (cls ++ [[]])).set cls.length (.row B v 1 [.int .i64 (i : Int)] e 1) = clsE B e (vs ++ [v]) (cls ++ [[i]]) := by
  rw [clsE_new h, clsE_new h, set_last (clsE_len h).symm]; rfl
theorem own_set {D : Nat → Prop} {w0 w : World} {L : List Ent} {i B n e size : Nat} {v : Value} {xs : List Value} {y : Ent} (M : Mm D w0 w (L.set i (.row B v n xs e size))) (h : L[i]? = some y) : ∃ pp cap, v = .slice pp n cap :=
  own_form (M.row i (by rw [List.getElem?_set_self (List.getElem?_eq_some_iff.1 h).1]))
end Go.Proofs.Ytinjjaoikofkdaa

