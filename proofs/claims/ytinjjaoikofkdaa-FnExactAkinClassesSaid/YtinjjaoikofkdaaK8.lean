/- What is known of memory, in one list: blocks, rows of slices, rows that are read; and steps of the walk over it. -/
import Derived.Test.YtinjjaoikofkdaaK2
import Derived.Test.YtinjjaoikofkdaaRT
import Derived.Laws.CopyOwn
namespace Go.Proofs.Ytinjjaoikofkdaa
set_option linter.unusedSimpArgs false
set_option linter.unusedVariables false
open Go Go.RowKit

def aggD : TypeDesc → Bool | .struct _ => true | .array _ _ => true | _ => false
def oneV : Value → Bool | .agg _ => false | .tuple _ => false | _ => true
/-- Of what was there, D alone may have changed. -/
structure Kept (D : Nat → Prop) (w w' : World) : Prop where
  os : w'.os = w.os
  tape : w'.tape = w.tape
  output : w'.output = w.output
  size : w.heap.size ≤ w'.heap.size
  block : ∀ k, k < w.heap.size → ¬ D k → w'.heap[k]? = w.heap[k]?
/-- A place of which something is known: a whole block; a slice that owns its row; the first cells of a row; what holds as long as some blocks are as they are. -/
inductive Ent where
  | box (b : Nat) (cs : Array Value) (t : Nat)
  | row (B : Nat) (v : Value) (n : Nat) (xs : List Value) (e size : Nat)
  | rd (g n : Nat) (f : Nat → Value)
  | res (D : Nat → Prop) (R : World → Prop)
def Ent.place : Ent → Nat → Prop
  | .box b _ _ => fun k => b = k
  | .row _ v _ _ _ _ => fun k => v.ownBlock = some k
  | .rd g _ _ => fun k => g = k
  | .res D _ => D
def Ent.holds (w : World) : Ent → Prop
  | .box b cs t => blk w b cs t
  | .row B v n xs e size => w.ownsRow B e size v n xs
  | .rd g n f => rds w g n f
  | .res D R => (∀ k, D k → k < w.heap.size) ∧ ∀ (E : Nat → Prop) (w' : World), Kept E w w' → (∀ k, D k → ¬ E k) → R w'
def Ent.rules (w : World) : Ent → Prop
  | .box b cs _ => (∀ j, w.cell? ⟨b, j, none⟩ = cs[j]?) ∧ (∀ j, w.frozen? ⟨b, j, none⟩ = false)
  | .row _ _ _ _ _ _ => True
  | .rd g n f => ∀ j, j < n → w.cell? ⟨g, j, none⟩ = some (f j)
  | .res _ _ => True
def isLoad : Op → Nat → Bool | .load t _, ty => t == ty | _, _ => false
def isStore : Op → Nat → Bool | .store t _ _, ty => t == ty | _, _ => false
def isBoxOp : Op → Nat → Bool | .box t _, ty => t == ty | _, _ => false
def isAlloc : Op → Nat → Bool | .alloc t, ty => t == ty | _, _ => false
def addrOf : Op → Operand | .load _ x => x | .store _ x _ => x | _ => .tmp 0
def valOf : Op → Operand | .store _ _ y => y | .box _ x => x | _ => .tmp 0
def isBsl : Op → Nat → Nat → Bool | .buildSlice t n _, ty, len => t == ty && n == len | _, _, _ => false
def bslParts : Op → List (Nat × Operand) | .buildSlice _ _ ps => ps.toList | _ => []
def isAppCallee : Callee → Bool | .builtin .append => true | _ => false
def isApp : Op → Nat → Bool | .call c, ty => isAppCallee c.callee && c.args.toList.length == 2 && c.argTypes.toList == [ty, ty] | _, _ => false
def appS : Op → Operand | .call c => c.args.toList.getD 0 (.tmp 0) | _ => .tmp 0
def appX : Op → Operand | .call c => c.args.toList.getD 1 (.tmp 0) | _ => .tmp 0
def isRow (L : List Ent) (i : Nat) : Bool := match L[i]? with | some (.row _ _ _ _ _ _) => true | _ => false
def isBox (L : List Ent) (i : Nat) : Bool := match L[i]? with | some (.box _ _ _) => true | _ => false
def entBlk (L : List Ent) (i : Nat) : Nat := match L[i]? with | some (.box b _ _) => b | _ => 0
def entCells (L : List Ent) (i : Nat) : Array Value := match L[i]? with | some (.box _ cs _) => cs | _ => #[]
def entT (L : List Ent) (i : Nat) : Nat := match L[i]? with | some (.box _ _ t) => t | _ => 0
def apart (x y : Ent) : Prop := ∀ b, x.place b → y.place b → False
theorem apart.symm {x y : Ent} (h : apart x y) : apart y x := fun b h1 h2 => h b h2 h1
/-- No block that was there may change. -/
def no : Nat → Prop := fun _ => False

theorem Kept.refl (D : Nat → Prop) (w : World) : Kept D w w := ⟨rfl, rfl, rfl, Nat.le_refl _, fun _ _ _ => rfl⟩
theorem Kept.trans {D E : Nat → Prop} {a b c : World} (h : Kept D a b) (k : Kept E b c) (hE : ∀ k, k < a.heap.size → E k → D k) : Kept D a c :=
  ⟨k.os.trans h.os, k.tape.trans h.tape, k.output.trans h.output, Nat.le_trans h.size k.size,
    fun i hi hd => (k.block i (Nat.lt_of_lt_of_le hi h.size) fun he => hd (hE i hi he)).trans (h.block i hi hd)⟩
theorem Kept.of_below {w w' : World} (h : Below w.heap.size w w') (D : Nat → Prop) : Kept D w w' := ⟨h.os, h.tape, h.output, h.size, fun k hk _ => h.block k hk⟩
theorem Kept.of_grown {w w' : World} {row : Option Nat} (h : w.grownBy w' row) : Kept (fun k => row = some k) w w' := ⟨h.os, h.tape, h.output, h.size, fun k hk hd => h.block k hk (fun e => hd e.symm)⟩
theorem Kept.below {w w' : World} (h : Kept no w w') : Below w.heap.size w w' := ⟨h.os, h.tape, h.output, h.size, fun k hk => h.block k hk id⟩
theorem Kept.grown {w w' : World} {b : Nat} (h : Kept (· = b) w w') : w.grownBy w' (some b) := ⟨h.os, h.tape, h.output, h.size, fun k hk hd => h.block k hk fun e => hd (by rw [e])⟩
theorem kept_put (w : World) (b : Nat) (cs : Array Value) (t : Nat) : Kept (· = b) w (World.put w b cs t) :=
  ⟨rfl, rfl, rfl, by simp [World.put], fun k _ hk => by simp only [World.put]; rw [Array.getElem?_setIfInBounds, if_neg (fun e => hk e.symm)]⟩
theorem kept_setCell (w : World) (b j : Nat) (v : Value) : Kept (· = b) w (w.setCell ⟨b, j, none⟩ v) :=
  ⟨rfl, rfl, rfl, by simp [World.setCell], fun k _ hk => by simp only [World.setCell, Array.getElem?_modify]; rw [if_neg (fun e => hk e.symm)]⟩
theorem kept_alloc (w : World) (o : Obj) (D : Nat → Prop) : Kept D w (w.alloc o) := .of_below ((Below.refl _ _).alloc (Nat.le_refl _) _) D
theorem kept_drew (w : World) (D : Nat → Prop) : Kept D w w.drew := ⟨rfl, rfl, rfl, Nat.le_refl _, fun _ _ _ => rfl⟩

theorem Ent.lt {w : World} {x : Ent} (h : x.holds w) {b : Nat} (hb : x.place b) : b < w.heap.size := by
  cases x with
  | box b' cs t => cases hb; exact blk.lt h
  | row B v n xs e size => exact (World.ownsRow.lt h b hb).2
  | rd g n f => cases hb; exact rds.lt h
  | res D R => exact h.1 b hb
theorem Ent.holds_of {w w' : World} {x : Ent} (h : x.holds w) {D : Nat → Prop} (hk : Kept D w w') (hd : ∀ b, x.place b → ¬ D b) : x.holds w' := by
  have hl := fun b => Ent.lt h (b := b)
  cases x with
  | box b cs t => exact ⟨by rw [hk.block b (hl b rfl) (hd b rfl)]; exact blk.out h⟩
  | row B v n xs e size =>
    have h' : w.ownsRow B e size v n xs := h
    rcases h'.2 with ⟨h1, h2⟩ | ⟨g, cap, cur, rfl, hb, hh, h3⟩
    · exact ⟨h'.1, .inl ⟨h1, h2⟩⟩
    · exact ⟨h'.1, .inr ⟨g, cap, cur, rfl, hb, by rw [hk.block g (hl g rfl) (hd g rfl)]; exact hh, h3⟩⟩
  | rd g n f =>
    have h' : rds w g n f := h
    have e := hk.block g (hl g rfl) (hd g rfl)
    exact ⟨Nat.lt_of_lt_of_le h'.lt hk.size, fun j hj => by rw [World.cell?_of_block (w := w) (a := ⟨g, j, none⟩) e]; exact h'.at_ j hj⟩
  | res E R =>
    refine ⟨fun k hk' => Nat.lt_of_lt_of_le (h.1 k hk') hk.size, fun F w2 hF hd2 => h.2 (fun k => D k ∨ F k) w2 ⟨hF.os.trans hk.os, hF.tape.trans hk.tape, hF.output.trans hk.output, Nat.le_trans hk.size hF.size, fun k hl hn => ?_⟩ fun k hE hn => ?_⟩
    · rw [hF.block k (Nat.lt_of_lt_of_le hl hk.size) fun h => hn (.inr h), hk.block k hl fun h => hn (.inl h)]
    · rcases hn with h | h
      · exact hd k hE h
      · exact hd2 k hE h
theorem Ent.res_now {w : World} {D : Nat → Prop} {R : World → Prop} (h : (Ent.res D R).holds w) : R w := h.2 no w ⟨rfl, rfl, rfl, Nat.le_refl _, fun _ _ _ => rfl⟩ fun _ _ h => h
theorem Ent.rules_of {w : World} {x : Ent} (h : x.holds w) : x.rules w := by
  cases x with
  | box b cs t =>
    have h' : blk w b cs t := h
    have := h'.out
    exact ⟨fun j => by simp [World.cell?, this], fun j => h'.free j⟩
  | row B v n xs e size => trivial
  | rd g n f => exact fun j hj => rds.at_ h j hj
  | res D R => trivial

/-- What a list tells of the cells. -/
def ruleAll (w : World) : List Ent → Prop
  | [] => True
  | .box b cs _ :: L => ((∀ j, w.cell? ⟨b, j, none⟩ = cs[j]?) ∧ ∀ j, w.frozen? ⟨b, j, none⟩ = false) ∧ ruleAll w L
  | .rd g n f :: L => (∀ j, j < n → w.cell? ⟨g, j, none⟩ = some (f j)) ∧ ruleAll w L
  | .row _ _ _ _ _ _ :: L => ruleAll w L
  | .res _ _ :: L => ruleAll w L
theorem ruleAll_of {w : World} : ∀ {L : List Ent}, (∀ x ∈ L, x.holds w) → ruleAll w L
  | [], _ => trivial
  | .box b cs t :: L, h => ⟨Ent.rules_of (h (.box b cs t) (List.mem_cons_self ..)), ruleAll_of fun x hx => h x (List.mem_cons_of_mem _ hx)⟩
  | .rd g n f :: L, h => ⟨Ent.rules_of (h (.rd g n f) (List.mem_cons_self ..)), ruleAll_of fun x hx => h x (List.mem_cons_of_mem _ hx)⟩
  | .row .. :: L, h => ruleAll_of (L := L) fun x hx => h x (List.mem_cons_of_mem _ hx)
  | .res .. :: L, h => ruleAll_of (L := L) fun x hx => h x (List.mem_cons_of_mem _ hx)

/-- w comes from w0: of what was there D alone may have changed; what L tells is so, at places apart from one another. -/
structure Mm (D : Nat → Prop) (w0 w : World) (L : List Ent) : Prop where
  kept : Kept D w0 w
  ents : ∀ (i : Nat) (x : Ent), L[i]? = some x → x.holds w
  dist : ∀ (i j : Nat) (x y : Ent), L[i]? = some x → L[j]? = some y → i ≠ j → apart x y

section
variable {D : Nat → Prop} {w0 w w' : World} {L : List Ent}
theorem Mm.start (D : Nat → Prop) (w : World) : Mm D w w [] := ⟨.refl _ _, fun _ _ h => by simp at h, fun _ _ _ _ h => by simp at h⟩
theorem Mm.eq {L' : List Ent} (M : Mm D w0 w L) (h : L = L') : Mm D w0 w L' := h ▸ M
theorem Mm.below (M : Mm no w0 w L) : Below w0.heap.size w0 w := M.kept.below
theorem Mm.size (M : Mm D w0 w L) : w0.heap.size ≤ w.heap.size := M.kept.size
theorem Mm.at_ (M : Mm D w0 w L) (i : Nat) {x : Ent} (h : L[i]? = some x) : x.holds w := M.ents i x h
theorem Mm.box (M : Mm D w0 w L) (i : Nat) {b : Nat} {cs : Array Value} {t : Nat} (h : L[i]? = some (.box b cs t)) : blk w b cs t := M.ents i _ h
theorem Mm.row (M : Mm D w0 w L) (i : Nat) {B : Nat} {v : Value} {n : Nat} {xs : List Value} {e size : Nat} (h : L[i]? = some (.row B v n xs e size)) : w.ownsRow B e size v n xs := M.ents i _ h
theorem Mm.rd (M : Mm D w0 w L) (i : Nat) {g n : Nat} {f : Nat → Value} (h : L[i]? = some (.rd g n f)) : rds w g n f := M.ents i _ h
theorem Mm.ruleAll (M : Mm D w0 w L) : ruleAll w L := ruleAll_of fun x hx => by
  obtain ⟨i, hi⟩ := List.getElem?_of_mem hx
  exact M.ents i x hi
theorem Mm.rules (M : Mm D w0 w L) : ∀ x ∈ L, x.rules w := fun x hx => by
  obtain ⟨i, hi⟩ := List.getElem?_of_mem hx
  exact Ent.rules_of (M.ents i x hi)
/-- What is allowed is more. -/
theorem Mm.only (M : Mm no w w L) (D : Nat → Prop) : Mm D w w L := ⟨.refl _ _, M.ents, M.dist⟩
/-- Nothing is known any longer, but that old memory is as it was. -/
theorem Mm.after (M : Mm D w0 w L) {E : Nat → Prop} (hk : Kept E w w') (hE : ∀ k, k < w0.heap.size → E k → D k) : Mm D w0 w' [] := ⟨M.kept.trans hk hE, fun _ _ h => by simp at h, fun _ _ _ _ h => by simp at h⟩
theorem own_of_blk {B b n e size : Nat} {cs : Array Value} (h : blk w b cs e) (hB : B ≤ b) (hs : cs.size = n * size) (hn : n ≤ maxLen) : w.ownsRow B e size (.slice (some ⟨b, 0, none⟩) n n) n cs.toList :=
  ⟨by rw [Array.length_toList, hs], .inr ⟨b, n, cs, rfl, hB, h.out, Nat.le_refl _, hn, hs, by rw [List.take_of_length_le (by rw [Array.length_toList, hs]; exact Nat.le_refl _)]⟩⟩
/-- Something more is known. -/
theorem Mm.add (M : Mm D w0 w L) {x : Ent} (hx : x.holds w) (hd : ∀ y ∈ L, apart x y) : Mm D w0 w (x :: L) := by
  refine ⟨M.kept, fun i y h => ?_, fun i j y z hy hz hij => ?_⟩
  · cases i with
    | zero => cases h; exact hx
    | succ i => exact M.ents i y h
  · cases i with
    | zero =>
      cases j with
      | zero => exact absurd rfl hij
      | succ j => cases hy; exact hd z (List.mem_of_getElem? (by simpa using hz))
    | succ i =>
      cases j with
      | zero => cases hz; exact (hd y (List.mem_of_getElem? (by simpa using hy))).symm
      | succ j => exact M.dist i j y z hy hz (by omega)
/-- The world goes on; nothing that is known changes. -/
theorem Mm.go {E : Nat → Prop} (M : Mm D w0 w L) (hk : Kept E w w') (hE : ∀ k, k < w0.heap.size → E k → D k) (hL : ∀ x ∈ L, ∀ b, x.place b → ¬ E b) : Mm D w0 w' L :=
  ⟨M.kept.trans hk hE, fun i x h => Ent.holds_of (M.ents i x h) hk (hL x (List.mem_of_getElem? h)), M.dist⟩
theorem Mm.later (M : Mm D w0 w L) (hb : Below w.heap.size w w') : Mm D w0 w' L := M.go (.of_below hb no) (fun _ _ h => h.elim) fun _ _ _ _ h => h
theorem Mm.drew (M : Mm D w0 w L) : Mm D w0 w.drew L := M.go (kept_drew w no) (fun _ _ h => h.elim) fun _ _ _ _ h => h
theorem Mm.fresh (M : Mm D w0 w L) {x y : Ent} (hy : y ∈ L) (hx : ∀ b, x.place b → w.heap.size ≤ b) : apart x y := fun b h1 h2 => by
  obtain ⟨i, hi⟩ := List.getElem?_of_mem hy
  have := Ent.lt (M.ents i y hi) h2
  have := hx b h1
  omega
/-- A call that makes memory: what it hands back is new. -/
theorem Mm.gain (M : Mm D w0 w L) (hb : Below w.heap.size w w') {x : Ent} (hx : x.holds w') (hn : ∀ b, x.place b → w.heap.size ≤ b) : Mm D w0 w' (x :: L) :=
  (M.later hb).add hx fun y hy => M.fresh hy hn
theorem Mm.alloc (M : Mm D w0 w L) (cs : Array Value) (t : Nat) : Mm D w0 (w.alloc (.cells cs t)) (.box w.heap.size cs t :: L) :=
  M.gain ((Below.refl _ _).alloc (Nat.le_refl _) _) (blk_new w cs t _ rfl) fun b h => by cases h; exact Nat.le_refl _
/-- One place is written. -/
theorem Mm.set {E : Nat → Prop} (M : Mm D w0 w L) (i : Nat) {x y : Ent} (hi : L[i]? = some x) (hk : Kept E w w') (hE : ∀ k, E k → x.place k) (hD : ∀ k, k < w0.heap.size → E k → D k) (hy : y.holds w') (hp : ∀ b, y.place b → x.place b ∨ w.heap.size ≤ b) : Mm D w0 w' (L.set i y) := by
  have hil : i < L.length := (List.getElem?_eq_some_iff.1 hi).1
  refine ⟨M.kept.trans hk hD, fun j z h => ?_, fun j k z u hz hu hjk => ?_⟩
  · rw [List.getElem?_set] at h
    split at h
    · rename_i e; simp [hil] at h; subst h; exact hy
    · rename_i e
      exact Ent.holds_of (M.ents j z h) hk fun b hb he => M.dist i j x z hi h e b (hE b he) hb
  · rw [List.getElem?_set] at hz hu
    have key : ∀ j z, L[j]? = some z → i ≠ j → apart y z := fun j z h e b h1 h2 => by
      rcases hp b h1 with h3 | h3
      · exact M.dist i j x z hi h e b h3 h2
      · have := Ent.lt (M.ents j z h) h2; omega
    split at hz
    · rename_i e
      simp [hil] at hz; subst hz
      rw [if_neg (by omega)] at hu
      exact key k u hu (by omega)
    · rename_i e
      split at hu
      · rename_i e2
        simp [hil] at hu; subst hu
        exact (key j z hz (by omega)).symm
      · exact M.dist j k z u hz hu hjk
theorem Mm.put (M : Mm D w0 w L) (i : Nat) {b : Nat} {cs : Array Value} {t : Nat} (hi : L[i]? = some (.box b cs t)) (hb : w0.heap.size ≤ b ∨ D b) (cs' : Array Value) : Mm D w0 (World.put w b cs' t) (L.set i (.box b cs' t)) :=
  M.set i hi (kept_put w b cs' t) (fun k h => h.symm) (fun k hk h => by subst h; rcases hb with h | h; omega; exact h) (blk_put (M.box i hi) t) fun k h => .inl h
theorem Mm.setc (M : Mm D w0 w L) (i : Nat) {b : Nat} {cs : Array Value} {t : Nat} (hi : L[i]? = some (.box b cs t)) (hb : w0.heap.size ≤ b ∨ D b) (j : Nat) (v : Value) : Mm D w0 (w.setCell ⟨b, j, none⟩ v) (L.set i (.box b (cs.setIfInBounds j v) t)) :=
  M.set i hi (kept_setCell w b j v) (fun k h => h.symm) (fun k hk h => by subst h; rcases hb with h | h; omega; exact h) ((M.box i hi).set j v) fun k h => .inl h
/-- A call wrote to one block that is known. -/
theorem Mm.wrote (M : Mm D w0 w L) (i : Nat) {b : Nat} {cs cs' : Array Value} {t : Nat} (hi : L[i]? = some (.box b cs t)) (hb : w0.heap.size ≤ b ∨ D b) (hg : w.grownBy w' (some b)) (h : blk w' b cs' t) : Mm D w0 w' (L.set i (.box b cs' t)) :=
  M.set i hi (.of_grown hg) (fun k h => Option.some.inj h) (fun k hk h => by cases h; rcases hb with h | h; omega; exact h) h fun k h => .inl h
/-- A slice has been made longer. -/
theorem Mm.longer (M : Mm D w0 w L) (i : Nat) {B : Nat} {v v' : Value} {n n' : Nat} {xs xs' : List Value} {e size : Nat} (hi : L[i]? = some (.row B v n xs e size)) (hB : w0.heap.size ≤ B ∨ ∀ k, v.ownBlock = some k → D k) (hg : w.grownBy w' v.ownBlock) (h : w'.ownsRow B e size v' n' xs')
    (hf : v'.ownBlock = v.ownBlock ∨ ∃ g, v'.ownBlock = some g ∧ w.heap.size ≤ g) : Mm D w0 w' (L.set i (.row B v' n' xs' e size)) :=
  M.set i hi (.of_grown hg) (fun k h => h) (fun k hk h => by
    have := (World.ownsRow.lt (M.row i hi) k h).1
    rcases hB with hB | hB
    · omega
    · exact hB k h) h fun b hb => by
    have hb' : v'.ownBlock = some b := hb
    rcases hf with h | ⟨g, h, h2⟩
    · exact .inl (show v.ownBlock = some b by rw [← h]; exact hb')
    · rw [h] at hb'; cases hb'; exact .inr h2
/-- The block of a slice: the one that it had, or a new one. -/
def Far (v' v : Value) (lo : Nat) : Prop := v'.ownBlock = v.ownBlock ∨ ∃ g, v'.ownBlock = some g ∧ lo ≤ g
theorem Far.own {v' v : Value} {lo : Nat} (h : Far v' v lo) {D : Nat → Prop} (hD : ∀ k, v.ownBlock = some k → D k) : ∀ k, v'.ownBlock = some k → D k ∨ lo ≤ k := fun k hk => by
  rcases h with h | ⟨g, h, h2⟩
  · exact .inl (hD k (by rw [← h]; exact hk))
  · rw [h] at hk; cases hk; exact .inr h2
/-- A block is now a row that a slice owns. -/
theorem Mm.asRow (M : Mm D w0 w L) (i : Nat) {b : Nat} {cs : Array Value} {e : Nat} (hi : L[i]? = some (.box b cs e)) (B n size : Nat) (hB : B ≤ b) (hs : cs.size = n * size) (hn : n ≤ maxLen) : Mm D w0 w (L.set i (.row B (.slice (some ⟨b, 0, none⟩) n n) n cs.toList e size)) :=
  M.set i hi (.refl no w) (fun _ h => h.elim) (fun _ _ h => h.elim) (own_of_blk (M.box i hi) hB hs hn) fun k h => .inl (by cases h; rfl)
/-- What a visitor keeps goes on. -/
theorem Mm.visit (M : Mm D w0 w L) (i : Nat) {E E' : Nat → Prop} {R R' : World → Prop} (hi : L[i]? = some (.res E R)) (h : (Ent.res E' R').holds w') (hs : ∀ k, E' k → E k ∨ w.heap.size ≤ k) (hk : Kept E w w') (hD : ∀ k, k < w0.heap.size → E k → D k) : Mm D w0 w' (L.set i (.res E' R')) :=
  M.set i hi hk (fun _ h => h) hD h hs
theorem Mm.drop (M : Mm D w0 w L) (i : Nat) : Mm D w0 w (L.eraseIdx i) := by
  have key : ∀ j x, (L.eraseIdx i)[j]? = some x → L[if j < i then j else j + 1]? = some x := fun j x h => by
    rw [List.getElem?_eraseIdx] at h; split <;> simp_all
  refine ⟨M.kept, fun j x h => M.ents _ x (key j x h), fun j k x y hx hy hjk => M.dist _ _ x y (key j x hx) (key k y hy) ?_⟩
  split <;> split <;> omega
/-- L tells less. -/
theorem Mm.sub (M : Mm D w0 w L) (f : List Nat) (hf : f.Nodup) : Mm D w0 w (f.filterMap (L[·]?)) := by
  have key : ∀ (f : List Nat) (j : Nat) (x : Ent), (f.filterMap (L[·]?))[j]? = some x → ∃ k ∈ f, L[k]? = some x := fun f j x h => by
    have := List.mem_of_getElem? h
    simpa using this
  induction f with
  | nil => exact ⟨M.kept, fun _ _ h => by simp at h, fun _ _ _ _ h => by simp at h⟩
  | cons a f ih =>
    have ih := ih (List.nodup_cons.1 hf).2
    cases ha : L[a]? with
    | none => simpa [List.filterMap_cons, ha] using ih
    | some x =>
      simp only [List.filterMap_cons, ha]
      refine ih.add (M.ents a x ha) fun y hy => ?_
      obtain ⟨j, hj⟩ := List.getElem?_of_mem hy
      obtain ⟨k, hk, hky⟩ := key f j y hj
      exact M.dist a k x y ha hky fun e => (List.nodup_cons.1 hf).1 (e ▸ hk)
/-- What was known in a world before is told of the new one, if the call's own world is the new beginning. -/
theorem Mm.anew (M : Mm D w0 w L) : Mm no w w L := ⟨.refl _ _, M.ents, M.dist⟩
theorem Mm.onto {L' : List Ent} (M : Mm D w0 w L) (M' : Mm no w w' L') : Mm D w0 w' L' := ⟨M.kept.trans M'.kept fun _ _ h => h.elim, M'.ents, M'.dist⟩
end

section
variable {P : Program} {D : Nat → Prop} {w0 w : World} {L : List Ent} {ops : Array Oper} {rest : List Oper} {o : Oper} {a : Act} {Q : Exit → Act → World → Prop}

/-- A new variable. -/
theorem wpM_box (M : Mm D w0 w L) (hw : Region.wanted o (yielded ops a.tmps) = true) (ty : TypeId) (x : Operand) (ho : o.op = .box ty x) (v : Value) (hx : a.eval x = v) (cs : Array Value) (hv : v.cells = cs)
    (h : ∀ b w', w0.heap.size ≤ b → Mm D w0 w' (.box b cs ty :: L) → wpList P ops Q rest (a.put o.dst (.pointer (some ⟨b, 0, none⟩))) w') : wpList P ops Q (o :: rest) a w := by
  refine wpList_wanted hw ?_
  subst hv
  unfold Oper.wp execOp
  have e : (Instr.box ty v).run P w = .ok (.pointer (some ⟨w.heap.size, 0, none⟩)) (w.alloc (.cells v.cells ty)) := by
    simp [Instr.box, newVar, Sem.run]
    first | done | rfl
  simp only [ho, hx, Sem.run_bind, e, Result.andThen_ok, Sem.run_pure]
  exact h _ _ M.size (M.alloc _ _)
theorem wpM_alloc (M : Mm D w0 w L) (hw : Region.wanted o (yielded ops a.tmps) = true) (ty : TypeId) (ho : o.op = .alloc ty) (z : Value) (hz : (zeroValue ty).run P w = .ok z w) (cs : Array Value) (hv : z.cells = cs)
    (h : ∀ b w', w0.heap.size ≤ b → Mm D w0 w' (.box b cs ty :: L) → wpList P ops Q rest (a.put o.dst (.pointer (some ⟨b, 0, none⟩))) w') : wpList P ops Q (o :: rest) a w := by
  refine wpList_wanted hw ?_
  subst hv
  unfold Oper.wp execOp
  have e : (Instr.alloc ty true (.tuple #[])).run P w = .ok (.pointer (some ⟨w.heap.size, 0, none⟩)) (w.alloc (.cells z.cells ty)) := by
    simp [Instr.alloc, newVar, Sem.run_bind, hz]
    first | done | rfl
  simp only [ho, Sem.run_bind, e, Result.andThen_ok, Sem.run_pure]
  exact h _ _ M.size (M.alloc _ _)
/-- A whole struct or array, or a part of one, is read. -/
theorem wpM_lda (M : Mm D w0 w L) (i : Nat) {b : Nat} {cs : Array Value} {t : Nat} (hi : L[i]? = some (.box b cs t)) (hw : Region.wanted o (yielded ops a.tmps) = true) (ty : TypeId) (x : Operand) (ho : o.op = .load ty x)
    (off : Nat) (hx : a.eval x = .pointer (some ⟨b, off, none⟩)) (part : Array Value) (d : TypeDesc) (hu : P.underlying ty = some d) (hd : aggD d = true) (hs : (P.info? ty).map (·.size) = some part.size)
    (hp : ∀ j v, part[j]? = some v → cs[off + j]? = some v) (h : wpList P ops Q rest (a.put o.dst (.agg part)) w) : wpList P ops Q (o :: rest) a w :=
  wpList_wanted hw (wp_load_part ty x ho b off hx part d hu (by cases d <;> first | rfl | (simp [aggD] at hd)) hs (cells_of_blk (M.box i hi) off part hp) h)
theorem whole (cs : Array Value) : ∀ j v, cs[j]? = some v → cs[0 + j]? = some v := fun j v h => by rw [Nat.zero_add]; exact h
/-- A whole struct or array is written. -/
theorem wpM_sta (M : Mm D w0 w L) (i : Nat) {b : Nat} {cs : Array Value} {t : Nat} (hi : L[i]? = some (.box b cs t)) (hb : w0.heap.size ≤ b ∨ D b) (hw : Region.wanted o (yielded ops a.tmps) = true) (ty : TypeId) (x y : Operand) (ho : o.op = .store ty x y)
    (hx : a.eval x = .pointer (some ⟨b, 0, none⟩)) (part : Array Value) (hy : a.eval y = .agg part) (hs : (P.info? ty).map (·.size) = some part.size) (hsz : part.size = cs.size) (hl : flat part)
    (h : ∀ w', Mm D w0 w' (L.set i (.box b part t)) → wpList P ops Q rest (a.put o.dst undef) w') : wpList P ops Q (o :: rest) a w :=
  wpList_wanted hw (wp_store_part ty x y ho b 0 hx part hy hs cs t (M.box i hi) (by omega) hl (by
    rw [splice_all cs part.toList (by simpa using hsz), Array.toArray_toList]
    exact h _ (M.put i hi hb part)))
/-- A part of a struct or array is written. -/
theorem wpM_stp (M : Mm D w0 w L) (i : Nat) {b : Nat} {cs : Array Value} {t : Nat} (hi : L[i]? = some (.box b cs t)) (hb : w0.heap.size ≤ b ∨ D b) (hw : Region.wanted o (yielded ops a.tmps) = true) (ty : TypeId) (x y : Operand) (ho : o.op = .store ty x y)
    (off : Nat) (hx : a.eval x = .pointer (some ⟨b, off, none⟩)) (part : Array Value) (hy : a.eval y = .agg part) (hs : (P.info? ty).map (·.size) = some part.size) (hsz : off + part.size ≤ cs.size) (hl : flat part) (cs' : Array Value) (hcs : splice cs off part.toList = cs')
    (h : ∀ w', Mm D w0 w' (L.set i (.box b cs' t)) → wpList P ops Q rest (a.put o.dst undef) w') : wpList P ops Q (o :: rest) a w :=
  wpList_wanted hw (wp_store_part ty x y ho b off hx part hy hs cs t (M.box i hi) hsz hl (by subst hcs; exact h _ (M.put i hi hb _)))
/-- One cell is written. -/
theorem wpM_st (M : Mm D w0 w L) (i : Nat) {b : Nat} {cs : Array Value} {t : Nat} (hi : L[i]? = some (.box b cs t)) (hb : w0.heap.size ≤ b ∨ D b) (hw : Region.wanted o (yielded ops a.tmps) = true) (ty : TypeId) (x y : Operand) (ho : o.op = .store ty x y)
    (j : Nat) (hx : a.eval x = .pointer (some ⟨b, j, none⟩)) (v : Value) (hy : a.eval y = v) (hv : oneV v = true) (hs : (P.info? ty).map (·.size) = some 1) (hj : j < cs.size) (cs' : Array Value) (hcs : cs.setIfInBounds j v = cs')
    (h : ∀ w', Mm D w0 w' (L.set i (.box b cs' t)) → wpList P ops Q rest (a.put o.dst undef) w') : wpList P ops Q (o :: rest) a w := by
  subst hcs
  refine wpList_wanted hw ?_
  have hB := M.box i hi
  have hcell := hB.cell j cs[j] (by simp [hj])
  have hfree := hB.free j
  cases hq : P.info? ty with
  | none => simp [hq] at hs
  | some q =>
    have hs' : q.size = 1 := by simpa [hq] using hs
    have hst : (storeVar ty ⟨b, j, none⟩ v).run P w = .ok () (w.setCell ⟨b, j, none⟩ v) := by
      have hc : v.cells = #[v] := by cases v <;> simp_all [Value.cells, oneV]
      have step : (store ((⟨b, j, none⟩ : Addr).add 0) v).run P w = .ok () (w.setCell ⟨b, j, none⟩ v) := by
        rw [add_none, Nat.add_zero]
        cases v <;> simp_all [store, Sem.run, oneV]
      simp [storeVar, sizeOf, typeInfo, hq, hs', hc, storeCells, step]
    unfold Oper.wp execOp
    simp only [ho, hx, hy, Instr.storeAt, Instr.sureAddr, Sem.run_bind, Sem.run_pure, Result.andThen_ok, hst]
    exact h _ (M.setc i hi hb j v)
/-- append(v, x): one element more. -/
theorem wpM_app (M : Mm D w0 w L) (i : Nat) {B : Nat} {v : Value} {n : Nat} {xs : List Value} {e : TypeId} {size : Nat} (hi : L[i]? = some (.row B v n xs e size)) (hB : w0.heap.size ≤ B ∨ ∀ k, v.ownBlock = some k → D k) (hBw : B ≤ w.heap.size) (hgd : o.guard = none) (s x : Operand) (t : TypeId)
    (ho : o.op = .call { callee := .builtin .append, args := #[s, x], argTypes := #[t, t] }) (z : Value) (bytes : Nat) (ht : P.underlying t = some (.slice e)) (hinfo : (P.info? e).map (fun i => (i.zero, i.size, i.bytes)) = some (some z, size, bytes))
    (hzs : z.cells.size = size) (hsz : 0 < size) (hby : 0 < bytes) (hs : a.eval s = v) (k : Nat) {b : Nat} {ys : Array Value} (hk : L[k]? = some (.box b ys e)) (hx : a.eval x = .slice (some ⟨b, 0, none⟩) 1 1) (hys : ys.size = size) (h1 : flat ys) (hbytes : (n + 1) * bytes ≤ 140737488355328)
    (h : ∀ v' w', Far v' v w0.heap.size → Mm D w0 w' (L.set i (.row B v' (n + 1) (xs ++ ys.toList) e size)) → wpList P ops Q rest (a.put o.dst v') w') : wpList P ops Q (o :: rest) a w :=
  wpList_app1 hgd s x t ho B e z size bytes ht hinfo hzs hsz hby v n xs hs (M.row i hi) b hx ys (M.box k hk) hys h1 hbytes hBw fun v' w' hown hg hf => h v' w' (by
    rcases hf with h | h
    · exact .inl h
    · exact .inr ⟨_, h, M.size⟩) (M.longer i hi hB hg hown (by
    rcases hf with h | h
    · exact .inl h
    · exact .inr ⟨_, h, Nat.le_refl _⟩))
/-- A slice of given parts: a new block. -/
theorem wpM_bsl (M : Mm D w0 w L) (hgd : o.guard = none) (ty : TypeId) (len : Nat) (l : List (Nat × Operand)) (ho : o.op = .buildSlice ty len l.toArray)
    (vals : List (Nat × Value)) (hv : l.map (fun p => (p.1, a.eval p.2)) = vals) (cs : Array Value) (e : TypeId) (hb : ∀ w : World, (Instr.buildSlice ty len vals.toArray).run P w = .ok (.slice (some ⟨w.heap.size, 0, none⟩) len len) (w.alloc (.cells cs e)))
    (h : ∀ b w', w0.heap.size ≤ b → Mm D w0 w' (.box b cs e :: L) → wpList P ops Q rest (a.put o.dst (.slice (some ⟨b, 0, none⟩) len len)) w') : wpList P ops Q (o :: rest) a w :=
  wpList_bsl hgd ty len l ho vals hv _ _ (hb w) (h _ _ M.size (M.alloc _ _))
/-- A drawn region in the order of its text, whose last operations come last. -/
theorem wp_region_mm {id : Nat} {l : List Oper} {af : Act} (M : Mm D w0 w L) (n : Nat) (hm : P.follows .mixedOrders = true) (hB : Region.lexTailB .any l.toArray n = true)
    (h : wpText P (fun w' => Mm D w0 w' L) l.toArray (l.take n) a af) (hQ : ∀ w', Mm D w0 w' L → wpList P l.toArray Q (l.drop n) af w') : (Code.region id l.toArray true).wp P Q a w :=
  wp_region_text_tail n _ hm hB M.drew h hQ
/-- A drawn region in the order of its text. -/
theorem wp_region_mm0 {id : Nat} {l : List Oper} {af : Act} (M : Mm D w0 w L) (hm : P.follows .mixedOrders = true) (hB : Region.lexB .any l.toArray = true)
    (h : wpText P (fun w' => Mm D w0 w' L) l.toArray l a af) (hQ : ∀ w', Mm D w0 w' L → Q .normal af w') : (Code.region id l.toArray true).wp P Q a w :=
  wp_region_text _ hm hB M.drew h hQ
/-- copy into a known block out of another one. -/
theorem wpM_copy (M : Mm D w0 w L) (i : Nat) {b : Nat} {cs : Array Value} {t : Nat} (hi : L[i]? = some (.box b cs t)) (hb : w0.heap.size ≤ b ∨ D b) (k : Nat) {c : Nat} {ds : Array Value} {u : Nat} (hk : L[k]? = some (.box c ds u)) (hgd : o.guard = none) (d s : Operand) (dT sT : TypeId)
    (ho : o.op = .call { callee := .builtin .copy, args := #[d, s], argTypes := #[dT, sT] }) (elem : TypeId) (hu : P.underlying dT = some (.slice elem)) (hsz : (P.info? elem).map (·.size) = some 1)
    (off dLen dCap off2 sLen sCap : Nat) (hd : a.eval d = .slice (some ⟨b, off, none⟩) dLen dCap) (hs : a.eval s = .slice (some ⟨c, off2, none⟩) sLen sCap) (m : Nat) (hm : m = Nat.min sLen dLen) (h1 : off + m ≤ cs.size) (h2 : off2 + m ≤ ds.size) (hl : flat ds)
    (cs' : Array Value) (hsz' : cs'.size = cs.size) (hcs : ∀ j, j < cs.size → cs'[j]? = if off ≤ j ∧ j < off + m then ds[off2 + (j - off)]? else cs[j]?)
    (h : ∀ w', Mm D w0 w' (L.set i (.box b cs' t)) → wpList P ops Q rest (a.put o.dst (goInt m)) w') : wpList P ops Q (o :: rest) a w := by
  have hB := M.box i hi
  have hC := M.box k hk
  have hlen : ((ds.toList.drop off2).take m).length = m := by simp; omega
  have hget : ∀ j, j < m → ((ds.toList.drop off2).take m)[j]? = ds[off2 + j]? := fun j hj => by
    rw [List.getElem?_take, if_pos hj, List.getElem?_drop, Array.getElem?_toList]
  refine wpList_copy_own hgd d s dT sT ho elem hu hsz b off dLen dCap ⟨c, off2, none⟩ sLen sCap hd hs cs t hB.out ((ds.toList.drop off2).take m) (by rw [hlen, hm]) (fun j v hj => ?_) (by rw [hlen]; exact h1) (fun v hv => ?_) ?_
  · have hjm : j < m := by rw [← hlen]; exact (List.getElem?_eq_some_iff.1 hj).1
    rw [add_none]
    exact hC.cell _ _ (by rw [← hget j hjm]; exact hj)
  · exact flat_one hl v (List.mem_of_mem_drop (List.mem_of_mem_take hv))
  · rw [hlen]
    have e : (cs.toList.take off ++ ((ds.toList.drop off2).take m ++ cs.toList.drop (off + m))).toArray = cs' := by
      apply Array.ext_getElem?
      intro j
      rcases Nat.lt_or_ge j cs.size with hj | hj
      · rw [hcs j hj, List.getElem?_toArray]
        by_cases c1 : j < off
        · rw [if_neg (by omega), List.getElem?_append_left (by simp; omega), List.getElem?_take, if_pos c1, Array.getElem?_toList]
        · rw [List.getElem?_append_right (by simp; omega)]
          have e1 : (cs.toList.take off).length = off := by simp; omega
          rw [e1]
          by_cases c2 : j < off + m
          · rw [if_pos (by omega), List.getElem?_append_left (by rw [hlen]; omega), hget _ (by omega)]
          · rw [if_neg (by omega), List.getElem?_append_right (by rw [hlen]; omega), hlen, List.getElem?_drop, Array.getElem?_toList]
            congr 1; omega
      · rw [Array.getElem?_eq_none (by simp; omega), Array.getElem?_eq_none (by omega)]
    rw [e]
    have hw : w.setRow b cs' = World.put w b cs' t := by
      have h3 := hB.out
      have h4 := hB.lt
      have : (w.setRow b cs').heap = (World.put w b cs' t).heap := by
        simp only [World.setRow, World.put]
        apply Array.ext_getElem?
        intro k
        rw [Array.getElem?_modify, Array.getElem?_setIfInBounds]
        by_cases e : b = k
        · subst e; rw [if_pos rfl, if_pos rfl, if_pos h4, h3]; rfl
        · rw [if_neg e, if_neg e]
      unfold World.setRow World.put at *
      rw [World.mk.injEq]
      simp_all
    rw [hw]
    exact h _ (M.put i hi hb cs')
/-! The same steps, each asked for in parts that fail at once where they do not fit. -/
theorem isLoad_spec {p : Op} {ty : Nat} (h : isLoad p ty = true) : p = .load ty (addrOf p) := by cases p <;> simp_all [isLoad, addrOf]
theorem isStore_spec {p : Op} {ty : Nat} (h : isStore p ty = true) : p = .store ty (addrOf p) (valOf p) := by cases p <;> simp_all [isStore, addrOf, valOf]
theorem isBoxOp_spec {p : Op} {ty : Nat} (h : isBoxOp p ty = true) : p = .box ty (valOf p) := by cases p <;> simp_all [isBoxOp, valOf]
theorem isAlloc_spec {p : Op} {ty : Nat} (h : isAlloc p ty = true) : p = .alloc ty := by cases p <;> simp_all [isAlloc]
theorem isBox_spec {L : List Ent} {i : Nat} (h : isBox L i = true) : L[i]? = some (.box (entBlk L i) (entCells L i) (entT L i)) := by
  unfold isBox at h
  unfold entBlk entCells entT
  split at h
  · rename_i e; simp only [e]
  · cases h

theorem wpM_box' (M : Mm D w0 w L) (ty : TypeId) (cs : Array Value) (ho : isBoxOp o.op ty = true) (H : Region.wanted o (yielded ops a.tmps) = true ∧ (a.eval (valOf o.op)).cells = cs)
    (h : ∀ b w', w0.heap.size ≤ b → Mm D w0 w' (.box b cs ty :: L) → wpList P ops Q rest (a.put o.dst (.pointer (some ⟨b, 0, none⟩))) w') : wpList P ops Q (o :: rest) a w :=
  wpM_box M H.1 ty _ (isBoxOp_spec ho) _ rfl cs H.2 h
theorem wpM_alloc' (M : Mm D w0 w L) (ty : TypeId) (cs : Array Value) (ho : isAlloc o.op ty = true) (H : Region.wanted o (yielded ops a.tmps) = true ∧ ∃ z, (zeroValue ty).run P w = .ok z w ∧ z.cells = cs)
    (h : ∀ b w', w0.heap.size ≤ b → Mm D w0 w' (.box b cs ty :: L) → wpList P ops Q rest (a.put o.dst (.pointer (some ⟨b, 0, none⟩))) w') : wpList P ops Q (o :: rest) a w := by
  obtain ⟨hw, z, hz, hv⟩ := H
  exact wpM_alloc M hw ty (isAlloc_spec ho) z hz cs hv h
theorem wpM_lda' (M : Mm D w0 w L) (i : Nat) (ty : TypeId) (off : Nat) (part : Array Value) (ho : isLoad o.op ty = true) (hi : isBox L i = true) (hat : a.eval (addrOf o.op) = .pointer (some ⟨entBlk L i, off, none⟩))
    (H : Region.wanted o (yielded ops a.tmps) = true ∧ (P.info? ty).map (·.size) = some part.size ∧ ∃ d, P.underlying ty = some d ∧ aggD d = true) (hp : ∀ j v, part[j]? = some v → (entCells L i)[off + j]? = some v)
    (h : wpList P ops Q rest (a.put o.dst (.agg part)) w) : wpList P ops Q (o :: rest) a w := by
  obtain ⟨hw, hs, d, hu, hd⟩ := H
  exact wpM_lda M i (isBox_spec hi) hw ty _ (isLoad_spec ho) off hat part d hu hd hs hp h
theorem wpM_sta' (M : Mm D w0 w L) (i : Nat) (ty : TypeId) (part : Array Value) (ho : isStore o.op ty = true) (hi : isBox L i = true) (hat : a.eval (addrOf o.op) = .pointer (some ⟨entBlk L i, 0, none⟩)) (hv : a.eval (valOf o.op) = .agg part)
    (hb : w0.heap.size ≤ entBlk L i ∨ D (entBlk L i)) (H : Region.wanted o (yielded ops a.tmps) = true ∧ (P.info? ty).map (·.size) = some part.size ∧ flat part) (hs : part.size = (entCells L i).size)
    (h : ∀ w', Mm D w0 w' (L.set i (.box (entBlk L i) part (entT L i))) → wpList P ops Q rest (a.put o.dst undef) w') : wpList P ops Q (o :: rest) a w :=
  wpM_sta M i (isBox_spec hi) hb H.1 ty _ _ (isStore_spec ho) hat part hv H.2.1 hs H.2.2 h
theorem wpM_stp' (M : Mm D w0 w L) (i : Nat) (ty : TypeId) (off : Nat) (part cs' : Array Value) (ho : isStore o.op ty = true) (hi : isBox L i = true) (hat : a.eval (addrOf o.op) = .pointer (some ⟨entBlk L i, off, none⟩)) (hv : a.eval (valOf o.op) = .agg part)
    (hb : w0.heap.size ≤ entBlk L i ∨ D (entBlk L i)) (H : Region.wanted o (yielded ops a.tmps) = true ∧ (P.info? ty).map (·.size) = some part.size ∧ flat part) (hs : off + part.size ≤ (entCells L i).size) (hcs : splice (entCells L i) off part.toList = cs')
    (h : ∀ w', Mm D w0 w' (L.set i (.box (entBlk L i) cs' (entT L i))) → wpList P ops Q rest (a.put o.dst undef) w') : wpList P ops Q (o :: rest) a w :=
  wpM_stp M i (isBox_spec hi) hb H.1 ty _ _ (isStore_spec ho) off hat part hv H.2.1 hs H.2.2 cs' hcs h
theorem wpM_st' (M : Mm D w0 w L) (i : Nat) (ty : TypeId) (j : Nat) (cs' : Array Value) (ho : isStore o.op ty = true) (hi : isBox L i = true) (hat : a.eval (addrOf o.op) = .pointer (some ⟨entBlk L i, j, none⟩))
    (hb : w0.heap.size ≤ entBlk L i ∨ D (entBlk L i)) (H : Region.wanted o (yielded ops a.tmps) = true ∧ oneV (a.eval (valOf o.op)) = true ∧ (P.info? ty).map (·.size) = some 1) (hj : j < (entCells L i).size) (hcs : (entCells L i).setIfInBounds j (a.eval (valOf o.op)) = cs')
    (h : ∀ w', Mm D w0 w' (L.set i (.box (entBlk L i) cs' (entT L i))) → wpList P ops Q rest (a.put o.dst undef) w') : wpList P ops Q (o :: rest) a w :=
  wpM_st M i (isBox_spec hi) hb H.1 ty _ _ (isStore_spec ho) j hat _ rfl H.2.1 H.2.2 hj cs' hcs h
theorem wpM_copy' (M : Mm D w0 w L) (i k off off2 dLen dCap sLen sCap m : Nat) (cs' : Array Value) (d s : Operand) (dT sT elem : TypeId) (ho : o.op = .call { callee := .builtin .copy, args := #[d, s], argTypes := #[dT, sT] }) (hi : isBox L i = true) (hk : isBox L k = true)
    (hd : a.eval d = .slice (some ⟨entBlk L i, off, none⟩) dLen dCap) (hs : a.eval s = .slice (some ⟨entBlk L k, off2, none⟩) sLen sCap) (hm : m = Nat.min sLen dLen) (hb : w0.heap.size ≤ entBlk L i ∨ D (entBlk L i)) (hgd : o.guard = none)
    (hu : P.underlying dT = some (.slice elem)) (hsz : (P.info? elem).map (·.size) = some 1) (h1 : off + m ≤ (entCells L i).size) (h2 : off2 + m ≤ (entCells L k).size) (hl : flat (entCells L k)) (h3 : cs'.size = (entCells L i).size)
    (h4 : ∀ j, j < (entCells L i).size → cs'[j]? = if off ≤ j ∧ j < off + m then (entCells L k)[off2 + (j - off)]? else (entCells L i)[j]?)
    (h : ∀ w', Mm D w0 w' (L.set i (.box (entBlk L i) cs' (entT L i))) → wpList P ops Q rest (a.put o.dst (goInt m)) w') : wpList P ops Q (o :: rest) a w :=
  wpM_copy M i (isBox_spec hi) hb k (isBox_spec hk) hgd d s dT sT ho elem hu hsz off dLen dCap off2 sLen sCap hd hs m hm h1 h2 hl cs' h3 h4 h
theorem isBsl_spec {p : Op} {ty len : Nat} (h : isBsl p ty len = true) : p = .buildSlice ty len (bslParts p).toArray := by cases p <;> simp_all [isBsl, bslParts]
theorem isApp_spec {p : Op} {ty : Nat} (h : isApp p ty = true) : p = .call { callee := .builtin .append, args := #[appS p, appX p], argTypes := #[ty, ty] } := by
  cases p with
  | call c =>
    obtain ⟨callee, args, argTypes⟩ := c
    obtain ⟨al⟩ := args
    obtain ⟨tl⟩ := argTypes
    simp only [isApp, Bool.and_eq_true, beq_iff_eq] at h
    obtain ⟨⟨h1, h2⟩, h3⟩ := h
    match al, h2 with
    | [x, y], _ =>
      subst h3
      cases callee with
      | builtin b => cases b <;> first | rfl | cases h1
      | value f => cases h1
      | invoke r m => cases h1
  | _ => simp [isApp] at h
theorem wpM_bsl' (M : Mm D w0 w L) (ty len e : Nat) (vals : List (Nat × Value)) (cs : Array Value) (ho : isBsl o.op ty len = true) (hgd : o.guard = none) (hv : (bslParts o.op).map (fun p => (p.1, a.eval p.2)) = vals)
    (hb : ∀ w : World, (Instr.buildSlice ty len vals.toArray).run P w = .ok (.slice (some ⟨w.heap.size, 0, none⟩) len len) (w.alloc (.cells cs e)))
    (h : ∀ b w', w0.heap.size ≤ b → Mm D w0 w' (.box b cs e :: L) → wpList P ops Q rest (a.put o.dst (.slice (some ⟨b, 0, none⟩) len len)) w') : wpList P ops Q (o :: rest) a w :=
  wpM_bsl M hgd ty len _ (isBsl_spec ho) vals hv cs e hb h
theorem wpM_app' (M : Mm D w0 w L) (t i k : Nat) (B : Nat) (v : Value) (n : Nat) (xs : List Value) (e size bytes : Nat) (ho : isApp o.op t = true) (hi : L[i]? = some (.row B v n xs e size)) (hk : isBox L k = true) (hs : a.eval (appS o.op) = v) (hx : a.eval (appX o.op) = .slice (some ⟨entBlk L k, 0, none⟩) 1 1)
    (hT : entT L k = e) (hgd : o.guard = none) (hB : w0.heap.size ≤ B ∨ ∀ k, v.ownBlock = some k → D k) (hBw : B ≤ w.heap.size) (z : Value) (ht : P.underlying t = some (.slice e)) (hinfo : (P.info? e).map (fun i => (i.zero, i.size, i.bytes)) = some (some z, size, bytes))
    (hzs : z.cells.size = size) (hsz : 0 < size) (hby : 0 < bytes) (ys : Array Value) (hys' : entCells L k = ys) (hys : ys.size = size) (h1 : flat ys) (hbytes : (n + 1) * bytes ≤ 140737488355328)
    (h : ∀ v' w', Far v' v w0.heap.size → Mm D w0 w' (L.set i (.row B v' (n + 1) (xs ++ ys.toList) e size)) → wpList P ops Q rest (a.put o.dst v') w') : wpList P ops Q (o :: rest) a w := by
  subst hT hys'
  exact wpM_app M i hi hB hBw hgd _ _ t (isApp_spec ho) z bytes ht hinfo hzs hsz hby hs k (isBox_spec hk) hx hys h1 hbytes h
theorem whole_of {L : List Ent} {i : Nat} {part : Array Value} (h : entCells L i = part) : ∀ j v, part[j]? = some v → (entCells L i)[0 + j]? = some v := fun j v hv => by rw [h, Nat.zero_add]; exact hv
end
end Go.Proofs.Ytinjjaoikofkdaa
