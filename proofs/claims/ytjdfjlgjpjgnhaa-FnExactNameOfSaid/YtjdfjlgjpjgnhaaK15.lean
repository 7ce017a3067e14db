/- What is known in a drawn region in which a book is copied and a new variable is made and written, whatever the order. -/
import Derived.Test.YtjdfjlgjpjgnhaaC43
namespace Go.Proofs.Ytjdfjlgjpjgnhaa
set_option linter.unusedSimpArgs false
set_option linter.unusedVariables false
open Go Go.RowKit

def updD (D : Nat → Bool) (i : Nat) : Nat → Bool := fun j => if j = i then true else D j
def updG (g : Nat → Value) (i : Nat) (u : Value) : Nat → Value := fun j => if j = i then u else g j
/-- What a place holds: what the operation that writes it has given, or what was there. -/
def readV (l : List Oper) (a : Act) (g : Nat → Value) (t : Nat) : Value := match l.findIdx? (fun o => o.dst == some t) with | some j => g j | none => a.tmps.getD t undef
theorem readV_full {l : List Oper} {a0 : Act} (hB : freeB l.toArray a0.tmps.size = true) (g : Nat → Value) (t : Nat) : (fullAct l 0 a0 g).tmps.getD t undef = readV l a0 g t := by
  unfold readV
  split
  · rename_i j hj
    obtain ⟨hlt, h1, _⟩ := List.findIdx?_eq_some_iff_getElem.1 hj
    have hd : l[j].dst = some t := by simpa using h1
    have hf := freeB_spec hB (show l.toArray[j]? = some l[j] by simp [hlt])
    rw [full_new l 0 a0 g t j l[j] (List.getElem?_eq_getElem hlt) hd (hf.lt t hd) fun j' o' h' hn => hf.own t hd j' o' (by simpa using h') hn, Nat.zero_add]
  · rename_i hn
    rw [List.findIdx?_eq_none_iff] at hn
    exact full_old l 0 a0 g t fun o ho hd => by
      have := hn o ho
      simp [hd] at this
/-- THE RULE, each operation under an act of one's own that holds what the operation reads. -/
theorem wp_region_own {P : Program} {id : Nat} {Q : Exit → Act → World → Prop} {a0 : Act} {w : World} {l : List Oper} (S : (Nat → Bool) → (Nat → Value) → World → Prop) (hm : P.follows .mixedOrders = true) (hB : freeB l.toArray a0.tmps.size = true)
    (g0 : Nat → Value) (hS : S (fun _ => false) g0 w.drew)
    (hstep : ∀ i o, l[i]? = some o → ∀ D g w, D i = false → (∀ e ∈ o.after, Region.binds .any e = true → D e.on = true) → S D g w →
      ∃ A : Act, (∀ t ∈ o.looksAt l.toArray, A.tmps.getD t undef = readV l a0 g t) ∧ yield P o A w fun u w' => S (updD D i) (updG g i u) w')
    (hQ : ∀ D g w, (∀ i, i < l.length → D i = true) → S D g w → Q .normal (fullAct l 0 a0 g) w) : (Code.region id l.toArray true).wp P Q a0 w := by
  refine wp_region_free S hm hB g0 hS (fun i o hi D g w hi0 hpre hS => ?_) hQ
  obtain ⟨A, hA, hy⟩ := hstep i o hi D g w hi0 hpre hS
  have hsel : ∀ cs b, o.op ≠ .select cs b := fun cs b => by
    simp only [freeB, Bool.and_eq_true] at hB
    exact Region.noSelect_spec hB.1 i o cs b (by simpa using hi)
  have he : execOp (fullAct l 0 a0 g).eval o = execOp A.eval o := execOp_congr o hsel fun x hx => by
    cases x with
    | tmp t =>
      have ht : t ∈ o.looksAt l.toArray := List.mem_append_left _ (List.mem_filterMap.2 ⟨.tmp t, by simpa using hx, rfl⟩)
      show (fullAct l 0 a0 g).tmps.getD t undef = A.tmps.getD t undef
      rw [hA t ht, readV_full hB]
    | _ => rfl
  unfold yield at hy ⊢
  rw [he]; exact hy

theorem updD_at (D : Nat → Bool) (i : Nat) : updD D i i = true := if_pos rfl
theorem updD_ne {D : Nat → Bool} {i j : Nat} (h : j ≠ i) : updD D i j = D j := if_neg h
theorem updG_at (g : Nat → Value) (i : Nat) (u : Value) : updG g i u i = u := if_pos rfl
theorem updG_ne {g : Nat → Value} {i j : Nat} {u : Value} (h : j ≠ i) : updG g i u j = g j := if_neg h

/-- i1 copies a book, i9 makes a variable, i11 writes it; the others give the values val. -/
structure FlS (val : Nat → Option Value) (ns : List ByteArray) (ls : List Sqr) (i1 i9 i11 : Nat) (z f : Array Value) (t : Nat) (w0 : World) (L : List Ent) (D : Nat → Bool) (g : Nat → Value) (w : World) : Prop where
  fc : ∀ i v, val i = some v → D i = true → g i = v
  ord : D i11 = true → D i9 = true
  mem : ∃ X Y, (D i1 = false → X = []) ∧ (D i1 = true → ∃ g1 g2 cs1 cs2, g i1 = .agg (bkA g1 ns.length g2 ls.length ns.length ls.length) ∧ strC ns cs1 ∧ sqaC ls cs2 ∧ X = [.box g1 cs1 9, .box g2 cs2 30]) ∧
    (D i9 = false → Y = []) ∧ (D i9 = true → ∃ b, g i9 = .pointer (some ⟨b, 0, none⟩) ∧ w0.heap.size ≤ b ∧ Y = [.box b (if D i11 = true then f else z) t]) ∧ Mm no w0 w (X ++ (Y ++ L))

section
variable {val : Nat → Option Value} {ns : List ByteArray} {ls : List Sqr} {i1 i9 i11 : Nat} {z f : Array Value} {t : Nat} {w0 w w' : World} {L : List Ent} {D : Nat → Bool} {g : Nat → Value}
theorem FlS.start (M : Mm no w0 w L) (g : Nat → Value) : FlS val ns ls i1 i9 i11 z f t w0 L (fun _ => false) g w.drew :=
  ⟨(fun _ _ _ h => by cases h), (fun h => by cases h), [], [], (fun _ => rfl), (fun h => by cases h), (fun _ => rfl), (fun h => by cases h), M.drew⟩
theorem FlS.base (S : FlS val ns ls i1 i9 i11 z f t w0 L D g w) : Mm no w0 w L := by
  obtain ⟨X, Y, _, _, _, _, M⟩ := S.mem
  exact Mm.suffix (Mm.suffix M)
theorem FlS.here (S : FlS val ns ls i1 i9 i11 z f t w0 L D g w) (h : D i1 = true) : ∃ g1 g2, g i1 = .agg (bkA g1 ns.length g2 ls.length ns.length ls.length) ∧ BkHere ns ls w g1 g2 := by
  obtain ⟨X, Y, _, h2, _, _, M⟩ := S.mem
  obtain ⟨g1, g2, cs1, cs2, e, hs1, hs2, rfl⟩ := h2 h
  exact ⟨g1, g2, e, BkHere.of M 0 1 (by decide) rfl rfl hs1 hs2⟩
theorem FlS.fc_upd (S : FlS val ns ls i1 i9 i11 z f t w0 L D g w) {i : Nat} {u : Value} (hv : ∀ v, val i = some v → u = v) : ∀ j v, val j = some v → updD D i j = true → updG g i u j = v := fun j v h hd => by
  by_cases e : j = i
  · subst e; rw [updG_at]; exact hv v h
  · rw [updD_ne e] at hd; rw [updG_ne e]; exact S.fc j v h hd
/-- An operation that gives a known value and makes no more than new memory. -/
theorem FlS.det (S : FlS val ns ls i1 i9 i11 z f t w0 L D g w) {i : Nat} {u : Value} (hv : ∀ v, val i = some v → u = v) (h1 : i ≠ i1) (h9 : i ≠ i9) (h11 : i ≠ i11) (hb : Below w.heap.size w w') : FlS val ns ls i1 i9 i11 z f t w0 L (updD D i) (updG g i u) w' := by
  obtain ⟨X, Y, a1, a2, a3, a4, M⟩ := S.mem
  refine ⟨S.fc_upd hv, ?_, X, Y, ?_, ?_, ?_, ?_, M.later hb⟩
  · rw [updD_ne (Ne.symm h11), updD_ne (Ne.symm h9)]; exact S.ord
  · rw [updD_ne (Ne.symm h1)]; exact a1
  · rw [updD_ne (Ne.symm h1), updG_ne (Ne.symm h1)]; exact a2
  · rw [updD_ne (Ne.symm h9)]; exact a3
  · rw [updD_ne (Ne.symm h9), updG_ne (Ne.symm h9), updD_ne (Ne.symm h11)]; exact a4
/-- The book is copied. -/
theorem FlS.book (S : FlS val ns ls i1 i9 i11 z f t w0 L D g w) (h0 : D i1 = false) (hv : val i1 = none) (h9 : i1 ≠ i9) (h11 : i1 ≠ i11) {g1 g2 : Nat} {cs1 cs2 : Array Value} (hg1 : w.heap.size ≤ g1) (hg2 : w.heap.size ≤ g2) (hs1 : strC ns cs1) (hs2 : sqaC ls cs2)
    (M' : Mm no w w' [.box g1 cs1 9, .box g2 cs2 30]) : FlS val ns ls i1 i9 i11 z f t w0 L (updD D i1) (updG g i1 (.agg (bkA g1 ns.length g2 ls.length ns.length ls.length))) w' := by
  obtain ⟨X, Y, a1, a2, a3, a4, M⟩ := S.mem
  obtain rfl := a1 h0
  refine ⟨S.fc_upd fun v h => (by rw [hv] at h; cases h), ?_, _, Y, ?_, fun _ => ⟨g1, g2, cs1, cs2, updG_at .., hs1, hs2, rfl⟩, ?_, ?_, M.join2 M' (new_box2 hg1 hg2)⟩
  · rw [updD_ne (Ne.symm h11), updD_ne (Ne.symm h9)]; exact S.ord
  · rw [updD_at]; intro h; cases h
  · rw [updD_ne (Ne.symm h9)]; exact a3
  · rw [updD_ne (Ne.symm h9), updG_ne (Ne.symm h9), updD_ne (Ne.symm h11)]; exact a4
/-- The variable is made. -/
theorem FlS.new (S : FlS val ns ls i1 i9 i11 z f t w0 L D g w) (h0 : D i9 = false) (hv : val i9 = none) (h1 : i9 ≠ i1) (h11 : i9 ≠ i11) : FlS val ns ls i1 i9 i11 z f t w0 L (updD D i9) (updG g i9 (.pointer (some ⟨w.heap.size, 0, none⟩))) (w.alloc (.cells z t)) := by
  obtain ⟨X, Y, a1, a2, a3, a4, M⟩ := S.mem
  obtain rfl := a3 h0
  have hD11 : D i11 = false := by
    cases h : D i11 with
    | false => rfl
    | true => rw [S.ord h] at h0; cases h0
  have M9 : Mm no w0 (w.alloc (.cells z t)) (X ++ ([.box w.heap.size z t] ++ L)) := (M.alloc z t).perm (by
    show List.Perm (.box w.heap.size z t :: (X ++ L)) (X ++ (.box w.heap.size z t :: L))
    exact (List.perm_middle (a := Ent.box w.heap.size z t) (l₁ := X) (l₂ := L)).symm)
  refine ⟨S.fc_upd fun v h => (by rw [hv] at h; cases h), ?_, X, _, ?_, ?_, ?_, fun _ => ⟨w.heap.size, updG_at .., M.size, by rw [updD_ne (Ne.symm h11), hD11]; rfl⟩, M9⟩
  · rw [updD_ne (Ne.symm h11), hD11]; intro h; cases h
  · rw [updD_ne (Ne.symm h1)]; exact a1
  · rw [updD_ne (Ne.symm h1), updG_ne (Ne.symm h1)]; exact a2
  · rw [updD_at]; intro h; cases h
/-- Where the variable lies, ahead of its writing, with the book there. -/
theorem FlS.ahead (S : FlS val ns ls i1 i9 i11 z f t w0 L D g w) (h1 : D i1 = true) (h9 : D i9 = true) (h0 : D i11 = false) : ∃ g1 g2 cs1 cs2 b, g i1 = .agg (bkA g1 ns.length g2 ls.length ns.length ls.length) ∧ strC ns cs1 ∧ sqaC ls cs2 ∧ g i9 = .pointer (some ⟨b, 0, none⟩) ∧ w0.heap.size ≤ b ∧
    Mm no w0 w (.box g1 cs1 9 :: .box g2 cs2 30 :: .box b z t :: L) := by
  obtain ⟨X, Y, _, a2, _, a4, M⟩ := S.mem
  obtain ⟨g1, g2, cs1, cs2, e, hs1, hs2, rfl⟩ := a2 h1
  obtain ⟨b, e2, hb, rfl⟩ := a4 h9
  rw [h0] at M
  exact ⟨g1, g2, cs1, cs2, b, e, hs1, hs2, e2, hb, M⟩
/-- It is written. -/
theorem FlS.put (S : FlS val ns ls i1 i9 i11 z f t w0 L D g w) (h1 : D i1 = true) (h9 : D i9 = true) (hv : val i11 = none) (n1 : i11 ≠ i1) (n9 : i11 ≠ i9) {u : Value} {g1 g2 b : Nat} {cs1 cs2 : Array Value} (e1 : g i1 = .agg (bkA g1 ns.length g2 ls.length ns.length ls.length)) (hs1 : strC ns cs1) (hs2 : sqaC ls cs2)
    (e2 : g i9 = .pointer (some ⟨b, 0, none⟩)) (hb : w0.heap.size ≤ b) (M : Mm no w0 w' (.box g1 cs1 9 :: .box g2 cs2 30 :: .box b f t :: L)) : FlS val ns ls i1 i9 i11 z f t w0 L (updD D i11) (updG g i11 u) w' := by
  refine ⟨S.fc_upd fun v h => (by rw [hv] at h; cases h), ?_, [.box g1 cs1 9, .box g2 cs2 30], [.box b f t], ?_, ?_, ?_, ?_, M⟩
  · rw [updD_ne (Ne.symm n9)]; exact fun _ => h9
  · rw [updD_ne (Ne.symm n1), h1]; intro h; cases h
  · rw [updG_ne (Ne.symm n1)]; exact fun _ => ⟨g1, g2, cs1, cs2, e1, hs1, hs2, rfl⟩
  · rw [updD_ne (Ne.symm n9), h9]; intro h; cases h
  · rw [updG_ne (Ne.symm n9), updD_at]; exact fun _ => ⟨b, e2, hb, rfl⟩
/-- All has been done. -/
theorem FlS.done (S : FlS val ns ls i1 i9 i11 z f t w0 L D g w) (h1 : D i1 = true) (h9 : D i9 = true) (h11 : D i11 = true) : ∃ g1 g2 cs1 cs2 b, g i1 = .agg (bkA g1 ns.length g2 ls.length ns.length ls.length) ∧ strC ns cs1 ∧ sqaC ls cs2 ∧ g i9 = .pointer (some ⟨b, 0, none⟩) ∧ w0.heap.size ≤ b ∧
    Mm no w0 w (.box g1 cs1 9 :: .box g2 cs2 30 :: .box b f t :: L) := by
  obtain ⟨X, Y, _, a2, _, a4, M⟩ := S.mem
  obtain ⟨g1, g2, cs1, cs2, e, hs1, hs2, rfl⟩ := a2 h1
  obtain ⟨b, e2, hb, rfl⟩ := a4 h9
  rw [h11] at M
  exact ⟨g1, g2, cs1, cs2, b, e, hs1, hs2, e2, hb, M⟩
end
end Go.Proofs.Ytjdfjlgjpjgnhaa
