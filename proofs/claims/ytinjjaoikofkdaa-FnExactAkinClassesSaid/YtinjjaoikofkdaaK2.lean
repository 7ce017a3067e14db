/- Rows of memory that are read, and append of one element. -/
import Derived.Test.YtinjjaoikofkdaaK
namespace Go.Proofs.Ytinjjaoikofkdaa
set_option linter.unusedSimpArgs false
set_option linter.unusedVariables false
open Go.RowKit

/-- The first n cells of block g hold the values of f. -/
structure rds (w : World) (g n : Nat) (f : Nat → Value) : Prop where
  lt : g < w.heap.size
  at_ : ∀ j, j < n → w.cell? ⟨g, j, none⟩ = some (f j)
theorem rds.below {w w' : World} {B g n : Nat} {f : Nat → Value} (h : rds w g n f) (hb : Below B w w') (hB : g < B) : rds w' g n f :=
  ⟨Nat.lt_of_lt_of_le h.lt hb.size, fun j hj => by rw [hb.cell (p := ⟨g, j, none⟩) hB]; exact h.at_ j hj⟩
theorem rds.later {w w' : World} {g n : Nat} {f : Nat → Value} (h : rds w g n f) (hb : Below w.heap.size w w') : rds w' g n f := h.below hb h.lt
theorem rds.drew {w : World} {g n : Nat} {f : Nat → Value} (h : rds w g n f) : rds w.drew g n f := ⟨h.lt, h.at_⟩
theorem rds.drewN {w : World} {g n : Nat} {f : Nat → Value} (h : rds w g n f) (k : Nat) : rds (w.drewN k) g n f := ⟨h.lt, h.at_⟩
theorem rds.alloc {w : World} {g n : Nat} {f : Nat → Value} (h : rds w g n f) (o : Obj) : rds (w.alloc o) g n f := h.later ((Below.refl _ _).alloc (Nat.le_refl _) _)
theorem rds.other {w : World} {g n b : Nat} {f : Nat → Value} (h : rds w g n f) (j : Nat) (v : Value) (hb : b ≠ g) : rds (w.setCell ⟨b, j, none⟩ v) g n f :=
  ⟨by simpa [World.setCell] using h.lt, fun i hi => by rw [World.cell?_of_block (w := w) (a := ⟨g, i, none⟩) (Below.heap_setCell _ _ _ _ (Ne.symm hb))]; exact h.at_ i hi⟩
theorem rds.put_other {w : World} {g n b : Nat} {f : Nat → Value} (h : rds w g n f) (cs : Array Value) (t : Nat) (hb : b ≠ g) : rds (World.put w b cs t) g n f :=
  ⟨by simpa [World.put] using h.lt, fun i hi => by rw [World.cell?_of_block (w := w) (a := ⟨g, i, none⟩) (by simp [World.put, Array.getElem?_setIfInBounds, hb])]; exact h.at_ i hi⟩
theorem rds.grown {w w' : World} {g n : Nat} {f : Nat → Value} {row : Option Nat} (h : rds w g n f) (hg : w.grownBy w' row) (hr : some g ≠ row) : rds w' g n f :=
  ⟨Nat.lt_of_lt_of_le h.lt hg.size, fun j hj => by rw [World.cell?_of_block (w := w) (a := ⟨g, j, none⟩) (hg.block g h.lt hr)]; exact h.at_ j hj⟩
theorem blk.grown {w w' : World} {b : Nat} {cs : Array Value} {t : Nat} {row : Option Nat} (h : blk w b cs t) (hg : w.grownBy w' row) (hr : some b ≠ row) : blk w' b cs t :=
  ⟨by rw [hg.block b h.lt hr, h.out]⟩
theorem grown_below {w w' : World} (hb : Below w.heap.size w w') (row : Option Nat) : w.grownBy w' row := ⟨hb.os, hb.tape, hb.output, hb.size, fun k hk _ => hb.block k hk⟩
theorem blk.rds {w : World} {b : Nat} {cs : Array Value} {t : Nat} (h : blk w b cs t) {n : Nat} {f : Nat → Value} (hc : ∀ j, j < n → cs[j]? = some (f j)) : rds w b n f :=
  ⟨h.lt, fun j hj => h.cell j _ (hc j hj)⟩

theorem flat_one {cs : Array Value} (h : flat cs) : ∀ u ∈ cs.toList, u.oneCell' = true := by
  intro u hu
  have := h u hu
  cases u <;> simp_all [Value.oneCell']

/-- What a slice that owns its row reads as. -/
theorem own_rds {w : World} {base e n : Nat} {v : Value} {xs : List Value} {size : Nat} (h : w.ownsRow base e size v n xs) (hn : 0 < n * size) : ∃ g cap, v = .slice (some ⟨g, 0, none⟩) n cap ∧ base ≤ g ∧ v.ownBlock = some g ∧ rds w g (n * size) (fun j => xs.getD j undef) := by
  rcases h.2 with ⟨_, rfl⟩ | ⟨g, cap, cur, rfl, hb, hh, h1, h2, h3, h4⟩
  · simp at hn
  · refine ⟨g, cap, rfl, hb, rfl, (Array.getElem?_eq_some_iff.1 hh).1, fun j hj => ?_⟩
    have := h.cells (g := g) rfl j (xs.getD j undef) (by rw [List.getD_eq_getElem?_getD]; rw [List.getElem?_eq_getElem (by rw [h.1]; exact hj)]; rfl)
    rwa [add_none, Nat.zero_add] at this

theorem own_form {w : World} {base e size n : Nat} {v : Value} {xs : List Value} (h : w.ownsRow base e size v n xs) : ∃ pp cap, v = .slice pp n cap := by
  rcases h.2 with ⟨h, h'⟩ | ⟨g, cap, cur, h, _⟩
  · exact ⟨none, 0, by rw [h, h']⟩
  · exact ⟨_, _, h⟩
theorem own_empty (W : World) (base e size b : Nat) (hb : b = W.heap.size) (h : base ≤ W.heap.size) : (W.alloc (.cells #[] e)).ownsRow base e size (.slice (some ⟨b, 0, none⟩) 0 0) 0 [] := by
  subst hb
  exact World.ownsRow_lit (base := base) (size := size) W #[] 0 h (by simp [maxLen]) (by simp)

section
variable {P : Program}
/-- A slice of given parts. -/
theorem wpList_bsl {ops : Array Oper} {rest : List Oper} {o : Oper} {a : Act} {w : World} {Q : Exit → Act → World → Prop} (hgd : o.guard = none) (ty : TypeId) (len : Nat) (l : List (Nat × Operand)) (ho : o.op = .buildSlice ty len l.toArray)
    (vals : List (Nat × Value)) (hv : l.map (fun p => (p.1, a.eval p.2)) = vals) (v : Value) (w' : World) (hb : (Instr.buildSlice ty len vals.toArray).run P w = .ok v w')
    (h : wpList P ops Q rest (a.put o.dst v) w') : wpList P ops Q (o :: rest) a w := by
  refine wpList_wanted (by simp [Region.wanted, hgd]) ?_
  subst hv
  unfold Oper.wp execOp
  simp only [ho, List.map_toArray, Sem.run_bind, hb, Result.andThen_ok, Sem.run_pure]
  exact h
/-- append(v, x): one element more. -/
theorem wpList_app1 {ops : Array Oper} {rest : List Oper} {o : Oper} {a : Act} {w : World} {Q : Exit → Act → World → Prop} (hgd : o.guard = none) (s x : Operand) (t : TypeId)
    (ho : o.op = .call { callee := .builtin .append, args := #[s, x], argTypes := #[t, t] })
    (base : Nat) (e : TypeId) (z : Value) (size bytes : Nat) (ht : P.underlying t = some (.slice e)) (hinfo : (P.info? e).map (fun i => (i.zero, i.size, i.bytes)) = some (some z, size, bytes))
    (hzs : z.cells.size = size) (hsz : 0 < size) (hby : 0 < bytes) (v : Value) (n : Nat) (xs : List Value) (hs : a.eval s = v) (hown : w.ownsRow base e size v n xs)
    (b : Nat) (hx : a.eval x = .slice (some ⟨b, 0, none⟩) 1 1) (ys : Array Value) (hy : blk w b ys e) (hys : ys.size = size) (h1 : flat ys)
    (hbytes : (n + 1) * bytes ≤ 140737488355328) (hbase : base ≤ w.heap.size)
    (h : ∀ v' w', w'.ownsRow base e size v' (n + 1) (xs ++ ys.toList) → w.grownBy w' v.ownBlock → (v'.ownBlock = v.ownBlock ∨ v'.ownBlock = some w.heap.size) → wpList P ops Q rest (a.put o.dst v') w') :
    wpList P ops Q (o :: rest) a w := by
  obtain ⟨i0, hi, hzz⟩ := Option.map_eq_some_iff.1 hinfo
  simp only [Prod.mk.injEq] at hzz
  obtain ⟨hz0, hz1, hz2⟩ := hzz
  refine wpList_append_own_at w hgd s x t ho base e i0 z size bytes ht hi hz0 hz1 hz2 hzs hsz v n xs hs hown ⟨b, 0, none⟩ 1 1 ys.toList hx (by simpa using hys) (fun j u hu => ?_) (flat_one h1) ?_ hbytes hbase (fun v' w' h2 h3 _ h5 => h v' w' h2 h3 h5)
  · rw [add_none, Nat.zero_add]
    exact hy.cell j u (by simpa using hu)
  · have : n + 1 ≤ (n + 1) * bytes := Nat.le_mul_of_pos_right _ hby
    simp only [maxLen]
    omega
end
end Go.Proofs.Ytinjjaoikofkdaa
