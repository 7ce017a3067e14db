/- The count of draws never goes down; what a call has made, told as a growth; append and buildSlice with the count of draws. -/
import Derived.Test.YteonahoboligdaaDoorK12
import Derived.Sort.Grow
namespace Go.Proofs.YteonahoboligdaaDoor
set_option linter.unusedSimpArgs false
set_option linter.unusedVariables false
open Go Go.RowKit

theorem ask_drawn {α : Type} : ∀ (k : Ask α) (w : World), w.drawn ≤ (w.ask k).2.drawn
  | .done a, w => by simp [World.ask]
  | .ask what range k, w => by
    simp only [World.ask]
    split
    · exact ask_drawn (k 0) w
    · refine Nat.le_trans ?_ (ask_drawn _ _)
      exact Nat.le_succ _
theorem sys_drawn (w : World) (c : Sys) : w.drawn ≤ (w.sys c).2.drawn := by
  have h := ask_drawn (Kernel.perform c w.os) w
  unfold World.sys
  split
  · exact Nat.le_refl _
  · rename_i e; rw [e] at h; exact h
theorem viewStore_drawn {p : Program} {w w' : World} {at_ : Addr} {u : TypeId} {k : Addr} {v : Value} {b : Bool} {l : List Addr} (h : w.viewStore p at_ u k v b = .ok (w', l)) : w'.drawn = w.drawn := by
  simp only [World.viewStore, bind, Except.bind, pure, Except.pure, throw, throwThe, MonadExceptOf.throw] at h
  repeat' (first | contradiction | split at h)
  all_goals (simp only [Except.ok.injEq, Prod.mk.injEq] at h; obtain ⟨rfl, _⟩ := h; rfl)
theorem farStore_drawn {p : Program} {w w' : World} {a : Addr} {v : Value} {b : Bool} {l : List Addr} (h : w.farStore p a v b = .ok (w', l)) : w'.drawn = w.drawn := by
  unfold World.farStore at h
  split at h
  · split at h
    · rename_i e; cases h; exact viewStore_drawn e
    · cases h
  · cases h
theorem run_drawn {α : Type} (p : Program) (e : Sem α) : ∀ (w : World) (a : α) (w' : World), e.run p w = .ok a w' → w.drawn ≤ w'.drawn := by
  induction e with
  | pure a => intro w b w' h; simp only [Sem.run, Result.ok.injEq] at h; obtain ⟨_, rfl⟩ := h; exact Nat.le_refl _
  | load m a k ih =>
    intro w b w' h
    simp only [Sem.run] at h
    split at h
    · exact ih _ _ _ _ h
    · split at h
      · exact ih _ _ _ _ h
      · cases h
  | store m a v k ih =>
    intro w b w' h
    have key : (match w.cell? a with
      | some _ => if w.frozen? a then Result.halt (.unsupported (.unsafePointer "a write to bytes that a string shares")) w else k.run p (w.setCell a v)
      | none => match w.farStore p a v (m == Go.Mode.atomic) with
        | .ok (w, _) => k.run p w
        | .error h => .halt h w) = .ok b w' → w.drawn ≤ w'.drawn := fun h => by
      split at h
      · split at h
        · cases h
        · have h9 : (w.setCell a v).drawn ≤ w'.drawn := ih _ _ _ h
          exact h9
      · split at h
        · rename_i e
          have := ih _ _ _ h
          rw [farStore_drawn e] at this; exact this
        · cases h
    cases v <;> simp only [Sem.run] at h <;> first | exact key h | cases h
  | new o k ih =>
    intro w b w' h
    simp only [Sem.run] at h
    have h9 := ih _ _ _ _ h
    exact h9
  | shape r k ih => intro w b w' h; exact ih _ _ _ _ h
  | freeze a n k ih =>
    intro w b w' h
    have := ih _ _ _ h
    unfold World.freeze at this
    split at this <;> exact this
  | frozen a k ih => intro w b w' h; exact ih _ _ _ _ h
  | getObj r k ih =>
    intro w b w' h
    simp only [Sem.run] at h
    split at h
    · cases h
    · exact ih _ _ _ _ h
    · cases h
  | setObj r o k ih =>
    intro w b w' h
    simp only [Sem.run] at h
    split at h
    · cases h
    · have h9 := ih _ _ _ h
      exact h9
    · cases h
  | choose q k ih =>
    intro w b w' h
    simp only [Sem.run] at h
    split at h
    · exact ih _ _ _ _ h
    · exact Nat.le_trans (Nat.le_succ _) (ih _ _ _ _ h)
  | sys c k ih => intro w b w' h; exact Nat.le_trans (sys_drawn w c) (ih _ _ _ _ h)
  | program k ih => intro w b w' h; exact ih _ _ _ _ h
  | mark m k ih => intro w b w' h; exact ih _ _ _ h
  | halt h => intro w b w' h; cases h

/-- What a call has made, as a growth of the world. -/
theorem grow_of_below {w w' : World} (h : Below w.heap.size w w') (hd : w.drawn ≤ w'.drawn) : ∃ q os, w' = Go.Sort.grow (w.drewN q) os := by
  refine ⟨w'.drawn - w.drawn, w'.heap.extract w.heap.size w'.heap.size, ?_⟩
  have hh : w'.heap = w.heap ++ w'.heap.extract w.heap.size w'.heap.size := by
    apply Array.ext_getElem?
    intro k
    rcases Nat.lt_or_ge k w.heap.size with hk | hk
    · rw [Array.getElem?_append_left hk]; exact h.block k hk
    · rw [Array.getElem?_append_right hk, Array.getElem?_extract]
      have := h.size
      by_cases hk2 : k < w'.heap.size
      · rw [if_pos (by omega)]; congr 1; omega
      · rw [Array.getElem?_eq_none (by omega), if_neg (by omega)]
  cases w
  cases w'
  obtain ⟨h1, h2, h3, _, _⟩ := h
  simp only [World.drewN, Go.Sort.grow] at *
  subst h1 h2 h3
  simp only [World.mk.injEq, true_and, and_true]
  exact ⟨hh, by omega⟩

section
variable {P : Program} {D : Nat → Prop} {w0 w : World} {L : List Ent} {ops : Array Oper} {rest : List Oper} {o : Oper} {a : Act} {Q : Exit → Act → World → Prop}
/-- A slice of given parts; the count of draws stays. -/
theorem wpM_bslD (M : Mm D w0 w L) (hd0 : w0.drawn ≤ w.drawn) (ty len e : Nat) (vals : List (Nat × Value)) (cs : Array Value) (ho : isBsl o.op ty len = true) (hgd : o.guard = none) (hv : (bslParts o.op).map (fun p => (p.1, a.eval p.2)) = vals)
    (hb : ∀ w : World, (Instr.buildSlice ty len vals.toArray).run P w = .ok (.slice (some ⟨w.heap.size, 0, none⟩) len len) (w.alloc (.cells cs e)))
    (h : ∀ b w', w0.heap.size ≤ b → w0.drawn ≤ w'.drawn → Mm D w0 w' (.box b cs e :: L) → wpList P ops Q rest (a.put o.dst (.slice (some ⟨b, 0, none⟩) len len)) w') : wpList P ops Q (o :: rest) a w :=
  wpList_bsl hgd ty len _ (isBsl_spec ho) vals hv _ _ (hb w) (h _ _ M.size hd0 (M.alloc _ _))
set_option maxRecDepth 100000 in
/-- append of one element; the count of draws does not go down. -/
theorem wpM_appD (M : Mm D w0 w L) (hd0 : w0.drawn ≤ w.drawn) (t i k : Nat) (B : Nat) (v : Value) (n : Nat) (xs : List Value) (e size bytes : Nat) (ho : isApp o.op t = true) (hi : L[i]? = some (.row B v n xs e size)) (hk : isBox L k = true) (hs : a.eval (appS o.op) = v) (hx : a.eval (appX o.op) = .slice (some ⟨entBlk L k, 0, none⟩) 1 1)
    (hT : entT L k = e) (hgd : o.guard = none) (hB : w0.heap.size ≤ B ∨ ∀ k, v.ownBlock = some k → D k) (hBw : B ≤ w.heap.size) (z : Value) (ht : P.underlying t = some (.slice e)) (hinfo : (P.info? e).map (fun i => (i.zero, i.size, i.bytes)) = some (some z, size, bytes))
    (hzs : z.cells.size = size) (hsz : 0 < size) (hby : 0 < bytes) (ys : Array Value) (hys' : entCells L k = ys) (hys : ys.size = size) (h1 : flat ys) (hbytes : (n + 1) * bytes ≤ 140737488355328)
    (h : ∀ v' w', Far v' v w0.heap.size → w0.drawn ≤ w'.drawn → Mm D w0 w' (L.set i (.row B v' (n + 1) (xs ++ ys.toList) e size)) → wpList P ops Q rest (a.put o.dst v') w') : wpList P ops Q (o :: rest) a w := by
  subst hT hys'
  have hox := isApp_spec ho
  clear ho
  generalize appS o.op = s9 at *
  generalize appX o.op = x9 at *
  obtain ⟨i0, hi0, hzz⟩ := Option.map_eq_some_iff.1 hinfo
  simp only [Prod.mk.injEq] at hzz
  obtain ⟨hz0, hz1, hz2⟩ := hzz
  have hyb := M.box k (isBox_spec hk)
  refine wpList_plain hgd fun K hK => ?_
  obtain ⟨v', w', hr, h2, h3, h4, h5⟩ := run_append_own_at (P := P) w B t o.type _ i0 z size bytes ht hi0 hz0 hz1 hz2 hzs hsz v n xs (M.row i hi) ⟨entBlk L k, 0, none⟩ 1 1 (entCells L k).toList (by simpa using hys) (fun j u hu => by
    rw [add_none, Nat.zero_add]
    exact hyb.cell j u (by simpa using hu)) (flat_one h1) (by
    have : n + 1 ≤ (n + 1) * bytes := Nat.le_mul_of_pos_right _ hby
    simp only [maxLen]
    omega) hbytes hBw
  have hd := run_drawn P _ _ _ _ hr
  unfold Oper.wp execOp
  simp only [hox, resolve, invoke, builtin, Sem.run_bind, Sem.run_pure, Result.andThen_ok, List.map_toArray, List.map_cons, List.map_nil, hs, hx, hr]
  refine hK _ _ (h v' w' ?_ (Nat.le_trans hd0 hd) (M.longer i hi hB h3 h2 ?_))
  · rcases h5 with h | h
    · exact .inl h
    · exact .inr ⟨_, h, M.size⟩
  · rcases h5 with h | h
    · exact .inl h
    · exact .inr ⟨_, h, Nat.le_refl _⟩
end
end Go.Proofs.YteonahoboligdaaDoor
