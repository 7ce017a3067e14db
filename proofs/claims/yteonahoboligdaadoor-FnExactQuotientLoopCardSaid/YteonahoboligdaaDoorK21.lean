/- append of cells that are known; lists of lists that are read. -/
import Derived.Test.YteonahoboligdaaDoorU1
import Derived.Test.YteonahoboligdaaDoorK20
namespace Go.Proofs.YteonahoboligdaaDoor
set_option linter.unusedSimpArgs false
set_option linter.unusedVariables false
open Go Go.RowKit

section
variable {P : Program} {D : Nat → Prop} {w0 w : World} {L : List Ent} {ops : Array Oper} {rest : List Oper} {o : Oper} {a : Act} {Q : Exit → Act → World → Prop}
set_option maxRecDepth 100000 in
theorem wpM_appx (M : Mm D w0 w L) (t i : Nat) (B : Nat) (v : Value) (n : Nat) (xs : List Value) (e bytes : Nat) (ad : Addr) (m c : Nat) (news : List Value) (ho : isApp o.op t = true) (hi : L[i]? = some (.row B v n xs e 1)) (hs : a.eval (appS o.op) = v) (hx : a.eval (appX o.op) = .slice (some ad) m c)
    (hgd : o.guard = none) (hB : w0.heap.size ≤ B ∨ ∀ k, v.ownBlock = some k → D k) (hBw : B ≤ w.heap.size) (hl : news.length = m) (hnews : ∀ j u, news[j]? = some u → w.cell? (ad.add j) = some u) (h1 : ∀ u ∈ news, u.oneCell' = true) {z : Value} (ht : P.underlying t = some (.slice e)) (hinfo : (P.info? e).map (fun i => (i.zero, i.size, i.bytes)) = some (some z, 1, bytes))
    (hzs : z.cells.size = 1) (h63 : n + m ≤ maxLen) (hbytes : (n + m) * bytes ≤ 140737488355328)
    (h : ∀ v' w', Far v' v w0.heap.size → Mm D w0 w' (L.set i (.row B v' (n + m) (xs ++ news) e 1)) → wpList P ops Q rest (a.put o.dst v') w') : wpList P ops Q (o :: rest) a w := by
  obtain ⟨i0, hi0, hzz⟩ := Option.map_eq_some_iff.1 hinfo
  simp only [Prod.mk.injEq] at hzz
  obtain ⟨hz0, hz1, hz2⟩ := hzz
  refine wpList_append_own_at w hgd (appS o.op) (appX o.op) t (isApp_spec ho) B e i0 z 1 bytes ht hi0 hz0 hz1 hz2 hzs (by decide) v n xs hs (M.row i hi) ad m c news hx (by omega) hnews h1 h63 hbytes hBw fun v' w' h2 h3 _ h5 => h v' w' ?_ (M.longer i hi hB h3 h2 ?_)
  · rcases h5 with h | h
    · exact .inl h
    · exact .inr ⟨_, h, M.size⟩
  · rcases h5 with h | h
    · exact .inl h
    · exact .inr ⟨_, h, Nat.le_refl _⟩
end

theorem rds.lat {w w' : World} {g n : Nat} {f : Nat → Value} (h : rds w g n f) (hb : Below w.heap.size w w') : rds w' g n f := Ent.holds_of (x := .rd g n f) h (.of_below hb no) fun _ _ h => h
/-- A list of numbers that is read. -/
def LRd (w : World) (h : Value) (l : List Nat) : Prop := ∃ g c, h = .slice (some ⟨g, 0, none⟩) l.length c ∧ rds w g l.length (i64F l)
theorem LRd.lat {w w' : World} {h : Value} {l : List Nat} (H : LRd w h l) (hb : Below w.heap.size w w') : LRd w' h l := let ⟨g, c, e, hr⟩ := H; ⟨g, c, e, hr.lat hb⟩
/-- What holds of the things of two lists at each place. -/
def Rel2 {α β : Type} (R : α → β → Prop) (a : List α) (b : List β) : Prop := a.length = b.length ∧ ∀ (i : Nat) (x : α) (y : β), a[i]? = some x → b[i]? = some y → R x y
theorem Rel2.ins {α β : Type} {R : α → β → Prop} {a : List α} {b : List β} (h : Rel2 R a b) {x : α} {y : β} (hxy : R x y) (k : Nat) : Rel2 R (a.take k ++ x :: a.drop k) (b.take k ++ y :: b.drop k) := by
  obtain ⟨hl, hr⟩ := h
  refine ⟨by simp; omega, fun i u v hu hv => ?_⟩
  have hla : (a.take k).length = min k a.length := List.length_take
  have hlb : (b.take k).length = min k b.length := List.length_take
  rcases Nat.lt_trichotomy i (a.take k).length with h1 | h1 | h1
  · rw [List.getElem?_append_left h1] at hu
    rw [List.getElem?_append_left (by omega)] at hv
    rw [List.getElem?_take, if_pos (by omega)] at hu hv
    exact hr i u v hu hv
  · rw [List.getElem?_append_right (by omega), show i - (a.take k).length = 0 by omega] at hu
    rw [List.getElem?_append_right (by omega), show i - (b.take k).length = 0 by omega] at hv
    simp at hu hv
    subst hu hv; exact hxy
  · obtain ⟨j, hj⟩ : ∃ j, i - (a.take k).length = j + 1 := ⟨i - (a.take k).length - 1, by omega⟩
    rw [List.getElem?_append_right (by omega), hj, List.getElem?_cons_succ, List.getElem?_drop] at hu
    rw [List.getElem?_append_right (by omega), show i - (b.take k).length = j + 1 by omega, List.getElem?_cons_succ, List.getElem?_drop] at hv
    exact hr _ u v hu hv
theorem Rel2.mono {α β : Type} {R S : α → β → Prop} {a : List α} {b : List β} (h : Rel2 R a b) (hrs : ∀ x y, R x y → S x y) : Rel2 S a b := ⟨h.1, fun i x y hx hy => hrs x y (h.2 i x y hx hy)⟩
/-- A list of lists of numbers that is read: hd are the slices of its rows. -/
def Lst (w : World) (g : Nat) (hd : List Value) (L : List (List Nat)) : Prop := rds w g L.length (fun j => hd.getD j undef) ∧ Rel2 (LRd w) hd L
theorem Lst.lat {w w' : World} {g : Nat} {hd : List Value} {L : List (List Nat)} (H : Lst w g hd L) (hb : Below w.heap.size w w') : Lst w' g hd L := ⟨H.1.lat hb, H.2.mono fun _ _ h => h.lat hb⟩
theorem Lst.cell {w : World} {g : Nat} {hd : List Value} {L : List (List Nat)} (H : Lst w g hd L) {i : Nat} {l : List Nat} (h : L[i]? = some l) : ∃ gi ci, hd[i]? = some (.slice (some ⟨gi, 0, none⟩) l.length ci) ∧ w.cell? ⟨g, i, none⟩ = some (.slice (some ⟨gi, 0, none⟩) l.length ci) ∧ rds w gi l.length (i64F l) := by
  have hi := (List.getElem?_eq_some_iff.1 h).1
  have hl := H.2.1
  have e : hd[i]? = some (hd[i]'(by omega)) := List.getElem?_eq_getElem _
  obtain ⟨gi, ci, e2, hr⟩ := H.2.2 i _ l e h
  rw [e2] at e
  have h3 := H.1.at_ i hi
  rw [List.getD_eq_getElem?_getD, e] at h3
  exact ⟨gi, ci, e, h3, hr⟩
theorem Lst.news {w : World} {g : Nat} {hd : List Value} {L : List (List Nat)} (H : Lst w g hd L) {k : Nat} {ad : Addr} (hk : k = L.length ∨ ad = ⟨g, k, none⟩) : ∀ j u, (hd.drop k)[j]? = some u → w.cell? (ad.add j) = some u := fun j u hu => by
  rw [List.getElem?_drop] at hu
  have hl := H.2.1
  have hi := (List.getElem?_eq_some_iff.1 hu).1
  rcases hk with h | rfl
  · omega
  · rw [add_none, H.1.at_ (k + j) (by omega), List.getD_eq_getElem?_getD, hu]; rfl
theorem Lst.newsT {w : World} {g : Nat} {hd : List Value} {L : List (List Nat)} (H : Lst w g hd L) (k : Nat) : ∀ j u, (hd.take k)[j]? = some u → w.cell? ((⟨g, 0, none⟩ : Addr).add j) = some u := fun j u hu => by
  have hl := H.2.1
  rw [List.getElem?_take] at hu
  split at hu
  · have hi := (List.getElem?_eq_some_iff.1 hu).1
    rw [add_none, Nat.zero_add, H.1.at_ j (by omega), List.getD_eq_getElem?_getD, hu]; rfl
  · cases hu
theorem Lst.one {w : World} {g : Nat} {hd : List Value} {L : List (List Nat)} (H : Lst w g hd L) : ∀ u ∈ hd, u.oneCell' = true := fun u hu => by
  obtain ⟨i, hi⟩ := List.getElem?_of_mem hu
  have hl := H.2.1
  have h2 := (List.getElem?_eq_some_iff.1 hi).1
  obtain ⟨gi, ci, e, _⟩ := H.2.2 i u _ hi (List.getElem?_eq_getElem (show i < L.length by omega))
  subst e; rfl
end Go.Proofs.YteonahoboligdaaDoor
