/- Lists of numbers handed back with a code; rows that are marked. -/
import Derived.Test.YteonahoboligdaaDoorI1
namespace Go.Proofs.YteonahoboligdaaDoor
set_option linter.unusedSimpArgs false
set_option linter.unusedVariables false
open Go Go.RowKit

def i64s (l : List Int) : List Value := l.map fun i => .int .i64 i
def FaPost (out : List Int) (code : Int) (w : World) (e : Ending) (w' : World) : Prop :=
  ∃ v, e = .returned (.tuple #[v, .int .i64 code]) ∧ Mm no w w' [.row w.heap.size v out.length (i64s out) 2 1]

theorem FaPost.nil {w w' : World} {L : List Ent} (M : Mm no w w' L) (c : Int) : FaPost [] c w (.returned (.tuple #[.slice none 0 0, .int .i64 c])) w' :=
  ⟨_, rfl, (M.sub [] (by decide)).nilRow w.heap.size 2 1⟩
theorem FaPost.three {w w' : World} {g x y z : Nat} (M : Mm no w w' [.box g #[.int .i64 (x : Int), .int .i64 (y : Int), .int .i64 (z : Int)] 2]) (hg : w.heap.size ≤ g) : FaPost [(x : Int), (y : Int), (z : Int)] 0 w (.returned (.tuple #[.slice (some ⟨g, 0, none⟩) 3 3, .int .i64 0])) w' :=
  ⟨_, rfl, M.asRow 0 rfl w.heap.size 3 1 hg rfl (by decide)⟩

theorem i64s_len (l : List Int) : (i64s l).length = l.length := by simp [i64s]
theorem i64s_get (l : List Int) {j : Nat} (hj : j < l.length) : (i64s l).getD j undef = intF l j := by
  unfold intF elI i64s
  rw [List.getD_eq_getElem?_getD, List.getD_eq_getElem?_getD, List.getElem?_map, List.getElem?_eq_getElem hj]
  rfl
/-- A list that a slice with a row of its own holds, read. -/
theorem fa_read {w : World} {B : Nat} {v : Value} {out : List Int} (h : w.ownsRow B 2 1 v out.length (i64s out)) : ∃ p c, v = .slice p out.length c ∧ rdq w p out.length (intF out) := by
  obtain ⟨p, c, rfl⟩ := own_form h
  have hr := rdq_of_own h
  rw [Nat.mul_one] at hr
  exact ⟨p, c, rfl, hr.congr fun j hj => i64s_get out hj⟩
theorem FaPost.nil2 {w w' : World} (hb : Below w.heap.size w w') (c : Int) : FaPost [] c w (.returned (.tuple #[.slice none 0 0, .int .i64 c])) w' :=
  ⟨_, rfl, ((Mm.start no w).later hb).nilRow w.heap.size 2 1⟩

theorem i64s_app (a b : List Int) : i64s (a ++ b) = i64s a ++ i64s b := by simp [i64s]
theorem Mm.join2 {D : Nat → Prop} {w0 w w' : World} {L : List Ent} {x y : Ent} (M : Mm D w0 w L) (M' : Mm no w w' [x, y]) (hn : ∀ z ∈ [x, y], ∀ b, z.place b → w.heap.size ≤ b) : Mm D w0 w' (x :: y :: L) := M.join M' hn
theorem new_row {w w' : World} {v : Value} {n : Nat} {xs : List Value} {e size : Nat} (M : Mm no w w' [.row w.heap.size v n xs e size]) : ∀ x ∈ [Ent.row w.heap.size v n xs e size], ∀ b, x.place b → w.heap.size ≤ b := fun x hx b hb => by
  simp only [List.mem_singleton] at hx; subst hx
  exact (World.ownsRow.lt (M.row 0 rfl) b hb).1
/-- Two new boxes that a call has written to are no longer told of. -/
theorem Mm.lose2 {w0 w w' : World} {g1 g2 t1 t2 : Nat} {cs1 cs2 : Array Value} {L : List Ent} (M : Mm no w0 w (.box g1 cs1 t1 :: .box g2 cs2 t2 :: L)) (h1 : w0.heap.size ≤ g1) (h2 : w0.heap.size ≤ g2) (hk : Kept (fun b => b = g1 ∨ b = g2) w w') : Mm no w0 w' L := by
  refine (Mm.suffix (Lg := [_, _]) M).go hk (fun k hk hE => ?_) fun x hx b hb hE => ?_
  · rcases hE with rfl | rfl <;> omega
  · obtain ⟨i, hi⟩ := List.getElem?_of_mem hx
    rcases hE with rfl | rfl
    · exact M.dist 0 (i + 2) _ x rfl (by simpa using hi) (by omega) b rfl hb
    · exact M.dist 1 (i + 2) _ x rfl (by simpa using hi) (by omega) b rfl hb
/-- A row that is ours is written by a call. -/
theorem Mm.rowmark {w0 w w' : World} {L : List Ent} (M : Mm no w0 w L) (i : Nat) {B : Nat} {v : Value} {n : Nat} {xs ys : List Value} {e size : Nat} (hi : L[i]? = some (.row B v n xs e size)) (hB : w0.heap.size ≤ B) (hk : Kept (fun b => v.ownBlock = some b) w w') (h : w'.ownsRow B e size v n ys) : Mm no w0 w' (L.set i (.row B v n ys e size)) :=
  M.set i hi hk (fun _ h => h) (fun k hk h => by have := (World.ownsRow.lt (M.row i hi) k h).1; omega) h fun _ h => .inl h
theorem fa_rdq {w : World} {B n c : Nat} {p : Option Addr} {out : List Int} (hn : n = out.length) (h : w.ownsRow B 2 1 (.slice p n c) n (i64s out)) : rdq w p out.length (intF out) := by
  subst hn
  obtain ⟨p', c', e, hr⟩ := fa_read h
  cases e
  exact hr
theorem mk_rdq {w : World} {B n c : Nat} {p : Option Addr} {k : Int} (h : w.ownsRow B 2 1 (.slice p n c) n (mkV k n)) : rdq w p n (fun j => .int .i64 (k + (j : Int))) := by
  have hr := rdq_of_own h
  rw [Nat.mul_one] at hr
  exact hr.congr fun j hj => by rw [List.getD_eq_getElem?_getD, mkV_get hj]; rfl
/-- A row is cut short. -/
theorem own_cut {w : World} {B e g n cap : Nat} {xs : List Value} (h : w.ownsRow B e 1 (.slice (some ⟨g, 0, none⟩) n cap) n xs) {m : Nat} (hm : m ≤ n) : w.ownsRow B e 1 (.slice (some ⟨g, 0, none⟩) m cap) m (xs.take m) := by
  obtain ⟨hl, h | ⟨g', cap', cur, e1, hB, hb, hn, hc, hs, ht⟩⟩ := h
  · cases h.1
  · cases e1
    refine ⟨by rw [List.length_take]; omega, .inr ⟨g, cap, cur, rfl, hB, hb, by omega, hc, hs, ?_⟩⟩
    rw [← ht, List.take_take]
    congr 1; omega
theorem own_cap {w : World} {B e g n cap size : Nat} {xs : List Value} (h : w.ownsRow B e size (.slice (some ⟨g, 0, none⟩) n cap) n xs) : n ≤ cap ∧ cap ≤ maxLen := by
  obtain ⟨_, h | ⟨g', cap', cur, e1, _, _, hn, hc, _⟩⟩ := h
  · cases h.1
  · cases e1; exact ⟨hn, hc⟩
theorem Mm.cutRow {D : Nat → Prop} {w0 w : World} {L : List Ent} (M : Mm D w0 w L) (i : Nat) {B g n cap e : Nat} {xs : List Value} (hi : L[i]? = some (.row B (.slice (some ⟨g, 0, none⟩) n cap) n xs e 1)) {m : Nat} (hm : m ≤ n) : Mm D w0 w (L.set i (.row B (.slice (some ⟨g, 0, none⟩) m cap) m (xs.take m) e 1)) :=
  M.set i hi (.refl no w) (fun _ h => h.elim) (fun _ _ h => h.elim) (own_cut (M.row i hi) hm) fun k h => .inl h
end Go.Proofs.YteonahoboligdaaDoor
