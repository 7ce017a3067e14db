/- All isotopisms, as plain lists. -/
import Derived.Test.YtinjjaoikofkdaaM
import Derived.Test.YtinjjaoikofkdaaK3
namespace Go.Proofs.Ytinjjaoikofkdaa
set_option linter.unusedSimpArgs false
set_option linter.unusedVariables false

structure Tri where
  f : Nat → Nat
  g : Nat → Nat
  h : Nat → Nat
def trC (x : Tri) : Array Value := trs x.f x.g x.h
def tlCells (l : List Tri) : List Value := l.flatMap fun x => (trC x).toList
theorem tlCells_snoc (l : List Tri) (x : Tri) : tlCells (l ++ [x]) = tlCells l ++ (trC x).toList := by simp [tlCells]
/-- The isotopism that an isomorphism of loops gives. -/
def ownT (N : Nat) (t u : Nat → Nat → Nat) (a b : Nat) (p : List Nat) : Tri :=
  ⟨thTo (thTo (toF N t 0 0) (fun i => p.getD i 0) N) (bkTo (toF N u a b) N) N, thTo (thTo (toG N t 0 0) (fun i => p.getD i 0) N) (bkTo (toG N u a b) N) N, thTo (thTo (toH N t 0 0) (fun i => p.getD i 0) N) (bkTo (toH N u a b) N) N⟩
noncomputable def istP (N : Nat) (t u : Nat → Nat → Nat) (a b : Nat) : List (List Nat) := isos N (loopAt N t 0 0) (loopAt N u a b) fun _ => none
noncomputable def istB (N : Nat) (t u : Nat → Nat → Nat) (a b : Nat) : List Tri := (istP N t u a b).map (ownT N t u a b)
noncomputable def istA (N : Nat) (t u : Nat → Nat → Nat) (a : Nat) : List Tri := (List.range N).flatMap fun b => istB N t u a b
noncomputable def ists (N : Nat) (t u : Nat → Nat → Nat) : List Tri := (List.range N).flatMap fun a => istA N t u a
theorem istP_len {N : Nat} {t u : Nat → Nat → Nat} (h0 : 1 ≤ N) (h1 : N ≤ 10) (ht : Lat N t) (hu : Lat N u) {a b : Nat} (ha : a < N) (hb : b < N) : (istP N t u a b).length ≤ 1000000 :=
  iso_most h1 (lat_loopAt ht (by omega) (by omega)) (lat_loopAt hu ha hb).lt
theorem istP_lt {N : Nat} {t u : Nat → Nat → Nat} {a b : Nat} {p : List Nat} (hp : p ∈ istP N t u a b) : ∀ i, p.getD i 0 < N ∨ p.getD i 0 = 0 := fun i => by
  obtain ⟨⟨h1, h2⟩, _⟩ := mem_isos.1 hp
  rcases Nat.lt_or_ge i p.length with h | h
  · exact .inl (h2 _ (by rw [List.getD_eq_getElem?_getD, List.getElem?_eq_getElem h]; exact List.getElem_mem h))
  · exact .inr (by rw [List.getD_eq_getElem?_getD, List.getElem?_eq_none h]; rfl)
theorem sq_lt10 {N : Nat} {t : Nat → Nat → Nat} (h : IsSq (N : Int) t) : ∀ x y : Nat, x < 10 → y < 10 → t x y < 10 := fun x y hx hy => by
  have hi := h.hi
  have lo := h.lo
  rcases Int.lt_or_le (x : Int) N with h1 | h1
  · have hr := h.rows.row x hx h1
    rcases Int.lt_or_le (y : Int) N with h2 | h2
    · have := hr.lt y hy h2; omega
    · have := hr.zero y hy h2; omega
  · have := h.rows.zero x y hx hy h1; omega
end Go.Proofs.Ytinjjaoikofkdaa
