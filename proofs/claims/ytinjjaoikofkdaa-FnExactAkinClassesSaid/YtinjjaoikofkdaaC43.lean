/- The law on valid books: its walk. -/
import Derived.Test.YtinjjaoikofkdaaC36
import Derived.Test.YtinjjaoikofkdaaC42
namespace Go.Proofs.Ytinjjaoikofkdaa
set_option linter.unusedSimpArgs false
set_option linter.unusedVariables false
open Go Go.RowKit

theorem und_bk0 : Try.prog.underlying 25 = some (.struct (Try.prog.fieldsOf 25)) := by kernel_rfl
theorem inf_bk0 : (Try.prog.info? 25).map (·.size) = some 2 := by kernel_rfl
theorem bkv_size (p1 : Option Addr) (c1 : Nat) (p2 : Option Addr) (c2 n m : Nat) : (bkV p1 c1 p2 c2 n m).size = 2 := rfl
/-- What is known of a book that comes in and is not too large. -/
structure BkIn (ns : List ByteArray) (ls : List Sqr) : Prop where
  n : ns.length ≤ 1048576
  m : ls.length ≤ 1048576
  s : ∀ x ∈ ns, x.size ≤ 1048576
  b : ∀ q ∈ ls, Byt2 q.t
/-- What is known of a book in new memory. -/
structure BkHere (ns : List ByteArray) (ls : List Sqr) (w : World) (g1 g2 : Nat) : Prop where
  r1 : rds w g1 ns.length (nmF ns)
  r2 : rds w g2 (ls.length * 101) (fun j => (slC ls).getD j undef)
  ne : g1 ≠ g2
theorem BkHere.of {D : Nat → Prop} {w0 w : World} {L : List Ent} (M : Mm D w0 w L) (i j : Nat) (hij : i ≠ j) {ns : List ByteArray} {ls : List Sqr} {g1 g2 : Nat} {cs1 cs2 : Array Value} (h1 : L[i]? = some (.box g1 cs1 9)) (h2 : L[j]? = some (.box g2 cs2 43)) (hs1 : strC ns cs1) (hs2 : sqaC ls cs2) : BkHere ns ls w g1 g2 :=
  ⟨(M.box i h1).rds hs1.2, (M.box j h2).rds hs2.2, fun e => M.dist i j _ _ h1 h2 hij g1 rfl e.symm⟩
theorem BkHere.later {ns : List ByteArray} {ls : List Sqr} {w w' : World} {g1 g2 : Nat} (h : BkHere ns ls w g1 g2) (hb : Below w.heap.size w w') : BkHere ns ls w' g1 g2 := ⟨h.r1.later hb, h.r2.later hb, h.ne⟩
theorem eqBookA_any {ns : List ByteArray} {ls : List Sqr} (h : BkIn ns ls) (w : World) {g1 g2 g3 g4 : Nat} (h1 : BkHere ns ls w g1 g2) (h2 : BkHere ns ls w g3 g4) (c1 c2 c3 c4 : Nat) :
    Calls Try.prog 11 #[.agg (bkA g1 c1 g2 c2 ns.length ls.length), .agg (bkA g3 c3 g4 c4 ns.length ls.length)] w fun e w' => e = .returned (.bool true) ∧ Below w.heap.size w w' :=
  eqBook_any ns ls (by have := h.n; omega) (by have := h.m; omega) w _ _ _ _ c1 c2 c3 c4 h1.r1.rdq h1.r2.rdq h2.r1.rdq h2.r2.rdq
theorem isBookP_any {ns : List ByteArray} {ls : List Sqr} (h : BkIn ns ls) (w : World) {g1 g2 : Nat} (h1 : BkHere ns ls w g1 g2) (c1 c2 : Nat) (hc : ns.length ≤ c1) :
    Calls Try.prog 47 #[.agg (bkA g1 c1 g2 c2 ns.length ls.length)] w fun e w' => e = .returned (.bool (isBk ns ls)) ∧ Below w.heap.size w w' := by
  rw [← isBkI_eq ns ls h.b]
  exact isBookI_any ns ls h.n h.m h.s h.b w g1 c1 g2 c2 hc h1.r1 h1.r2
theorem l11IsP_any {ns : List ByteArray} {ls : List Sqr} (h : BkIn ns ls) (w : World) {g1 g2 : Nat} (h1 : BkHere ns ls w g1 g2) (c1 c2 : Nat) :
    Calls Try.prog 40 #[.agg (bkA g1 c1 g2 c2 ns.length ls.length)] w fun e w' => e = .returned (.bool (isBk ns ls)) ∧ Below w.heap.size w w' :=
  l11Is_any ns ls h.n h.m h.s h.b w g1 c1 g2 c2 h1.r1 h1.r2 h1.ne


/-- A book in new memory that floats. -/
def StBk (ns : List ByteArray) (ls : List Sqr) : List Value → List Ent → Prop
  | [], Lg => Lg = []
  | v :: _, Lg => ∃ g1 g2 cs1 cs2, v = .agg (bkA g1 ns.length g2 ls.length ns.length ls.length) ∧ strC ns cs1 ∧ sqaC ls cs2 ∧ Lg = [.box g1 cs1 9, .box g2 cs2 43]


end Go.Proofs.Ytinjjaoikofkdaa
