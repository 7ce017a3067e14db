/- The sort of a short list of numbers: a contract out of the shelf's. -/
import Derived.Test.YteonahoboligdaaE2
import Derived.Shelf.SlGeneric
import Derived.Shelf.SortM.Plain
import Derived.Ground.SlgmProg
import Derived.Sort.OwnSortedInts
namespace Go.Proofs
open Go.RowKit Go.Sort Go.Shelf
shelf_lay_g SlLaysM.n5 Slgm 5 at Try 60 as Try.sortA
theorem Try.sortI (blk off cap : Nat) (zs : List Int) (w : World) (hH : Holds (Value.int .i64) w blk off zs.toArray) (hblk : blk < w.heap.size) (hsz : zs.length < 4611686018427387904) :
    Calls Try.prog 60 #[.slice (some ⟨blk, off, none⟩) zs.length cap] w fun e w' =>
      e = .returned (.tuple #[]) ∧ ∃ n os, w' = grow (putRow (Value.int .i64) (Sort.ahead w n) blk off (zs.mergeSort fun x y => decide (x ≤ y)).toArray) os :=
  AnyM.slices_Sort_int Try.sortA blk off cap zs w hH hblk hsz
end Go.Proofs

namespace Go.Proofs.Yteonahoboligdaa
set_option linter.unusedSimpArgs false
set_option linter.unusedVariables false
open Go Go.RowKit Go.Sort
theorem i64N_map (l : List Nat) : i64N l = (l.map fun x : Nat => (x : Int)).map (Value.int .i64) := by simp [i64N]
theorem sort_cast (l : List Nat) : (l.map fun x : Nat => (x : Int)).mergeSort (fun x y => decide (x ≤ y)) = (l.mergeSort fun x y => decide (x ≤ y)).map fun x : Nat => (x : Int) :=
  (List.map_mergeSort fun a _ b _ => decide_eq_decide.2 (by omega)).symm
theorem sort_row (l : List Nat) (hl : 1 ≤ l.length) (hl2 : l.length ≤ 1000) (B : Nat) (v : Value) (w : World) (h : w.ownsRow B 2 1 v l.length (i64N l)) :
    Calls Try.prog 60 #[v] w fun e w' => e = .returned (.tuple #[]) ∧ Below B w w' ∧ w'.ownsRow B 2 1 v l.length (i64N (l.mergeSort fun x y => decide (x ≤ y))) := by
  rcases h.2 with ⟨h0, _⟩ | ⟨g, cap, cur, rfl, hb, hh, h1, h2, h3, h4⟩
  · omega
  · have hlen : (l.map fun x : Nat => (x : Int)).length = l.length := List.length_map ..
    rw [i64N_map, Nat.mul_one, ← hlen] at h4
    have hH := holds_of_blockI hh h4
    have hg : g < w.heap.size := (Array.getElem?_eq_some_iff.1 hh).1
    have hS := Try.sortI g 0 cap _ w hH hg (by rw [hlen]; omega)
    rw [hlen, sort_cast] at hS
    refine hS.mono ?_
    rintro e w' ⟨rfl, n, os, rfl⟩
    have hgr := grownBy_sortedI (n := n) (os := os) (w := w) (g := g) ((l.mergeSort fun x y => decide (x ≤ y)).map fun x : Nat => (x : Int)).toArray
    refine ⟨rfl, ?_, ?_⟩
    · obtain ⟨a1, a2, a3, a4, a5⟩ := hgr
      exact ⟨a1, a2, a3, a4, fun k hk => a5 k (by omega) fun e => by cases e; omega⟩
    · have := ownsRow_sortedI (n := n) (os := os) (ss := l.map fun x : Nat => (x : Int)) (ts := (l.mergeSort fun x y => decide (x ≤ y)).map fun x : Nat => (x : Int)) (by simp [List.length_mergeSort]) hb hh (by rw [hlen]; exact h1) h2 h3
      rw [hlen] at this
      rw [i64N_map]; exact this
end Go.Proofs.Yteonahoboligdaa
