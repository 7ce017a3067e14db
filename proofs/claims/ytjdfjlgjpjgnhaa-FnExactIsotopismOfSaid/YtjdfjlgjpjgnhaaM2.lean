/- Permutations, triples and isotopes as plain functions. -/
import Derived.Test.YtjdfjlgjpjgnhaaM
namespace Go.Proofs.Ytjdfjlgjpjgnhaa

/-- The first k numbers, each at its own place. -/
def idTo (k : Nat) : Nat → Nat := fun i => if i < k then i else 0
/-- p then q, as far as k. -/
def thTo (p q : Nat → Nat) (k : Nat) : Nat → Nat := fun i => if i < k then q (p i) else 0
/-- What leads back the first k places. -/
def bkTo (p : Nat → Nat) : Nat → Nat → Nat
  | 0 => fun _ => 0
  | k + 1 => fun v => if v = p k then k else bkTo p k v
/-- A column, as far as k. -/
def clTo (t : Nat → Nat → Nat) (y k : Nat) : Nat → Nat := fun x => if x < k then t x y else 0

theorem grow_ext {f : Nat → Nat} {k v : Nat} : (bys fun j => if j < k then f j else 0).setIfInBounds k (.int .u8 (v : Int)) = bys fun j => if j = k then v else if j < k then f j else 0 := bys_set _ _ _
theorem idTo_set (k : Nat) : (bys (idTo k)).setIfInBounds k (.int .u8 (k : Int)) = bys (idTo (k + 1)) := bys_grow (fun i => i) k
theorem thTo_set (p q : Nat → Nat) (k : Nat) : (bys (thTo p q k)).setIfInBounds k (.int .u8 (q (p k) : Int)) = bys (thTo p q (k + 1)) := bys_grow (fun i => q (p i)) k
theorem clTo_set (t : Nat → Nat → Nat) (y k : Nat) : (bys (clTo t y k)).setIfInBounds k (.int .u8 (t k y : Int)) = bys (clTo t y (k + 1)) := bys_grow (fun i => t i y) k
theorem bkTo_set (p : Nat → Nat) (k : Nat) : (bys (bkTo p k)).setIfInBounds (p k) (.int .u8 (k : Int)) = bys (bkTo p (k + 1)) := bys_set _ _ _
theorem clTo_all (t : Nat → Nat → Nat) (y : Nat) : ∀ i, i < 10 → clTo t y 10 i = (fun x => t x y) i := fun i hi => by simp [clTo, hi]
/-- 0 and e exchanged among the first N numbers. -/
def xch (N e : Nat) : Nat → Nat := fun i => if i = e then 0 else if i = 0 then e else idTo N i
/-- The table to which three maps lead a table of order N, behind m steps. -/
def isoW (N : Nat) (t : Nat → Nat → Nat) (f g h : Nat → Nat) : Nat → Nat → Nat → Nat
  | 0 => fun _ _ => 0
  | m + 1 => fun i j => if i = f (m / N) ∧ j = g (m % N) then h (t (m / N) (m % N)) else isoW N t f g h m i j
end Go.Proofs.Ytjdfjlgjpjgnhaa
