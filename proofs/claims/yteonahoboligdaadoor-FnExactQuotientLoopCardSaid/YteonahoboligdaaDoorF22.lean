/- A list of numbers that comes in, and the package's table of single bits as it is laid. -/
import Derived.Test.YteonahoboligdaaDoorF1
import Derived.Test.YteonahoboligdaaDoorG30
import Derived.Test.YteonahoboligdaaDoorK12
import Derived.LaidMore
import Derived.Lay
import Derived.OpenShut
import Derived.Stop.Joined
namespace Go.Proofs.YteonahoboligdaaDoor
set_option linter.unusedSimpArgs false
set_option linter.unusedVariables false
open Go.ChangeShapes Go.WideShapes Go.ChangeAt Go.RowKit

section
variable {H : Type} {enc : TypeId × Value → H} {w : World} {base : Nat} {spare : Nat → Bool} {held : Bool}
theorem cell_addr {a : Addr} {v : Value} (h : w.cell? a = some v) : a = ⟨a.block, a.off, none⟩ ∧ a.block < w.heap.size := by
  obtain ⟨b, off, sp⟩ := a
  refine ⟨?_, World.block_lt_of_cell? w _ h⟩
  cases sp with
  | none => rfl
  | some k =>
    unfold World.cell? at h
    split at h <;> simp at h
theorem cells_each {a : Addr} {n : Nat} {cs : List Value} (h : w.cells? base a n = some cs) : cs.length = n ∧ ∀ j, j < n → w.cell? (a.add j) = cs[j]? := by
  obtain ⟨_, h1, h2⟩ := World.cells?_some h
  exact ⟨h1, h2⟩
theorem add_add (a : Addr) (i j : Nat) (hs : a.spot = none) : (a.add i).add j = a.add (i + j) := by
  obtain ⟨b, off, sp⟩ := a
  cases hs
  rw [add_none, add_none, add_none, Nat.add_assoc]

/-- A list of numbers that comes in. -/
theorem trod_numbers {fuel : Nat} {cs : List Value} {x : DataW H × List MemPlace} (h : DataW.trod enc Tryd.prog w base spare held fuel 26 cs = some x) :
    ∃ (p : Option Addr) (cap : Nat) (xs : List Int), cs = [.slice p xs.length cap] ∧ rdp w p xs.length (intF xs) ∧ xs.length ≤ maxLen := by
  rcases DataW.trod_slice Tryd.underlying26 h with ⟨rfl, _⟩ | ⟨a, len, cap, elems, rest, n, _, rfl, _, hb, hl, hm, hlen, hel, _, _⟩
  · exact ⟨none, 0, [], rfl, (fun h => absurd h (by simp)), Nat.zero_le _⟩
  · have each : ∀ i, ∃ z : Int, i < len → w.cell? (a.add i) = some (.int .i64 z) := fun i => by
      by_cases hi : i < len
      · have h1 := hel i hi
        rw [List.getElem?_eq_getElem (by omega), Tryd.cellsI64, Nat.mul_one, Option.bind_eq_some_iff] at h1
        obtain ⟨cs', hc, ht⟩ := h1
        obtain ⟨z, rfl, _, _⟩ := DataW.trod_int Tryd.underlying2 ht
        obtain ⟨_, h2⟩ := cells_each hc
        have h3 := h2 0 (by omega)
        exact ⟨z, fun _ => by simpa [Addr.add] using h3⟩
      · exact ⟨0, fun h => absurd h hi⟩
    obtain ⟨g, hg⟩ := Classical.axiomOfChoice each
    have hll : ((List.range len).map g).length = len := by simp
    refine ⟨some a, cap, (List.range len).map g, by rw [hll], fun hn => ?_, by rw [hll]; omega⟩
    rw [hll] at hn ⊢
    have h0 := hg 0 (by omega)
    rw [show a.add 0 = a by simp [Addr.add]] at h0
    obtain ⟨e1, hlt⟩ := cell_addr h0
    refine ⟨a.block, a.off, by rw [← e1], hlt, fun j hj => ?_⟩
    have e2 : a.add j = ⟨a.block, a.off + j, none⟩ := by rw [e1, add_none]
    rw [← e2, hg j hj]
    unfold intF elI
    rw [List.getD_eq_getElem?_getD, List.getElem?_map, List.getElem?_range hj]
    rfl
end

theorem laid_tab : (Rows.laid_math_bits_deBruijn64tab : DataW Unit) = .agg (dbL.map fun b => .lit (.int .u8 (b : Nat))) := by kernel_rfl
theorem glbT_of_laid {W : World} (h : laidMetH Tryd.prog [("math/bits.deBruijn32tab", Rows.laid_math_bits_deBruijn32tab), ("math/bits.deBruijn64tab", Rows.laid_math_bits_deBruijn64tab)] W) : glbT W := by
  intro k hk
  rw [MakeChecks.laidMetH_plain _ _ _ (by kernel_rfl)] at h
  obtain ⟨ps, ⟨g0, t0, cs0, fuel0, p0, q0, _, _, _, _, ⟨g, t, cs, fuel, p, q, hg, ht, hv, hd, _, _⟩, _⟩, _, _⟩ := h
  obtain rfl := Option.some.inj ((show Tryd.prog.globalNamed "math/bits.deBruijn64tab" = some 1 by kernel_rfl).symm.trans hg)
  obtain rfl := Option.some.inj ((show (Tryd.prog.globals[1]?).map (·.type) = some 109 by kernel_rfl).symm.trans ht)
  rw [laid_tab] at hd
  obtain ⟨xs, m, _, ex, _, hl, hel⟩ := DataW.trod_array Tryd.underlying109 hd
  have c1 : Tryd.prog.cellsOf 5 = 1 := by kernel_rfl
  have hE := hel k hk
  have hlen : dbL.length = 64 := by kernel_rfl
  have e3 : (xs.map (·.1)) = dbL.map fun b => (DataW.lit (.int .u8 (b : Nat)) : DataW Unit) := (DataW.agg.inj (Prod.mk.inj ex).1).symm
  rw [c1, Nat.mul_one, List.getElem?_eq_getElem (by omega)] at hE
  obtain ⟨z, e1, e2, _⟩ := DataW.trod_int Tryd.underlying5 hE
  have e4 : (xs.map (·.1))[k]? = (dbL.map fun b => (DataW.lit (.int .u8 (b : Nat)) : DataW Unit))[k]? := by rw [e3]
  have hlk : dbL[k]? = some (dbL.getD k 0) := by
    have hk' : k < dbL.length := by omega
    rw [List.getD_eq_getElem?_getD, List.getElem?_eq_getElem hk']; rfl
  rw [List.getElem?_map, List.getElem?_map, List.getElem?_eq_getElem (by omega : k < xs.length), hlk, e2] at e4
  have hz : z = (dbL.getD k 0 : Nat) := by
    simp only [Option.map_some, Option.some.injEq, DataW.lit.injEq, Lit.int.injEq, true_and] at e4
    exact e4
  rw [World.var?_cell hg hv k, ← hz]
  have h0 : ((cs.toList.drop k).take 1)[0]? = some (.int .u8 z) := by rw [e1]; rfl
  simpa using h0
end Go.Proofs.YteonahoboligdaaDoor
