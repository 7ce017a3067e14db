/- The package's texts of laws, as they are laid. -/
import Derived.Test.YtpmemoabkbmljaaDoorF1
import Derived.Test.YtpmemoabkbmljaaDoorC93
import Derived.LaidMore
import Derived.Lay
import Derived.Stop.Joined
namespace Go.Proofs.YtpmemoabkbmljaaDoor
set_option linter.unusedSimpArgs false
set_option linter.unusedVariables false
open Go.ChangeShapes Go.WideShapes Go.ChangeAt Go.RowKit

theorem laid_list : (Rows.laid_loop_example_g01195_impl_lawTexts : DataW Unit) = .agg (lawL.map fun l => .lit (.string (l.map UInt8.ofNat))) := by kernel_rfl
theorem glb_of_laid {W : World} (h : laidMetH Tryd.prog [("loop.example/g01195/impl.lawTexts", Rows.laid_loop_example_g01195_impl_lawTexts)] W) : glb W := by
  intro k hk
  rw [MakeChecks.laidMetH_plain _ _ _ (by kernel_rfl)] at h
  obtain ⟨ps, ⟨g, t, cs, fuel, p, q, hg, ht, hv, hd, _, _⟩, _, _⟩ := h
  obtain rfl := Option.some.inj ((show Tryd.prog.globalNamed "loop.example/g01195/impl.lawTexts" = some 0 by kernel_rfl).symm.trans hg)
  obtain rfl := Option.some.inj ((show (Tryd.prog.globals[0]?).map (·.type) = some 72 by kernel_rfl).symm.trans ht)
  rw [laid_list] at hd
  obtain ⟨xs, m, _, ex, _, hl, hel⟩ := DataW.trod_array Tryd.underlying72 hd
  have c1 : Tryd.prog.cellsOf 9 = 1 := by kernel_rfl
  have hE := hel k hk
  have hlen : lawL.length = 20 := by kernel_rfl
  have e3 : (xs.map (·.1)) = lawL.map fun l => (DataW.lit (.string (l.map UInt8.ofNat)) : DataW Unit) := (DataW.agg.inj (Prod.mk.inj ex).1).symm
  have hxl : xs.length = 20 := by have := congrArg List.length e3; simpa [hlen] using this
  rw [c1, Nat.mul_one, List.getElem?_eq_getElem (by omega)] at hE
  obtain ⟨s, e1, e2, _⟩ := DataW.trod_string Tryd.underlying9 hE
  have e4 : (xs.map (·.1))[k]? = (lawL.map fun l => (DataW.lit (.string (l.map UInt8.ofNat)) : DataW Unit))[k]? := by rw [e3]
  have hlk : lawL[k]? = some (lawT k) := by
    have hk' : k < lawL.length := by omega
    unfold lawT
    rw [List.getD_eq_getElem?_getD, List.getElem?_eq_getElem hk']; rfl
  rw [List.getElem?_map, List.getElem?_map, List.getElem?_eq_getElem (by omega : k < xs.length), hlk, e2] at e4
  have hs : s = str (lawT k) := by
    simp only [Option.map_some, Option.some.injEq, DataW.lit.injEq, Lit.string.injEq] at e4
    generalize lawT k = l at e4
    unfold str
    rw [← e4]
  rw [World.var?_cell hg hv k, ← hs]
  have : cs.toList[k]? = some (.string s) := by
    have h0 : ((cs.toList.drop k).take 1)[0]? = some (.string s) := by rw [e1]; rfl
    simpa using h0
  simpa using this
end Go.Proofs.YtpmemoabkbmljaaDoor
