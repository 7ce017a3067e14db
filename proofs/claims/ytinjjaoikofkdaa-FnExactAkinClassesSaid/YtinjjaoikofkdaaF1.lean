/- A square that comes in, opened: its order and its table of bytes. -/
import Derived.Test.YtinjjaoikofkdaaM
import Derived.Test.YtinjjaoikofkdaaRows
import Derived.ProofKit
import Derived.OpenShut
import Derived.ChangeOld
import Derived.Below
import Derived.Carry
namespace Go.Proofs.Ytinjjaoikofkdaa
set_option linter.unusedSimpArgs false
set_option linter.unusedVariables false
open Go.ChangeShapes Go.WideShapes Go.ChangeAt Go.RowKit

theorem Try.own : ownKnob Try.prog.godebug = none := by kernel_rfl
theorem Try.laidOut : laidOutB Try.prog = true := by kernel_rfl
theorem Try.cellsSq : Try.prog.cellsOf 39 = 101 := by kernel_rfl
theorem Try.cellsI64 : Try.prog.cellsOf 2 = 1 := by kernel_rfl
theorem Try.cellsTb : Try.prog.cellsOf 37 = 100 := by kernel_rfl
theorem Try.cellsBy : Try.prog.cellsOf 36 = 10 := by kernel_rfl
theorem Try.cellsU8 : Try.prog.cellsOf 5 = 1 := by kernel_rfl

/-- The byte in a cell. -/
def byteOf : Option Value → Nat
  | some (.int _ b) => b.toNat
  | _ => 0

section
variable {H : Type} {enc : TypeId × Value → H} {w : World} {base : Nat} {spare : Nat → Bool} {held : Bool}

theorem take_one {α : Type} {l : List α} {i : Nat} {x : α} (h : (l.drop i).take 1 = [x]) : l[i]? = some x := by
  have := congrArg (fun l => l[0]?) h
  simpa [List.getElem?_take, List.getElem?_drop] using this

theorem trod_bytes {fuel : Nat} {cs : List Value} {x : DataW H × List MemPlace} (h : DataW.trod enc Try.prog w base spare held fuel 36 cs = some x) :
    ∀ j, j < 10 → ∃ b : Nat, b < 256 ∧ cs[j]? = some (.int .u8 (b : Int)) := by
  obtain ⟨xs, m, _, _, hl, hx, hf⟩ := DataW.trod_array Try.underlying36 h
  intro j hj
  have h1 := hf j hj
  have h2 : xs[j]? = some (xs[j]'(by omega)) := List.getElem?_eq_getElem _
  rw [h2, Try.cellsU8, Nat.mul_one] at h1
  obtain ⟨n, hn, _, hw⟩ := DataW.trod_int Try.underlying5 h1
  have hb := bounds_u8 hw
  exact ⟨n.toNat, by omega, by rw [take_one hn, show ((n.toNat : Nat) : Int) = n by omega]⟩
theorem trod_table {fuel : Nat} {cs : List Value} {x : DataW H × List MemPlace} (h : DataW.trod enc Try.prog w base spare held fuel 37 cs = some x) :
    ∀ i j, i < 10 → j < 10 → ∃ b : Nat, b < 256 ∧ cs[i * 10 + j]? = some (.int .u8 (b : Int)) := by
  obtain ⟨xs, m, _, _, hl, hx, hf⟩ := DataW.trod_array Try.underlying37 h
  intro i j hi hj
  have h1 := hf i hi
  have h2 : xs[i]? = some (xs[i]'(by omega)) := List.getElem?_eq_getElem _
  rw [h2, Try.cellsBy] at h1
  obtain ⟨b, hb, hc⟩ := trod_bytes h1 j hj
  rw [List.getElem?_take, if_pos hj, List.getElem?_drop] at hc
  exact ⟨b, hb, hc⟩
set_option maxRecDepth 100000 in
/-- A square that comes in. -/
theorem open_square {r : Reach} {b0 : Nat} {v : Value} {d : DataW H} {p : List MemPlace} (hv : Value.okWide Try.prog w r b0 39 v) (h : DataW.Trod enc Try.prog w base spare held 39 v d p) :
    ∃ (n : Int) (t : Nat → Nat → Nat), v = .agg (sqs n t) ∧ Byt2 t := by
  obtain ⟨cs, rfl, hsz⟩ := okWide_struct Try.underlying39 hv
  rw [Try.cellsSq] at hsz
  obtain ⟨fuel, hf⟩ := h
  obtain ⟨xs, m, _, _, hlen, hxl, hfs⟩ := DataW.trod_struct Try.underlying39 hf
  have g0 : DataW.trod enc Try.prog w base spare held m 2 ((cs.toList.drop 0).take (Try.prog.cellsOf 2)) = xs[0]? := hfs 0 _ rfl
  have g1 : DataW.trod enc Try.prog w base spare held m 37 ((cs.toList.drop 1).take (Try.prog.cellsOf 37)) = xs[1]? := hfs 1 _ rfl
  rw [Try.cellsI64] at g0
  rw [Try.cellsTb] at g1
  have hx2 : xs.length = 2 := hxl
  have e0 : xs[0]? = some (xs[0]'(by omega)) := List.getElem?_eq_getElem _
  have e1 : xs[1]? = some (xs[1]'(by omega)) := List.getElem?_eq_getElem _
  rw [e0] at g0
  rw [e1] at g1
  obtain ⟨n, hn, _, _⟩ := DataW.trod_int Try.underlying2 g0
  have g2 := trod_table g1
  have hn' : cs[0]? = some (.int .i64 n) := by
    have := take_one hn
    simpa using this
  have hc : ∀ i j, i < 10 → j < 10 → ∃ b : Nat, b < 256 ∧ cs[1 + i * 10 + j]? = some (.int .u8 (b : Int)) := fun i j hi hj => by
    obtain ⟨b, hb, h3⟩ := g2 i j hi hj
    rw [List.getElem?_take, if_pos (by omega), List.getElem?_drop, Array.getElem?_toList] at h3
    exact ⟨b, hb, by rw [← h3]; congr 1; omega⟩
  refine ⟨n, fun i j => byteOf cs[1 + i * 10 + j]?, ?_, ⟨fun i j hi hj => ?_⟩⟩
  · congr 1
    refine tab_of hsz fun i hi => ?_
    by_cases h0 : i = 0
    · subst h0; rw [if_pos rfl]; exact hn'
    · rw [if_neg h0]
      obtain ⟨b, hb, h3⟩ := hc ((i - 1) / 10) ((i - 1) % 10) (by omega) (by omega)
      have hi' : 1 + (i - 1) / 10 * 10 + (i - 1) % 10 = i := by omega
      rw [hi'] at h3
      show cs[i]? = some (.int .u8 ((byteOf cs[1 + (i - 1) / 10 * 10 + (i - 1) % 10]? : Nat) : Int))
      rw [hi', h3]
      simp [byteOf]
  · obtain ⟨b, hb, h3⟩ := hc i j hi hj
    rw [h3]
    simpa [byteOf] using hb
end
end Go.Proofs.Ytinjjaoikofkdaa
