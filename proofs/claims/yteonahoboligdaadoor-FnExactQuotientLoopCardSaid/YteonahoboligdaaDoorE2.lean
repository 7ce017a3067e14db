/- The cycles of two rows, for the program: a contract. -/
import Derived.Test.YteonahoboligdaaDoorE1
import Derived.Test.YteonahoboligdaaDoorK12
namespace Go.Proofs.YteonahoboligdaaDoor
set_option linter.unusedSimpArgs false
set_option linter.unusedVariables false
open Go Go.RowKit

def i64N (l : List Nat) : List Value := l.map fun (x : Nat) => Value.int .i64 (x : Int)
theorem i64N_app (l : List Nat) (x : Nat) : i64N (l ++ [x]) = i64N l ++ [.int .i64 (x : Int)] := by simp [i64N]
theorem bsl_n0 (w : World) : (Instr.buildSlice 26 0 [].toArray).run Tryd.prog w = .ok (.slice (some ⟨w.heap.size, 0, none⟩) 0 0) (w.alloc (.cells #[] 2)) := by kernel_rfl
theorem bsl_n1 (x : Int) (w : World) : (Instr.buildSlice 26 1 [(0, Value.int .i64 x)].toArray).run Tryd.prog w = .ok (.slice (some ⟨w.heap.size, 0, none⟩) 1 1) (w.alloc (.cells #[.int .i64 x] 2)) := by kernel_rfl
theorem und_sln : Tryd.prog.underlying 26 = some (.slice 2) := by kernel_rfl
theorem inf_eln : (Tryd.prog.info? 2).map (fun i => (i.zero, i.size, i.bytes)) = some (some (.int .i64 0), 1, 8) := by kernel_rfl
theorem flat_n1 (x : Int) : flat #[.int .i64 x] := fun u hu => by
  have : u = .int .i64 x := by simpa using hu
  subst this; rfl
/-- A mask with the bits of the numbers met. -/
def MetM (f : Nat → Nat) (k m : Nat) : Prop := m < 1024 ∧ ∀ y, m.testBit y = true ↔ metC f k y
theorem MetM.start (f : Nat → Nat) : MetM f 0 0 := ⟨by decide, fun y => ⟨fun h => by simp at h, fun ⟨c, h, _⟩ => by omega⟩⟩
theorem MetM.skip {f : Nat → Nat} {k m : Nat} (h : MetM f k m) (hm : metC f k k) : MetM f (k + 1) m := ⟨h.1, fun y => (h.2 y).trans ⟨fun ⟨c, hc, e⟩ => ⟨c, by omega, e⟩, fun ⟨c, hc, e⟩ => by
  rcases Nat.lt_or_ge c k with h3 | h3
  · exact ⟨c, h3, e⟩
  · obtain rfl : c = k := by omega
    obtain ⟨d, hd, hdc⟩ := hm
    exact ⟨d, hd, inO_trans hdc e⟩⟩⟩
theorem MetM.more {n : Nat} {f : Nat → Nat} (hf : Pm n f) (hn : n ≤ 10) {k m : Nat} (hk : k < n) (h : MetM f k m) : MetM f (k + 1) (m ||| cyM f k) :=
  ⟨Nat.or_lt_two_pow (n := 10) h.1 (cyM_lt hf hn hk _), fun y => by
    rw [Nat.testBit_or, Bool.or_eq_true, h.2, cyM_bit hf hk]
    exact ⟨fun h => h.elim (fun ⟨c, hc, e⟩ => ⟨c, by omega, e⟩) fun e => ⟨k, by omega, e⟩, fun ⟨c, hc, e⟩ => by
      rcases Nat.lt_or_ge c k with h3 | h3
      · exact .inl ⟨c, h3, e⟩
      · obtain rfl : c = k := by omega
        exact .inr e⟩⟩


end Go.Proofs.YteonahoboligdaaDoor
