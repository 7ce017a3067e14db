/- The text of a square, on both sides: contracts. -/
import Derived.Test.YtinjjaoikofkdaaS0
import Derived.Test.YtinjjaoikofkdaaC6
import Derived.Test.YtinjjaoikofkdaaK9
import Derived.Test.YtinjjaoikofkdaaK12
namespace Go.Proofs.Ytinjjaoikofkdaa
set_option linter.unusedSimpArgs false
set_option linter.unusedVariables false
open Go Go.RowKit

/-- The bytes of a row as far as k; of the first k rows. -/
def rwT (t : Nat → Nat → Nat) (x : Nat) : Nat → List Nat
  | 0 => []
  | k + 1 => rwT t x k ++ [48 + t x k]
def sqT (n : Nat) (t : Nat → Nat → Nat) : Nat → List Nat
  | 0 => []
  | x + 1 => sqT n t x ++ (if x = 0 then [] else [47]) ++ rwT t x n
theorem rwT_len (t : Nat → Nat → Nat) (x : Nat) : ∀ k, (rwT t x k).length = k
  | 0 => rfl
  | k + 1 => by rw [rwT, List.length_append, rwT_len t x k]; rfl
theorem sqT_len (n : Nat) (t : Nat → Nat → Nat) : ∀ x, (sqT n t x).length ≤ x * (n + 1)
  | 0 => Nat.zero_le _
  | x + 1 => by
    have h := sqT_len n t x
    rw [sqT, List.length_append, List.length_append, rwT_len, Nat.add_mul, Nat.one_mul]
    split
    · simp only [List.length_nil]; omega
    · simp only [List.length_singleton]; omega
theorem rwT_byt {n : Nat} {t : Nat → Nat → Nat} (h : ∀ x y, x < n → y < n → t x y < 10) {x : Nat} (hx : x < n) : ∀ k, k ≤ n → Byts (rwT t x k)
  | 0, _ => fun _ h => by cases h
  | k + 1, hk => fun b hb => by
    rw [rwT, List.mem_append, List.mem_singleton] at hb
    rcases hb with hb | rfl
    · exact rwT_byt h hx k (by omega) b hb
    · have := h x k hx (by omega); omega
theorem sqT_byt {n : Nat} {t : Nat → Nat → Nat} (h : ∀ x y, x < n → y < n → t x y < 10) : ∀ k, k ≤ n → Byts (sqT n t k)
  | 0, _ => fun _ h => by cases h
  | k + 1, hk => fun b hb => by
    rw [sqT, List.mem_append, List.mem_append] at hb
    rcases hb with (hb | hb) | hb
    · exact sqT_byt h k (by omega) b hb
    · split at hb
      · cases hb
      · rw [List.mem_singleton.1 hb]; omega
    · exact rwT_byt h (by omega) n (Nat.le_refl n) b hb
theorem sqT_pos {n : Nat} (t : Nat → Nat → Nat) (hn : 0 < n) : 0 < (sqT n t n).length := by
  obtain ⟨m, rfl⟩ : ∃ m, n = m + 1 := ⟨n - 1, by omega⟩
  rw [sqT, List.length_append, rwT_len]; omega
def u8H (l : List Nat) : List Value := l.map fun (b : Nat) => .int .u8 (b : Int)
theorem u8H_app (l : List Nat) (x : Nat) : u8H (l ++ [x]) = u8H l ++ [.int .u8 (x : Int)] := by simp [u8H]
theorem u8H_len (l : List Nat) : (u8H l).length = l.length := by simp [u8H]
theorem und_slH : Try.prog.underlying 103 = some (.slice 5) := by kernel_rfl
theorem inf_elH : (Try.prog.info? 5).map (fun i => (i.zero, i.size, i.bytes)) = some (some (.int .u8 0), 1, 1) := by kernel_rfl
theorem bsl_H0 (w : World) : (Instr.buildSlice 103 0 [].toArray).run Try.prog w = .ok (.slice (some ⟨w.heap.size, 0, none⟩) 0 0) (w.alloc (.cells #[] 5)) := by kernel_rfl
theorem bsl_H1 (x : Int) (w : World) : (Instr.buildSlice 103 1 [(0, Value.int .u8 x)].toArray).run Try.prog w = .ok (.slice (some ⟨w.heap.size, 0, none⟩) 1 1) (w.alloc (.cells #[.int .u8 x] 5)) := by kernel_rfl
theorem flat_H1 (x : Int) : flat #[.int .u8 x] := by intro v hv; simp at hv; subst hv; rfl
/-- A row of bytes as a text. -/
theorem conv_row {w : World} {B g cap : Nat} {l : List Nat} (hb : Byts l) (h : w.ownsRow B 5 1 (.slice (some ⟨g, 0, none⟩) l.length cap) l.length (u8H l)) : (convert 103 9 (.slice (some ⟨g, 0, none⟩) l.length cap)).run Try.prog w = .ok (.string (str l)) w := by
  have h1 := run_convert_bytes_back (P := Try.prog) w 103 9 5 ⟨g, 0, none⟩ cap (l.map UInt8.ofNat) und_slH (by kernel_rfl) und_str fun j hj => by
    rw [List.length_map] at hj
    rw [add_none, Nat.zero_add, World.ownsRow.cellAt h j (by omega)]
    unfold u8H
    rw [List.getElem?_map, List.getElem?_eq_getElem hj, List.getElem_map]
    have := hb _ (List.getElem_mem hj)
    simp
    omega
  rw [List.length_map] at h1
  exact h1
end Go.Proofs.Ytinjjaoikofkdaa
