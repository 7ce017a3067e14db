/- Texts: their bytes; texts put together. -/
import Derived.Test.YtinjjaoikofkdaaK12
import Derived.Test.YtinjjaoikofkdaaC1
import Derived.Laws.IdiomStrings
import Derived.Laws.Concat
import Derived.Laws.Strings
namespace Go.Proofs.Ytinjjaoikofkdaa
set_option linter.unusedSimpArgs false
set_option linter.unusedVariables false
open Go Go.RowKit

/-- The text of some bytes. -/
def str (l : List Nat) : ByteArray := ⟨(l.map UInt8.ofNat).toArray⟩
theorem str_size (l : List Nat) : (str l).size = l.length := by simp [str, ByteArray.size]
theorem str_nil : str [] = ⟨#[]⟩ := rfl
theorem str_app (a b : List Nat) : str a ++ str b = str (a ++ b) := by
  unfold str
  rw [ByteArray.mk_append_mk, List.map_append]
def Byts (l : List Nat) : Prop := ∀ x ∈ l, x < 256
theorem str_get {l : List Nat} (hb : Byts l) {k : Nat} (hk : k < (str l).size) : ((str l)[k]'hk).toNat = l.getD k 0 := by
  have hk' : k < l.length := by rw [str_size] at hk; exact hk
  have : (str l)[k]'hk = UInt8.ofNat l[k] := by
    show (str l).data[k] = _
    simp [str]
  rw [this, List.getD_eq_getElem?_getD, List.getElem?_eq_getElem hk']
  have := hb _ (List.getElem_mem hk')
  simp
  omega
theorem str_toList (l : List Nat) : (str l).toList = l.map UInt8.ofNat := by unfold str; rw [ByteArray.toList_mk]
theorem str_eq {a b : List Nat} (ha : Byts a) (hb : Byts b) : ((str a).toList == (str b).toList) = decide (a = b) := by
  rw [str_toList, str_toList]
  by_cases h : a = b
  · subst h; simp
  · simp only [h, decide_false]
    refine beq_eq_false_iff_ne.2 fun e => h ?_
    have e2 := congrArg (List.map UInt8.toNat) e
    rw [List.map_map, List.map_map] at e2
    have key : ∀ l : List Nat, Byts l → l.map (UInt8.toNat ∘ UInt8.ofNat) = l := fun l hl => by
      conv => rhs; rw [← List.map_id l]
      refine List.map_congr_left fun x hx => ?_
      have := hl x hx
      simp
      omega
    rwa [key a ha, key b hb] at e2
/-- Each text is the text of its bytes. -/
theorem str_of (s : ByteArray) : ∃ l, Byts l ∧ s = str l ∧ l.length = s.size := by
  refine ⟨s.data.toList.map UInt8.toNat, fun x hx => ?_, ?_, by rw [List.length_map, Array.length_toList]; rfl⟩
  · obtain ⟨y, _, rfl⟩ := List.mem_map.1 hx
    exact y.toNat_lt
  · unfold str
    rw [List.map_map]
    have : (UInt8.ofNat ∘ UInt8.toNat) = id := by funext x; simp
    rw [this, List.map_id]
theorem und_str : Try.prog.underlying 9 = some .string := by kernel_rfl
theorem ix_str {l : List Nat} (hb : Byts l) (k : Nat) (hk : k < l.length) (w : World) : (Instr.index 9 (.string (str l)) (.int .i64 (k : Int))).run Try.prog w = .ok (.int .u8 (l.getD k 0 : Nat)) w := by
  have h1 : k < (str l).size := by rw [str_size]; exact hk
  rw [run_index_string (h := und_str), dif_pos ⟨by omega, by omega⟩]
  congr 2
  rw [← str_get hb h1]
  rfl

theorem add_str (a b : List Nat) (h : a.length + b.length ≤ 100000) (w : World) : (Op.stringOp .add (str a) (str b)).run Try.prog w = .ok (.string (str (a ++ b))) w := by
  rw [run_string_add_sum w (str a) (str b) (by rw [str_size, str_size]; omega), str_app]
theorem und_slT : Try.prog.underlying 103 = some (.slice 5) := by kernel_rfl
/-- The bytes of a term as text. -/
theorem conv_str {w : World} {b : Nat} {g : Nat} {cap : Nat} (hb : b < 256) (h : w.cell? ⟨g, 0, none⟩ = some (.int .u8 (b : Int))) : (convert 103 9 (.slice (some ⟨g, 0, none⟩) 1 cap)).run Try.prog w = .ok (.string (str [b])) w :=
  run_convert_bytes_back w 103 9 5 ⟨g, 0, none⟩ cap [UInt8.ofNat b] und_slT (by kernel_rfl) und_str fun j hj => by
    have : j = 0 := by simp at hj; exact hj
    subst this
    rw [add_none, h]
    simp
    omega

/-! ### A number as a text -/
/-- The digits of a number, none for 0. -/
def digs (k : Nat) : List Nat := if k = 0 then [] else digs (k / 10) ++ [48 + k % 10]
decreasing_by omega
theorem digs_0 : digs 0 = [] := by rw [digs]; rfl
theorem digs_pos {k : Nat} (h : 0 < k) : digs k = digs (k / 10) ++ [48 + k % 10] := by rw [digs, if_neg (by omega)]
theorem digs_len : ∀ (n k : Nat), k < 10 ^ n → (digs k).length ≤ n
  | 0, k, h => by
    obtain rfl : k = 0 := by simpa using h
    rw [digs_0]; exact Nat.le_refl _
  | n + 1, k, h => by
    by_cases h0 : k = 0
    · subst h0; rw [digs_0]; exact Nat.zero_le _
    · rw [digs_pos (by omega)]
      have := digs_len n (k / 10) (by rw [Nat.pow_succ] at h; omega)
      simp only [List.length_append, List.length_singleton]
      omega
/-- The mark of a number. -/
def mkT (k : Nat) : List Nat := if k = 0 then [109, 48] else 109 :: digs k
end Go.Proofs.Ytinjjaoikofkdaa
