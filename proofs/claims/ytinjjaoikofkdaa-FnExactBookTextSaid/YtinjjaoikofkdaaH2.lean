/- The text of a book. Plain Lean. -/
import Derived.Test.YtinjjaoikofkdaaH1
import Derived.Test.YtinjjaoikofkdaaC43
import Derived.Lib.Join
namespace Go.Proofs.Ytinjjaoikofkdaa
set_option linter.unusedSimpArgs false
set_option linter.unusedVariables false
open Go Go.RowKit

/-- The bytes of a name of a book. -/
def nmB (ns : List ByteArray) (k : Nat) : List Nat := (ns.getD k ByteArray.empty).data.toList.map UInt8.toNat
theorem nmB_str (ns : List ByteArray) (k : Nat) : ns.getD k ByteArray.empty = str (nmB ns k) := by
  unfold str nmB
  rw [List.map_map]
  have : (UInt8.ofNat ∘ UInt8.toNat) = id := by funext x; simp
  rw [this, List.map_id]
theorem nmB_len (ns : List ByteArray) (k : Nat) : (nmB ns k).length = (ns.getD k ByteArray.empty).size := by
  unfold nmB
  rw [List.length_map, Array.length_toList]; rfl
/-- The bytes of the part of a book with number k; of the first k parts. -/
def wrdT (ns : List ByteArray) (ls : List Sqr) (k : Nat) : List Nat := nmB ns k ++ [61] ++ sqT (ls.getD k sq00).n.toNat (ls.getD k sq00).t (ls.getD k sq00).n.toNat
def bkT (ns : List ByteArray) (ls : List Sqr) : Nat → List Nat
  | 0 => []
  | k + 1 => bkT ns ls k ++ (if k = 0 then [] else [59]) ++ wrdT ns ls k
theorem joinTail_snoc (sep : List UInt8) (r : List (List UInt8)) (y : List UInt8) : Lib.joinTail sep (r ++ [y]) = Lib.joinTail sep r ++ (sep ++ y) := by
  unfold Lib.joinTail
  simp
theorem bkT_cons (ns : List ByteArray) (ls : List Sqr) : ∀ n, (bkT ns ls (n + 1)).map UInt8.ofNat = (wrdT ns ls 0).map UInt8.ofNat ++ Lib.joinTail [59] ((List.range n).map fun k => (wrdT ns ls (k + 1)).map UInt8.ofNat)
  | 0 => by
    show ([] ++ [] ++ wrdT ns ls 0).map UInt8.ofNat = _
    simp [Lib.joinTail]
  | n + 1 => by
    rw [bkT, List.map_append, List.map_append, bkT_cons ns ls n, if_neg (by omega), List.range_succ, List.map_append, List.map_singleton, List.map_singleton, joinTail_snoc]
    simp only [List.append_assoc]
    rfl
theorem bkT_join (ns : List ByteArray) (ls : List Sqr) (n : Nat) : Lib.join (((List.range n).map fun k => str (wrdT ns ls k)).map (·.data.toList)) [59] = (bkT ns ls n).map UInt8.ofNat := by
  have e : ((List.range n).map fun k => str (wrdT ns ls k)).map (·.data.toList) = (List.range n).map fun k => (wrdT ns ls k).map UInt8.ofNat := by
    rw [List.map_map]
    refine List.map_congr_left fun k _ => ?_
    simp [str]
  rw [e]
  cases n with
  | zero => rfl
  | succ n =>
    rw [List.range_succ_eq_map, List.map_cons, Lib.join_cons, List.map_map, bkT_cons]
    rfl
theorem wrdT_len {ns : List ByteArray} {ls : List Sqr} {k : Nat} (h1 : (ns.getD k ByteArray.empty).size ≤ 12) (h2 : (ls.getD k sq00).n ≤ 10) : (wrdT ns ls k).length ≤ 200 := by
  unfold wrdT
  have h3 := sqT_len (ls.getD k sq00).n.toNat (ls.getD k sq00).t (ls.getD k sq00).n.toNat
  have h4 : (ls.getD k sq00).n.toNat ≤ 10 := by omega
  have h5 := Nat.mul_le_mul h4 (Nat.add_le_add_right h4 1)
  rw [List.length_append, List.length_append, List.length_singleton, nmB_len]
  omega
theorem bkT_len {ns : List ByteArray} {ls : List Sqr} : ∀ {n : Nat}, (∀ k, k < n → (wrdT ns ls k).length ≤ 200) → (bkT ns ls n).length ≤ n * 201
  | 0, _ => Nat.zero_le _
  | n + 1, h => by
    have h1 := bkT_len (n := n) fun k hk => h k (by omega)
    have h2 := h n (by omega)
    rw [bkT, List.length_append, List.length_append]
    split
    · simp only [List.length_nil]; omega
    · simp only [List.length_singleton]; omega
/-- What a valid book has. -/
theorem isBk_get {ns : List ByteArray} {ls : List Sqr} (h : isBk ns ls = true) : ns.length ≤ 20 ∧ ls.length = ns.length ∧ ∀ k, k < ns.length → (ns.getD k ByteArray.empty).size ≤ 12 ∧ (ls.getD k sq00).n ≤ 7 ∧ IsSq (ls.getD k sq00).n (ls.getD k sq00).t := by
  unfold isBk at h
  simp only [Bool.and_eq_true, decide_eq_true_eq, List.all_eq_true, List.mem_range] at h
  obtain ⟨⟨⟨h1, h2⟩, h3⟩, _⟩ := h
  refine ⟨h1, h2, fun k hk => ?_⟩
  have h4 := h3 k hk
  unfold itemB nameB at h4
  simp only [Bool.and_eq_true, decide_eq_true_eq, Bool.not_eq_true', decide_eq_false_iff_not] at h4
  obtain ⟨⟨⟨⟨_, _, h5⟩, _⟩, h6⟩, h7⟩ := h4
  exact ⟨h5, by omega, (isLp_true.1 h6).sq⟩
/-- The text of a book and a code. -/
noncomputable def txtR (ns : List ByteArray) (ls : List Sqr) : ByteArray × Int := if isBk ns ls = true then (str (bkT ns ls ns.length), 0) else (⟨#[]⟩, 1)
end Go.Proofs.Ytinjjaoikofkdaa
