/- What a book is, plain. -/
import Derived.Test.YtinjjaoikofkdaaC32
namespace Go.Proofs.Ytinjjaoikofkdaa
set_option linter.unusedSimpArgs false
set_option linter.unusedVariables false
open Go Go.RowKit

def sq00 : Sqr := ⟨0, fun _ _ => 0⟩
/-- Whether one name and one loop of a book are valid. -/
noncomputable def itemB (ns : List ByteArray) (ls : List Sqr) (i : Nat) : Bool :=
  nameB (ns.getD i .empty) && (placeOf (fun x => x.toList == (ns.getD i .empty).toList) ns == (i : Int)) && lpB (ls.getD i sq00) && !decide (7 < (ls.getD i sq00).n)
noncomputable def firstB (ls : List Sqr) (i : Nat) : Bool := placeOf (alkB (ls.getD i sq00)) ls == (i : Int)
/-- Whether a book is valid. -/
noncomputable def isBk (ns : List ByteArray) (ls : List Sqr) : Bool :=
  decide (ns.length ≤ 20) && decide (ls.length = ns.length) && (List.range ns.length).all (itemB ns ls) && (List.range ls.length).all (firstB ls)
theorem isBk_item {ns : List ByteArray} {ls : List Sqr} {k : Nat} (hk : k < ns.length) (h : itemB ns ls k = false) : isBk ns ls = false := by
  unfold isBk
  rw [show (List.range ns.length).all (itemB ns ls) = false from List.all_eq_false.2 ⟨k, List.mem_range.2 hk, by simp [h]⟩]
  simp
theorem isBk_first {ns : List ByteArray} {ls : List Sqr} {k : Nat} (hk : k < ls.length) (h : firstB ls k = false) : isBk ns ls = false := by
  unfold isBk
  rw [show (List.range ls.length).all (firstB ls) = false from List.all_eq_false.2 ⟨k, List.mem_range.2 hk, by simp [h]⟩]
  simp
theorem isBk_all {ns : List ByteArray} {ls : List Sqr} (h1 : ns.length ≤ 20) (h2 : ls.length = ns.length) (h3 : ∀ i, i < ns.length → itemB ns ls i = true) (h4 : ∀ i, i < ls.length → firstB ls i = true) : isBk ns ls = true := by
  unfold isBk
  rw [show (List.range ns.length).all (itemB ns ls) = true from List.all_eq_true.2 fun i hi => h3 i (List.mem_range.1 hi), show (List.range ls.length).all (firstB ls) = true from List.all_eq_true.2 fun i hi => h4 i (List.mem_range.1 hi)]
  simp [h1, h2]
theorem isBk_long {ns : List ByteArray} {ls : List Sqr} (h : ¬ (ns.length ≤ 20 ∧ ls.length = ns.length)) : isBk ns ls = false := by
  unfold isBk
  rcases Classical.em (ns.length ≤ 20) with h1 | h1
  · rw [show decide (ls.length = ns.length) = false from decide_eq_false fun e => h ⟨h1, e⟩]; simp
  · rw [show decide (ns.length ≤ 20) = false from decide_eq_false h1]; simp
theorem sq_head {l : List Sqr} {k : Nat} (hk : k < l.length) : (slC l).getD (k * 101) undef = .int .i64 l[k].n := by
  have h := rowC_get (f := sqC) sqC_size l hk (j := 0) (by omega)
  rw [Nat.add_zero] at h
  rw [List.getD_eq_getElem?_getD]
  show ((rowC sqC l)[k * 101]?).getD undef = _
  rw [h]
  show ((sqs l[k].n l[k].t)[0]?).getD undef = _
  rw [sqs_order]; rfl
end Go.Proofs.Ytinjjaoikofkdaa
