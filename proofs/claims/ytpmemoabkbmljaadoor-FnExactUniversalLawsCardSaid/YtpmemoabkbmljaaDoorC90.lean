/- Which of some texts of identities hold everywhere, on both sides: contracts. -/
import Derived.Test.YtpmemoabkbmljaaDoorC89
import Derived.Test.YtpmemoabkbmljaaDoorC68
import Derived.Test.YtpmemoabkbmljaaDoorK20
namespace Go.Proofs.YtpmemoabkbmljaaDoor
set_option linter.unusedSimpArgs false
set_option linter.unusedVariables false
open Go Go.RowKit

noncomputable def holdsB (n : Nat) (t : Nat → Nat → Nat) (xs ys : List Nat) : Bool := (fst3 (neB t (elB xs) xs.length (elB ys) ys.length) n n n).isNone
set_option maxRecDepth 100000 in
set_option maxHeartbeats 1000000 in
theorem l03Holds_any (n : Nat) (t : Nat → Nat → Nat) (hs : IsSq (n : Int) t) (xs ys : List Nat) (hX : isTm (elB xs) xs.length = true) (hY : isTm (elB ys) ys.length = true) (w : World) (p1 p2 : Option Addr) (c1 c2 : Nat) (r1 : rdq w p1 xs.length (bytF xs)) (r2 : rdq w p2 ys.length (bytF ys)) :
    Calls Tryd.prog 36 #[.agg (sqs n t), .agg (idV p1 c1 p2 c2 xs.length ys.length)] w fun e w' => e = .returned (.bool (holdsB n t xs ys)) ∧ Below w.heap.size w w' := by
  have M := Mm.start no w
  have HF := fun w1 (hb : Below w.heap.size w w1) => l03Fails_any n t hs xs ys hX hY w1 p1 p2 c1 c2 (r1.later hb) (r2.later hb)
  have HH := Hid2.mk (show holdsB n t xs ys = (fst3 (neB t (elB xs) xs.length (elB ys) ys.length) n n n).isNone from rfl)
  generalize holdsB n t xs ys = b at HH ⊢
  generalize fst3 (neB t (elB xs) xs.length (elB ys) ys.length) n n n = o at HF HH
  clear hs hX hY r1 r2
  rcases o with _ | ⟨x, y, z⟩
  · have hb : b = true := HH.out
    subst hb
    go_enter Tryd.func36, Tryd.ntmps36
    go_wp2_with (first | ((with_reducible apply wpM_box' M 49 (idV p1 c1 p2 c2 xs.length ys.length)); rfl; exact ⟨rfl, rfl⟩; clear M; (try clear C); intro bi w9 h_bi M; have C := M.ruleAll; simp only [Go.Proofs.YtpmemoabkbmljaaDoor.ruleAll] at C) | ((with_reducible apply wpM_box' M 31 (sqs (n : Int) t)); rfl; exact ⟨rfl, rfl⟩; clear M; (try clear C); intro bq w9 h_bq M; have C := M.ruleAll; simp only [Go.Proofs.YtpmemoabkbmljaaDoor.ruleAll] at C) | ((with_reducible apply wpM_lda' M 1 31 0 (sqs (n : Int) t)); rfl; rfl; rfl; exact ⟨rfl, inf_sqs.trans (congrArg some (sqs_size ..).symm), _, und_sqs, rfl⟩; exact whole_of rfl) | ((with_reducible apply wpM_lda' M 0 49 0 (idV p1 c1 p2 c2 xs.length ys.length)); rfl; rfl; rfl; exact ⟨rfl, inf_idn.trans (congrArg some (idv_size ..).symm), _, und_idn, rfl⟩; exact whole_of rfl) | (go_at_call 26; ((with_reducible refine (HF _ M.below).mono ?_); rintro e w1 ⟨rfl, hb⟩; have hsz := M.size; (try (have G9 := G.later hb; clear G; have G := G9; clear G9)); have M9 := M.later hb; clear M; (try clear C); have M := M9; clear M9; have C := M.ruleAll; simp only [Go.Proofs.YtpmemoabkbmljaaDoor.ruleAll] at C)))
    go_ret
    exact ⟨rfl, M.below⟩
  · have hb : b = false := HH.out
    subst hb
    go_enter Tryd.func36, Tryd.ntmps36
    go_wp2_with (first | ((with_reducible apply wpM_box' M 49 (idV p1 c1 p2 c2 xs.length ys.length)); rfl; exact ⟨rfl, rfl⟩; clear M; (try clear C); intro bi w9 h_bi M; have C := M.ruleAll; simp only [Go.Proofs.YtpmemoabkbmljaaDoor.ruleAll] at C) | ((with_reducible apply wpM_box' M 31 (sqs (n : Int) t)); rfl; exact ⟨rfl, rfl⟩; clear M; (try clear C); intro bq w9 h_bq M; have C := M.ruleAll; simp only [Go.Proofs.YtpmemoabkbmljaaDoor.ruleAll] at C) | ((with_reducible apply wpM_lda' M 1 31 0 (sqs (n : Int) t)); rfl; rfl; rfl; exact ⟨rfl, inf_sqs.trans (congrArg some (sqs_size ..).symm), _, und_sqs, rfl⟩; exact whole_of rfl) | ((with_reducible apply wpM_lda' M 0 49 0 (idV p1 c1 p2 c2 xs.length ys.length)); rfl; rfl; rfl; exact ⟨rfl, inf_idn.trans (congrArg some (idv_size ..).symm), _, und_idn, rfl⟩; exact whole_of rfl) | (go_at_call 26; fail))
    refine (HF _ M.below).mono ?_
    rintro e w4 ⟨g, rfl, hg, M'⟩
    have M9 := M.later M'.below
    clear M; (try clear C)
    have M := M9
    clear M9 M' hg
    go_wp2
    go_ret
    exact ⟨rfl, M.below⟩

/-- What is known of one text: no identity, or whether it holds. -/
noncomputable def laAt (n : Nat) (t : Nat → Nat → Nat) (l : List Nat) : Option Bool := match rdI l with | none => none | some (xs, ys) => some (holdsB n t xs ys)
noncomputable def laTo (at_ : Nat → Option Bool) : Nat → Option (List Int)
  | 0 => some []
  | k + 1 => match laTo at_ k with
    | none => none
    | some out => match at_ k with | none => none | some b => some (if b = true then out ++ [(k : Int)] else out)
theorem laTo_none {f : Nat → Option Bool} {k : Nat} (h : laTo f k = none) : ∀ m, k ≤ m → laTo f m = none := by
  intro m hm
  induction m with
  | zero => obtain rfl : k = 0 := by omega
            exact h
  | succ m ih =>
    by_cases e : k = m + 1
    · subst e; exact h
    · rw [laTo, ih (by omega)]
theorem laTo_len {f : Nat → Option Bool} : ∀ {k : Nat} {out : List Int}, laTo f k = some out → out.length ≤ k
  | 0, out, h => by cases h; exact Nat.le_refl _
  | k + 1, out, h => by
    rw [laTo] at h
    split at h
    · cases h
    · rename_i o ho
      have := laTo_len ho
      split at h
      · cases h
      · cases h
        split
        · simp only [List.length_append, List.length_singleton]; omega
        · omega
noncomputable def laRes (n : Int) (t : Nat → Nat → Nat) (ls : List (List Nat)) : List Int × Int :=
  if isSq n t = true then (if 30 < ls.length then ([], 2) else match laTo (fun k => laAt n.toNat t (ls.getD k [])) ls.length with | none => ([], 6) | some out => (out, 0)) else ([], 1)
/-- Texts as cells. -/
def txF (ls : List (List Nat)) (j : Nat) : Value := .string (str (ls.getD j []))
theorem bsl_i640 (w : World) : (Instr.buildSlice 26 0 [].toArray).run Tryd.prog w = .ok (.slice (some ⟨w.heap.size, 0, none⟩) 0 0) (w.alloc (.cells #[] 2)) := by kernel_rfl
theorem bsl_i641 (x : Int) (w : World) : (Instr.buildSlice 26 1 [(0, Value.int .i64 x)].toArray).run Tryd.prog w = .ok (.slice (some ⟨w.heap.size, 0, none⟩) 1 1) (w.alloc (.cells #[.int .i64 x] 2)) := by kernel_rfl
theorem flat_i1 (x : Int) : flat #[.int .i64 x] := fun u hu => by
  have : u = .int .i64 x := by simpa using hu
  subst this; rfl

end Go.Proofs.YtpmemoabkbmljaaDoor
