/- The search for the first place where an identity does not hold, for the program: contracts. -/
import Derived.Test.YtpmemoabkbmljaaC68
import Derived.Shelf.Abstract
namespace Go.Proofs.Ytpmemoabkbmljaa
set_option linter.unusedSimpArgs false
set_option linter.unusedVariables false
open Go Go.RowKit

theorem Mm.wide {w0 w : World} {L : List Ent} (M : Mm no w0 w L) (D : Nat → Prop) : Mm D w0 w L := ⟨⟨M.kept.os, M.kept.tape, M.kept.output, M.kept.size, fun k h _ => M.kept.block k h id⟩, M.ents, M.dist⟩
/-- The variables that the visitor has: where the values, the identity and the list lie. -/
structure FEnv (n : Nat) (t : Nat → Nat → Nat) (xs ys : List Nat) (V vcs : Array Value) (bv bp bi bo : Nat) (p1 p2 : Option Addr) (c1 c2 : Nat) : Prop where
  sq : IsSq (n : Int) t
  tx : isTm (elB xs) xs.length = true
  ty : isTm (elB ys) ys.length = true
  vl : VlC n t vcs
  hV : V = idV p1 c1 p2 c2 xs.length ys.length
/-- What the visitor's world holds. -/
def fL (V vcs : Array Value) (bv bp bi bo : Nat) (v0 : Value) : List Ent := [.box bo #[v0] 30, .box bp #[.pointer (some ⟨bv, 0, none⟩)] 67, .box bi V 37, .box bv vcs 87]
def by3I (x y z : Nat) : Array Value := #[.int .i64 (x : Int), .int .i64 (y : Int), .int .i64 (z : Int)]

set_option maxRecDepth 100000 in
set_option maxHeartbeats 2000000 in
theorem failsFn_any (n : Nat) (t : Nat → Nat → Nat) (xs ys : List Nat) (V vcs : Array Value) (bv bp bi bo : Nat) (p1 p2 : Option Addr) (c1 c2 : Nat) (F : FEnv n t xs ys V vcs bv bp bi bo p1 p2 c1 c2) (x y z : Nat) (hx : x < n) (hy : y < n) (hz : z < n) (v0 : Value)
    (D : Nat → Prop) (hD : D bo) (w : World) (M0 : Mm no w w (fL V vcs bv bp bi bo v0)) (r1 : rdq w p1 xs.length (bytF xs)) (r2 : rdq w p2 ys.length (bytF ys)) :
    Calls Try.prog 43 #[.agg (by3 x y z), .pointer (some ⟨bp, 0, none⟩), .pointer (some ⟨bi, 0, none⟩), .pointer (some ⟨bo, 0, none⟩)] w fun e w' =>
      (neB t (elB xs) xs.length (elB ys) ys.length x y z = false → e = .returned (.bool false) ∧ Below w.heap.size w w') ∧
      (neB t (elB xs) xs.length (elB ys) ys.length x y z = true → e = .returned (.bool true) ∧ ∃ g, w.heap.size ≤ g ∧ Mm D w w' [.box bo #[.slice (some ⟨g, 0, none⟩) 3 3] 30, .box g (by3I x y z) 2]) := by
  obtain ⟨sq, tx, ty, vl, rfl⟩ := F
  have hn2 : n ≤ 10 := by have := sq.hi; omega
  have H := fun w1 (h : Below w.heap.size w w1) => holds_any n t sq x y z hx hy hz xs ys tx ty vcs vl bv w1 p1 p2 c1 c2 (r1.later h) (r2.later h) ((M0.box 3 rfl).later h)
  have M : Mm no w w [.box bo #[v0] 30, .box bp #[.pointer (some ⟨bv, 0, none⟩)] 67, .box bi (idV p1 c1 p2 c2 xs.length ys.length) 37, .box bv vcs 87] := M0
  have hp0 : (#[.pointer (some ⟨bv, 0, none⟩)] : Array Value)[0]? = some (.pointer (some ⟨bv, 0, none⟩)) := rfl
  have ha0 : (by3 x y z)[0]? = some (.int .u8 (x : Int)) := rfl
  have ha1 : (by3 x y z)[1]? = some (.int .u8 (y : Int)) := rfl
  have ha2 : (by3 x y z)[2]? = some (.int .u8 (z : Int)) := rfl
  have hx10 : (x : Int) < 10 := by omega
  have hy10 : (y : Int) < 10 := by omega
  have hz10 : (z : Int) < 10 := by omega
  have HB := Hid2.mk (show ∀ w', Kept no w w' → Below w.heap.size w w' from fun _ h => h.below)
  clear M0 r1 r2 tx ty vl sq
  have C := M.ruleAll; simp only [Go.Proofs.Ytpmemoabkbmljaa.ruleAll] at C
  cases hp : neB t (elB xs) xs.length (elB ys) ys.length x y z with
  | false =>
    rw [hp] at H
    go_enter Try.func43, Try.ntmps43
    go_wp2_with (first | ((with_reducible apply wpM_box' M 70 (by3 x y z)); rfl; exact ⟨rfl, rfl⟩; clear M; (try clear C); intro ba w9 h_ba M; have C := M.ruleAll; simp only [Go.Proofs.Ytpmemoabkbmljaa.ruleAll] at C) | ((with_reducible apply wpM_lda' M 0 70 0 (by3 x y z)); rfl; rfl; rfl; exact ⟨rfl, inf_by3.trans (congrArg some (by3_size ..).symm), _, und_by3, rfl⟩; exact whole_of rfl) | ((with_reducible apply wpM_lda' M 3 37 0 (idV p1 c1 p2 c2 xs.length ys.length)); rfl; rfl; rfl; exact ⟨rfl, inf_idn.trans (congrArg some (idv_size ..).symm), _, und_idn, rfl⟩; exact whole_of rfl) | (go_at_call 44; fail))
    refine (H _ M.below).mono ?_
    rintro e w1 ⟨rfl, hb⟩
    have M9 := M.later hb
    clear M; (try clear C)
    have M := M9
    clear M9 hb
    have C := M.ruleAll; simp only [Go.Proofs.Ytpmemoabkbmljaa.ruleAll] at C
    go_wp2
    go_ret
    exact ⟨fun _ => ⟨rfl, M.below⟩, fun h => (by cases h)⟩
  | true =>
    rw [hp] at H
    go_enter Try.func43, Try.ntmps43
    go_wp2_with (first | ((with_reducible apply wpM_box' M 70 (by3 x y z)); rfl; exact ⟨rfl, rfl⟩; clear M; (try clear C); intro ba w9 h_ba M; have C := M.ruleAll; simp only [Go.Proofs.Ytpmemoabkbmljaa.ruleAll] at C) | ((with_reducible apply wpM_lda' M 0 70 0 (by3 x y z)); rfl; rfl; rfl; exact ⟨rfl, inf_by3.trans (congrArg some (by3_size ..).symm), _, und_by3, rfl⟩; exact whole_of rfl) | ((with_reducible apply wpM_lda' M 3 37 0 (idV p1 c1 p2 c2 xs.length ys.length)); rfl; rfl; rfl; exact ⟨rfl, inf_idn.trans (congrArg some (idv_size ..).symm), _, und_idn, rfl⟩; exact whole_of rfl) | (go_at_call 44; fail))
    refine (H _ M.below).mono ?_
    rintro e w1 ⟨rfl, hb⟩
    have M9 := (M.later hb).wide D
    clear M; (try clear C)
    have M := M9
    clear M9 hb
    have C := M.ruleAll; simp only [Go.Proofs.Ytpmemoabkbmljaa.ruleAll] at C
    go_wp2_with (first | ((with_reducible apply wpM_bsl' M 30 3 2 ([(0, .int .i64 (x : Int)), (1, .int .i64 (y : Int)), (2, .int .i64 (z : Int))]) (by3I x y z)); rfl; rfl; rfl; exact bsl_i3 _ _ _; clear M; (try clear C); intro bs w9 h_bs M; have C := M.ruleAll; simp only [Go.Proofs.Ytpmemoabkbmljaa.ruleAll] at C) | ((with_reducible apply wpM_st' M 2 30 (0) (#[.slice (some ⟨bs, 0, none⟩) 3 3])); rfl; rfl; rfl; (first | exact .inl (by assumption) | exact .inr rfl | exact .inr (by assumption)); exact ⟨rfl, rfl, by kernel_rfl⟩; exact Nat.zero_lt_one; exact rfl; clear M; (try clear C); intro w9 M; simp only [List.set_cons_zero, List.set_cons_succ, entBlk, entT, List.getElem?_cons_zero, List.getElem?_cons_succ] at M; have C := M.ruleAll; simp only [Go.Proofs.Ytpmemoabkbmljaa.ruleAll] at C))
    go_ret
    exact ⟨fun h => (by cases h), fun _ => ⟨rfl, bs, h_bs, M.sub [2, 0] (by decide)⟩⟩
end Go.Proofs.Ytpmemoabkbmljaa
