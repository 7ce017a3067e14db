/- Whether an identity holds at three elements, for the program: a contract. -/
import Derived.Test.YtpmemoabkbmljaaC67
namespace Go.Proofs.Ytpmemoabkbmljaa
set_option linter.unusedSimpArgs false
set_option linter.unusedVariables false
open Go Go.RowKit

theorem neB_eq (t : Nat → Nat → Nat) (f : Nat → Nat) (m : Nat) (g : Nat → Nat) (l x y z : Nat) : neB t f m g l x y z = !((evB t x y z f m : Int) == (evB t x y z g l : Int)) := by
  by_cases h : evB t x y z f m = evB t x y z g l
  · rw [neB_false h, h]; simp
  · rw [neB_true h, neI h]; rfl

set_option maxRecDepth 100000 in
set_option maxHeartbeats 2000000 in
theorem holds_any (n : Nat) (t : Nat → Nat → Nat) (hs : IsSq (n : Int) t) (x y z : Nat) (hx : x < n) (hy : y < n) (hz : z < n) (xs ys : List Nat) (hX : isTm (elB xs) xs.length = true) (hY : isTm (elB ys) ys.length = true) (vcs : Array Value) (hv : VlC n t vcs) (bv : Nat)
    (w : World) (p1 p2 : Option Addr) (c1 c2 : Nat) (r1 : rdq w p1 xs.length (bytF xs)) (r2 : rdq w p2 ys.length (bytF ys)) (hb : blk w bv vcs 87) :
    Calls Try.prog 44 #[.pointer (some ⟨bv, 0, none⟩), .agg (idV p1 c1 p2 c2 xs.length ys.length), .agg (by3 x y z)] w fun e w' => e = .returned (.bool (!neB t (elB xs) xs.length (elB ys) ys.length x y z)) ∧ Below w.heap.size w w' := by
  have M := Mm.start no w
  have O1 := fun w1 (h : Below w.heap.size w w1) => of_any n t hs x y z (by omega) (by omega) (by omega) xs hX vcs hv bv w1 p1 c1 (r1.later h) (hb.later h)
  have O2 := fun w1 (h : Below w.heap.size w w1) => of_any n t hs x y z (by omega) (by omega) (by omega) ys hY vcs hv bv w1 p2 c2 (r2.later h) (hb.later h)
  have hI1 := idv_0 p1 c1 p2 c2 xs.length ys.length
  have hI2 := idv_1 p1 c1 p2 c2 xs.length ys.length
  rw [neB_eq, Bool.not_not]
  generalize evB t x y z (elB xs) xs.length = v1 at O1
  generalize evB t x y z (elB ys) ys.length = v2 at O2
  clear r1 r2 hb hv hX hY hs
  go_enter Try.func44, Try.ntmps44
  go_wp2_with (first | ((with_reducible apply wpM_box' M 37 (idV p1 c1 p2 c2 xs.length ys.length)); rfl; exact ⟨rfl, rfl⟩; clear M; (try clear C); intro bi w9 h_bi M; have C := M.ruleAll; simp only [Go.Proofs.Ytpmemoabkbmljaa.ruleAll] at C) | ((with_reducible apply wpM_box' M 70 (by3 x y z)); rfl; exact ⟨rfl, rfl⟩; clear M; (try clear C); intro ba w9 h_ba M; have C := M.ruleAll; simp only [Go.Proofs.Ytpmemoabkbmljaa.ruleAll] at C))
  apply wp_region_mm M 10 (by kernel_rfl) (by kernel_rfl); (simp only [List.take_succ_cons, List.take_zero]; repeat (first | exact wpText_nil | (apply wpText_cons; (intro w2 M; have C := M.ruleAll; simp only [Go.Proofs.Ytpmemoabkbmljaa.ruleAll] at C; go_wp2_with (first | ((with_reducible apply wpM_lda' M 0 70 0 (by3 x y z)); rfl; rfl; rfl; exact ⟨rfl, inf_by3.trans (congrArg some (by3_size ..).symm), _, und_by3, rfl⟩; exact whole_of rfl) | (go_at_call 58; ((with_reducible refine (O1 _ M.below).mono ?_); rintro e w1 ⟨rfl, hb⟩; have hsz := M.size; (try (have G9 := G.later hb; clear G; have G := G9; clear G9)); have M9 := M.later hb; clear M; (try clear C); have M := M9; clear M9; have C := M.ruleAll; simp only [Go.Proofs.Ytpmemoabkbmljaa.ruleAll] at C)) | (go_at_call 58; ((with_reducible refine (O2 _ M.below).mono ?_); rintro e w1 ⟨rfl, hb⟩; have hsz := M.size; (try (have G9 := G.later hb; clear G; have G := G9; clear G9)); have M9 := M.later hb; clear M; (try clear C); have M := M9; clear M9; have C := M.ruleAll; simp only [Go.Proofs.Ytpmemoabkbmljaa.ruleAll] at C))); exact ⟨rfl, rfl, M⟩); rfl))); (clear M; (try clear C); intro w2 M; simp only [List.drop_succ_cons, List.drop_zero]; have C := M.ruleAll; simp only [Go.Proofs.Ytpmemoabkbmljaa.ruleAll] at C)
  go_wp2
  go_ret
  exact ⟨rfl, M.below⟩
end Go.Proofs.Ytpmemoabkbmljaa
