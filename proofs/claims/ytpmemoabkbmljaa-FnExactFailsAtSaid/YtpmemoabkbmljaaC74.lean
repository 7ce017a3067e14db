/- Identities in the laws: measured, laid anew, compared and marked; contracts. -/
import Derived.Test.YtpmemoabkbmljaaC73
namespace Go.Proofs.Ytpmemoabkbmljaa
set_option linter.unusedSimpArgs false
set_option linter.unusedVariables false
open Go Go.RowKit

theorem zero_idn (w : World) : (zeroValue 37).run Try.prog w = .ok (.agg (idV none 0 none 0 0 0)) w := by kernel_rfl
theorem flat_idv (p1 : Option Addr) (c1 : Nat) (p2 : Option Addr) (c2 n m : Nat) : flat (idV p1 c1 p2 c2 n m) := fun u hu => by
  have h : u = .slice p1 n c1 ∨ u = .slice p2 m c2 := by simpa [idV] using hu
  rcases h with rfl | rfl <;> rfl

set_option maxRecDepth 100000 in
set_option maxHeartbeats 400000 in
theorem szIdentity_any (n m : Nat) (hn : n ≤ 9223372036854775807) (hm : m ≤ 9223372036854775807) (w : World) (p1 p2 : Option Addr) (c1 c2 : Nat) (left : Int) (h0 : 0 ≤ left) (h1 : left ≤ 1048576) :
    Calls Try.prog 5 #[.agg (idV p1 c1 p2 c2 n m), .int .i64 left] w fun e w' => ∃ r : Int, e = .returned (.int .i64 r) ∧ (0 ≤ r → r ≤ left ∧ (n : Int) ≤ left ∧ (m : Int) ≤ left) ∧ Below w.heap.size w w' := by
  have M := Mm.start no w
  have hI1 := idv_0 p1 c1 p2 c2 n m
  have hI2 := idv_1 p1 c1 p2 c2 n m
  have HS := Hid2.mk (fun w1 => szByteS_any n hn w1 p1 c1 left h0 h1)
  have HS2 := Hid2.mk (fun w1 left h0 h1 => szByteS_any m hm w1 p2 c2 left h0 h1)
  clear hn hm
  go_enter Try.func5, Try.ntmps5
  go_wp2_with (first | ((with_reducible apply wpM_box' M 28 (idV p1 c1 p2 c2 n m)); rfl; exact ⟨rfl, rfl⟩; clear M; (try clear C); intro bi w9 h_bi M; have C := M.ruleAll; simp only [Go.Proofs.Ytpmemoabkbmljaa.ruleAll] at C) | (go_at_call 21; fail))
  refine (HS.out _).mono ?_
  rintro e w1 ⟨r, rfl, hr, hb⟩
  have M9 := M.later hb
  clear M; (try clear C)
  have M := M9
  clear M9 hb
  have C := M.ruleAll; simp only [Go.Proofs.Ytpmemoabkbmljaa.ruleAll] at C
  by_cases hneg : r < 0
  · go_wp2
    go_ret
    exact ⟨-1, rfl, fun h => by omega, M.below⟩
  · have hq := hr (by omega)
    have H2 := fun w1 => HS2.out w1 r (by omega) (by omega)
    clear hr
    go_wp2_with (first | (go_at_call 21; fail))
    refine (H2 _).mono ?_
    rintro e w2 ⟨r2, rfl, hr2, hb⟩
    have M9 := M.later hb
    clear M; (try clear C)
    have M := M9
    clear M9 hb
    by_cases hneg2 : r2 < 0
    · go_wp2
      go_ret
      exact ⟨-1, rfl, fun h => by omega, M.below⟩
    · go_wp2
      go_ret
      exact ⟨r2, rfl, fun h => by have := hr2 h; omega, M.below⟩

set_option maxRecDepth 100000 in
set_option maxHeartbeats 1000000 in
theorem eqIdentity_any (xs ys : List Nat) (hn : xs.length ≤ 9223372036854775807) (hm : ys.length ≤ 9223372036854775807) (w : World) (p1 p2 q1 q2 : Option Addr) (c1 c2 d1 d2 : Nat) (r1 : rdq w p1 xs.length (bytF xs)) (r2 : rdq w p2 ys.length (bytF ys)) (s1 : rdq w q1 xs.length (bytF xs)) (s2 : rdq w q2 ys.length (bytF ys)) :
    Calls Try.prog 11 #[.agg (idV p1 c1 p2 c2 xs.length ys.length), .agg (idV q1 d1 q2 d2 xs.length ys.length)] w fun e w' => e = .returned (.bool true) ∧ Below w.heap.size w w' := by
  have M := Mm.start no w
  have hI1 := idv_0 p1 c1 p2 c2 xs.length ys.length
  have hI2 := idv_1 p1 c1 p2 c2 xs.length ys.length
  have hJ1 := idv_0 q1 d1 q2 d2 xs.length ys.length
  have hJ2 := idv_1 q1 d1 q2 d2 xs.length ys.length
  have H1 := fun w1 (hb : Below w.heap.size w w1) => eqByteS_any xs hn w1 p1 q1 c1 d1 (r1.later hb) (s1.later hb)
  have H2 := fun w1 (hb : Below w.heap.size w w1) => eqByteS_any ys hm w1 p2 q2 c2 d2 (r2.later hb) (s2.later hb)
  clear r1 r2 s1 s2 hn hm
  go_enter Try.func11, Try.ntmps11
  go_wp2_with (first | ((with_reducible apply wpM_box' M 37 (idV p1 c1 p2 c2 xs.length ys.length)); rfl; exact ⟨rfl, rfl⟩; clear M; (try clear C); intro bi w9 h_bi M; have C := M.ruleAll; simp only [Go.Proofs.Ytpmemoabkbmljaa.ruleAll] at C) | ((with_reducible apply wpM_box' M 37 (idV q1 d1 q2 d2 xs.length ys.length)); rfl; exact ⟨rfl, rfl⟩; clear M; (try clear C); intro bj w9 h_bj M; have C := M.ruleAll; simp only [Go.Proofs.Ytpmemoabkbmljaa.ruleAll] at C) | (go_at_call 28; ((with_reducible refine (H1 _ M.below).mono ?_); rintro e w1 ⟨rfl, hb⟩; have hsz := M.size; (try (have G9 := G.later hb; clear G; have G := G9; clear G9)); have M9 := M.later hb; clear M; (try clear C); have M := M9; clear M9; have C := M.ruleAll; simp only [Go.Proofs.Ytpmemoabkbmljaa.ruleAll] at C)) | (go_at_call 28; ((with_reducible refine (H2 _ M.below).mono ?_); rintro e w1 ⟨rfl, hb⟩; have hsz := M.size; (try (have G9 := G.later hb; clear G; have G := G9; clear G9)); have M9 := M.later hb; clear M; (try clear C); have M := M9; clear M9; have C := M.ruleAll; simp only [Go.Proofs.Ytpmemoabkbmljaa.ruleAll] at C)))
  go_ret
  exact ⟨rfl, M.below⟩

/-- An identity in new memory. -/
def IdNew (xs ys : List Nat) (w : World) (v : Value) (w' : World) : Prop :=
  ∃ g1 g2 cs1 cs2, v = .agg (idV (some ⟨g1, 0, none⟩) xs.length (some ⟨g2, 0, none⟩) ys.length xs.length ys.length) ∧ w.heap.size ≤ g1 ∧ w.heap.size ≤ g2 ∧ bytC xs cs1 ∧ bytC ys cs2 ∧ Mm no w w' [.box g1 cs1 5, .box g2 cs2 5]

set_option maxRecDepth 100000 in
set_option maxHeartbeats 1000000 in
theorem toIdentity_any (xs ys : List Nat) (hn : xs.length ≤ 1048576) (hm : ys.length ≤ 1048576) (w : World) (p1 p2 : Option Addr) (c1 c2 : Nat) (r1 : rdp w p1 xs.length (bytF xs)) (r2 : rdp w p2 ys.length (bytF ys)) :
    Calls Try.prog 8 #[.agg (idV p1 c1 p2 c2 xs.length ys.length)] w fun e w' => ∃ v, e = .returned v ∧ IdNew xs ys w v w' := by
  have M := Mm.start no w
  have hI1 := idv_0 p1 c1 p2 c2 xs.length ys.length
  have hI2 := idv_1 p1 c1 p2 c2 xs.length ys.length
  have H1 := Hid2.mk (fun w1 (hb : Below w.heap.size w w1) => toByteS_any xs hn w1 p1 c1 (r1.later hb))
  have H2 := Hid2.mk (fun w1 (hb : Below w.heap.size w w1) => toByteS_any ys hm w1 p2 c2 (r2.later hb))
  clear r1 r2 hn hm
  go_enter Try.func8, Try.ntmps8
  go_wp2_with (first | ((with_reducible apply wpM_box' M 28 (idV p1 c1 p2 c2 xs.length ys.length)); rfl; exact ⟨rfl, rfl⟩; clear M; (try clear C); intro bi w9 h_bi M; have C := M.ruleAll; simp only [Go.Proofs.Ytpmemoabkbmljaa.ruleAll] at C) | (have hq := h_bo; clear hq; ((with_reducible apply wpM_alloc' M 37 (idV none 0 none 0 0 0)); rfl; exact ⟨rfl, _, zero_idn _, rfl⟩; clear M; (try clear C); intro bx w9 h_bx M; have C := M.ruleAll; simp only [Go.Proofs.Ytpmemoabkbmljaa.ruleAll] at C)) | ((with_reducible apply wpM_alloc' M 37 (idV none 0 none 0 0 0)); rfl; exact ⟨rfl, _, zero_idn _, rfl⟩; clear M; (try clear C); intro bo w9 h_bo M; have C := M.ruleAll; simp only [Go.Proofs.Ytpmemoabkbmljaa.ruleAll] at C) | (go_at_call 25; fail))
  refine (H1.out _ M.below).mono ?_
  rintro e w1 ⟨g1, rfl, hg1, cs1, hs1, M'⟩
  have M9 := M.join1 M' (new_box hg1)
  have G1 := Hid2.mk (Nat.le_trans M.size hg1)
  clear M; (try clear C)
  have M := M9
  clear M9 M' hg1
  have C := M.ruleAll; simp only [Go.Proofs.Ytpmemoabkbmljaa.ruleAll] at C
  go_wp2_with (first | ((with_reducible apply wpM_st' M 1 26 (0) (idV (some ⟨g1, 0, none⟩) xs.length none 0 xs.length 0)); rfl; rfl; rfl; (first | exact .inl (by assumption) | exact .inr rfl | exact .inr (by assumption)); exact ⟨rfl, rfl, by kernel_rfl⟩; (exact Nat.lt_of_lt_of_eq (by omega) (idv_size ..).symm); exact rfl; clear M; (try clear C); intro w9 M; simp only [List.set_cons_zero, List.set_cons_succ, entBlk, entT, List.getElem?_cons_zero, List.getElem?_cons_succ] at M; have C := M.ruleAll; simp only [Go.Proofs.Ytpmemoabkbmljaa.ruleAll] at C) | (go_at_call 25; fail))
  refine (H2.out _ M.below).mono ?_
  rintro e w2 ⟨g2, rfl, hg2, cs2, hs2, M'⟩
  have M9 := M.join1 M' (new_box hg2)
  have G2 := Hid2.mk (Nat.le_trans M.size hg2)
  clear M; (try clear C)
  have M := M9
  clear M9 M' hg2
  have C := M.ruleAll; simp only [Go.Proofs.Ytpmemoabkbmljaa.ruleAll] at C
  have S1 := Hid2.mk hs1
  have S2 := Hid2.mk hs2
  clear hs1 hs2
  go_wp2_with (first | ((with_reducible apply wpM_st' M 2 26 (1) (idV (some ⟨g1, 0, none⟩) xs.length (some ⟨g2, 0, none⟩) ys.length xs.length ys.length)); rfl; rfl; rfl; (first | exact .inl (by assumption) | exact .inr rfl | exact .inr (by assumption)); exact ⟨rfl, rfl, by kernel_rfl⟩; (exact Nat.lt_of_lt_of_eq (by omega) (idv_size ..).symm); exact rfl; clear M; (try clear C); intro w9 M; simp only [List.set_cons_zero, List.set_cons_succ, entBlk, entT, List.getElem?_cons_zero, List.getElem?_cons_succ] at M; have C := M.ruleAll; simp only [Go.Proofs.Ytpmemoabkbmljaa.ruleAll] at C) | ((with_reducible apply wpM_lda' M 2 37 0 (idV (some ⟨g1, 0, none⟩) xs.length (some ⟨g2, 0, none⟩) ys.length xs.length ys.length)); rfl; rfl; rfl; exact ⟨rfl, inf_idn.trans (congrArg some (idv_size ..).symm), _, und_idn, rfl⟩; exact whole_of rfl) | ((with_reducible apply wpM_sta' M 3 37 (idV (some ⟨g1, 0, none⟩) xs.length (some ⟨g2, 0, none⟩) ys.length xs.length ys.length)); rfl; rfl; rfl; rfl; (first | exact .inl (by assumption) | exact .inr rfl | exact .inr (by assumption)); exact ⟨rfl, inf_idn.trans (congrArg some (idv_size ..).symm), flat_idv _ _ _ _ _ _⟩; (simp only [entCells, List.getElem?_cons_zero, List.getElem?_cons_succ, idv_size, idv_size]); clear M; (try clear C); intro w9 M; simp only [List.set_cons_zero, List.set_cons_succ, entBlk, entT, List.getElem?_cons_zero, List.getElem?_cons_succ] at M; have C := M.ruleAll; simp only [Go.Proofs.Ytpmemoabkbmljaa.ruleAll] at C))
  refine bodyPost_ret (v := .agg (idV (some ⟨g1, 0, none⟩) xs.length (some ⟨g2, 0, none⟩) ys.length xs.length ys.length)) (by exact results_part rfl _ _ _ _ _ _ rfl und_idn rfl inf_idn (cells_of_blk0 (M.box 3 rfl))) rfl ?_
  exact ⟨_, rfl, g1, g2, cs1, cs2, rfl, G1.out, G2.out, S1.out, S2.out, M.sub [1, 0] (by decide)⟩
end Go.Proofs.Ytpmemoabkbmljaa
