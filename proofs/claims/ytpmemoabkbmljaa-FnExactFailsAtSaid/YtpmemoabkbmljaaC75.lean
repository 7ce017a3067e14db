/- An identity in new memory is marked: a contract. -/
import Derived.Test.YtpmemoabkbmljaaC74
namespace Go.Proofs.Ytpmemoabkbmljaa
set_option linter.unusedSimpArgs false
set_option linter.unusedVariables false
open Go Go.RowKit

set_option maxRecDepth 100000 in
set_option maxHeartbeats 1000000 in
theorem markIdentity_any (n m g1 g2 : Nat) (cs1 cs2 : Array Value) (h1 : cs1.size = n) (h2 : cs2.size = m) (hn : n ≤ 1048576) (hm : m ≤ 1048576) (d1 d2 : Nat) (k : Int) (h0 : 0 ≤ k) (hk : k ≤ 1048576) (w : World) (M0 : Mm no w w [.box g1 cs1 5, .box g2 cs2 5]) :
    Calls Try.prog 12 #[.agg (idV (some ⟨g1, 0, none⟩) d1 (some ⟨g2, 0, none⟩) d2 n m), .int .i64 k] w fun e w' => e = .returned (.int .i64 (k + (n : Int) + (m : Int))) ∧ ∃ cs1' cs2', Mm (fun b => b = g1 ∨ b = g2) w w' [.box g1 cs1' 5, .box g2 cs2' 5] := by
  have M := M0.only (fun b => b = g1 ∨ b = g2)
  have hI1 := idv_0 (some ⟨g1, 0, none⟩) d1 (some ⟨g2, 0, none⟩) d2 n m
  have hI2 := idv_1 (some ⟨g1, 0, none⟩) d1 (some ⟨g2, 0, none⟩) d2 n m
  have H1 := Hid2.mk (fun w1 hb => markByteS_any g1 n 5 cs1 h1 hn d1 k h0 (by omega) w1 hb)
  have H2 := Hid2.mk (fun w1 hb => markByteS_any g2 m 5 cs2 h2 hm d2 (k + (n : Int)) (by omega) (by omega) w1 hb)
  clear M0
  have C := M.ruleAll; simp only [Go.Proofs.Ytpmemoabkbmljaa.ruleAll] at C
  go_enter Try.func12, Try.ntmps12
  go_wp2_with (first | ((with_reducible apply wpM_box' M 37 (idV (some ⟨g1, 0, none⟩) d1 (some ⟨g2, 0, none⟩) d2 n m)); rfl; exact ⟨rfl, rfl⟩; clear M; (try clear C); intro bi w9 h_bi M; have C := M.ruleAll; simp only [Go.Proofs.Ytpmemoabkbmljaa.ruleAll] at C) | (go_at_call 29; fail))
  refine (H1.out _ (M.box 1 rfl)).mono ?_
  rintro e w1 ⟨rfl, hg, cs1', hb⟩
  have M9 := M.wrote 1 rfl (.inr (.inl rfl)) hg hb
  simp only [List.set_cons_zero, List.set_cons_succ] at M9
  clear M; (try clear C)
  have M := M9
  clear M9 hg hb
  have C := M.ruleAll; simp only [Go.Proofs.Ytpmemoabkbmljaa.ruleAll] at C
  go_wp2_with (first | (go_at_call 29; fail))
  refine (H2.out _ (M.box 2 rfl)).mono ?_
  rintro e w2 ⟨rfl, hg, cs2', hb⟩
  have M9 := M.wrote 2 rfl (.inr (.inr rfl)) hg hb
  simp only [List.set_cons_zero, List.set_cons_succ] at M9
  clear M; (try clear C)
  have M := M9
  clear M9 hg hb
  go_wp2
  go_ret
  exact ⟨rfl, cs1', cs2', M.drop 0⟩
end Go.Proofs.Ytpmemoabkbmljaa
