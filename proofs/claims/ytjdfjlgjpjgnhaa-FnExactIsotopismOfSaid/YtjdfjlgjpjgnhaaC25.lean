/- The law on the number of isotopisms: its walk. -/
import Derived.Test.YtjdfjlgjpjgnhaaC24
import Derived.Test.YtjdfjlgjpjgnhaaC5
namespace Go.Proofs.Ytjdfjlgjpjgnhaa
open Go Go.RowKit

theorem und_sq0 : Try.prog.underlying 25 = some (.struct (Try.prog.fieldsOf 25)) := by kernel_rfl
theorem inf_sq0 : (Try.prog.info? 25).map (·.size) = some 101 := by kernel_rfl

set_option maxRecDepth 100000 in
set_option maxHeartbeats 1000000 in
theorem lawCount_any (n k : Int) (t u : Nat → Nat → Nat) (w : World) (ht : Byt2 t) (hu : Byt2 u) :
    Calls Try.prog 3 #[.agg (sqs n t), .agg (sqs k u)] w fun e w' => e = .returned (.bool true) ∧ Below w.heap.size w w' := by
  have M := Mm.start no w
  have H1 := fun w1 => specCount_any n k t u w1 ht hu
  have H2 := fun w1 => implCount_any n k t u w1 ht hu
  generalize cntRes n t k u = c at H1 H2
  obtain ⟨c, d⟩ := c
  clear ht hu
  go_enter Try.func3, Try.ntmps3
  go_wp2_with (first | ((with_reducible apply wpM_box' M 25 (sqs n t)); rfl; exact ⟨rfl, rfl⟩; clear M; (try clear C); intro bq w9 h_bq M; have C := M.rules; simp only [List.forall_mem_cons, List.not_mem_nil, false_implies, implies_true, and_true, Ent.rules, true_and] at C) | ((with_reducible apply wpM_box' M 25 (sqs k u)); rfl; exact ⟨rfl, rfl⟩; clear M; (try clear C); intro br w9 h_br M; have C := M.rules; simp only [List.forall_mem_cons, List.not_mem_nil, false_implies, implies_true, and_true, Ent.rules, true_and] at C))
  apply wp_region_mm M 9 (by kernel_rfl) (by kernel_rfl); (simp only [List.take_succ_cons, List.take_zero]; repeat (first | exact wpText_nil | (apply wpText_cons; (intro w2 M; have C := M.rules; simp only [List.forall_mem_cons, List.not_mem_nil, false_implies, implies_true, and_true, Ent.rules, true_and] at C; go_wp2_with (first | ((with_reducible apply wpM_lda' M 1 25 0 (sqs n t)); rfl; rfl; rfl; exact ⟨rfl, inf_sq0.trans (congrArg some (sqs_size ..).symm), _, und_sq0, rfl⟩; exact whole_of rfl) | ((with_reducible apply wpM_lda' M 0 25 0 (sqs k u)); rfl; rfl; rfl; exact ⟨rfl, inf_sq0.trans (congrArg some (sqs_size ..).symm), _, und_sq0, rfl⟩; exact whole_of rfl) | (go_at_call 15; ((with_reducible refine (toSquare_any _ _ _).mono ?_); rintro e w1 ⟨rfl, hb⟩; have hsz := M.size; (try (have G9 := G.later hb; clear G; have G := G9; clear G9)); have M9 := M.later hb; clear M; (try clear C); have M := M9; clear M9; have C := M.rules; simp only [List.forall_mem_cons, List.not_mem_nil, false_implies, implies_true, and_true, Ent.rules, true_and] at C)) | (go_at_call 14; ((with_reducible refine (H1 _).mono ?_); rintro e w1 ⟨rfl, hb⟩; have hsz := M.size; (try (have G9 := G.later hb; clear G; have G := G9; clear G9)); have M9 := M.later hb; clear M; (try clear C); have M := M9; clear M9; have C := M.rules; simp only [List.forall_mem_cons, List.not_mem_nil, false_implies, implies_true, and_true, Ent.rules, true_and] at C))); exact ⟨rfl, rfl, M⟩); rfl))); (clear M; (try clear C); intro w2 M; simp only [List.drop_succ_cons, List.drop_zero]; have C := M.rules; simp only [List.forall_mem_cons, List.not_mem_nil, false_implies, implies_true, and_true, Ent.rules, true_and] at C)
  go_wp2
  apply wp_region_mm M 9 (by kernel_rfl) (by kernel_rfl); (simp only [List.take_succ_cons, List.take_zero]; repeat (first | exact wpText_nil | (apply wpText_cons; (intro w2 M; have C := M.rules; simp only [List.forall_mem_cons, List.not_mem_nil, false_implies, implies_true, and_true, Ent.rules, true_and] at C; go_wp2_with (first | ((with_reducible apply wpM_lda' M 1 25 0 (sqs n t)); rfl; rfl; rfl; exact ⟨rfl, inf_sq0.trans (congrArg some (sqs_size ..).symm), _, und_sq0, rfl⟩; exact whole_of rfl) | ((with_reducible apply wpM_lda' M 0 25 0 (sqs k u)); rfl; rfl; rfl; exact ⟨rfl, inf_sq0.trans (congrArg some (sqs_size ..).symm), _, und_sq0, rfl⟩; exact whole_of rfl) | (go_at_call 15; ((with_reducible refine (toSquare_any _ _ _).mono ?_); rintro e w1 ⟨rfl, hb⟩; have hsz := M.size; (try (have G9 := G.later hb; clear G; have G := G9; clear G9)); have M9 := M.later hb; clear M; (try clear C); have M := M9; clear M9; have C := M.rules; simp only [List.forall_mem_cons, List.not_mem_nil, false_implies, implies_true, and_true, Ent.rules, true_and] at C)) | (go_at_call 16; ((with_reducible refine (H2 _).mono ?_); rintro e w1 ⟨rfl, hb⟩; have hsz := M.size; (try (have G9 := G.later hb; clear G; have G := G9; clear G9)); have M9 := M.later hb; clear M; (try clear C); have M := M9; clear M9; have C := M.rules; simp only [List.forall_mem_cons, List.not_mem_nil, false_implies, implies_true, and_true, Ent.rules, true_and] at C))); exact ⟨rfl, rfl, M⟩); rfl))); (clear M; (try clear C); intro w2 M; simp only [List.drop_succ_cons, List.drop_zero]; have C := M.rules; simp only [List.forall_mem_cons, List.not_mem_nil, false_implies, implies_true, and_true, Ent.rules, true_and] at C)
  go_wp2
  go_ret
  exact ⟨rfl, M.below⟩
end Go.Proofs.Ytjdfjlgjpjgnhaa
