/- All isomorphisms, for the reference: a contract. -/
import Derived.Test.YtinjjaoikofkdaaC15
namespace Go.Proofs.Ytinjjaoikofkdaa
set_option linter.unusedSimpArgs false
set_option linter.unusedVariables false
open Go Go.RowKit

set_option maxRecDepth 100000 in
set_option maxHeartbeats 1000000 in
theorem l02All_any (N : Nat) (t u : Nat → Nat → Nat) (most : Nat) (w : World) (h0 : 1 ≤ N) (h1 : N ≤ 10) (ht : ∀ x y : Nat, x < N → y < N → t x y < N) (hu : ∀ x y : Nat, x < N → y < N → u x y < N) (hm0 : 0 < most) (hmost : most ≤ 1000000) :
    Calls Try.prog 103 #[.agg (sqs (N : Int) t), .agg (sqs (N : Int) u), .int .i64 (most : Int)] w fun e w' =>
      ∃ v', e = .returned v' ∧ w'.ownsRow w.heap.size 70 10 v' ((isos N t u fun _ => none).take most).length (plCells ((isos N t u fun _ => none).take most)) ∧ Below w.heap.size w w' := by
  have hM := fun w1 hb1 => l02Maps_any N t u most w.heap.size h0 h1 ht hu hmost (N + 1) PM.zero [] (.slice none 0 0) w1 (zero_va N) (zero_cl N t u) (by have := um_le PM.zero.to N; omega) hm0 hb1 (World.ownsRow_nil _ _ _ _)
  rw [show PM.abs PM.zero = fun _ => none from rfl] at hM
  simp only [List.nil_append] at hM
  generalize (isos N t u fun _ => none).take most = l at hM
  have hM := Hid2.mk hM
  have q1 := (blk_new w (sqs (N : Int) t) 43 w.heap.size rfl).alloc (.cells (sqs (N : Int) u) 43)
  have q2 := blk_new (w.alloc (.cells (sqs (N : Int) t) 43)) (sqs (N : Int) u) 43 (w.heap.size + 1) (by simp)
  have qB : Below w.heap.size w ((w.alloc (.cells (sqs (N : Int) t) 43)).alloc (.cells (sqs (N : Int) u) 43)) := by
    repeat (first | exact Below.refl _ _ | (refine below_alloc ?_ _))
  have c1 := q1.cell 0 _ (sqs_order (N : Int) t)
  have c2 := q2.cell 0 _ (sqs_order (N : Int) u)
  go_enter Try.func103, Try.ntmps103
  go_wp2
  apply wp_region_text_tail 4 (fun w' => Below w.heap.size w w' ∧ blk w' w.heap.size (sqs (N : Int) t) 43 ∧ blk w' (w.heap.size + 1) (sqs (N : Int) u) 43) (by kernel_rfl) (by kernel_rfl) (⟨qB.drew, q1.drew, q2.drew⟩); (simp only [List.take_succ_cons, List.take_zero]; repeat (first | exact wpText_nil | (apply wpText_cons; (intro w2 hS; obtain ⟨hB2, d1, d2⟩ := hS; go_wp2_with (first | (refine wpList_load_part rfl 43 _ rfl (w.heap.size) (0) rfl (sqs (N : Int) t) _ und_sqs rfl inf_sqs (cells_of_blk0 d1) ?_) | (refine wpList_load_part rfl 43 _ rfl (w.heap.size + 1) (0) rfl (sqs (N : Int) u) _ und_sqs rfl inf_sqs (cells_of_blk0 d2) ?_) | (go_at_call 119; ((with_reducible refine (l02Start_any _).mono ?_); rintro e w3 ⟨rfl, hb⟩))); (first | exact ⟨rfl, rfl, hB2, d1, d2⟩ | exact ⟨rfl, rfl, below_self hB2 hb, d1.later hb, d2.later hb⟩)); rfl)))
  (intro w2 hS; simp only [List.drop_succ_cons, List.drop_zero]; obtain ⟨hB4, d1, d2⟩ := hS)
  go_wp2_with (first | (go_at_call 118; ((with_reducible refine (hM.out _ hB4.size).mono ?_); rintro e w3 ⟨v', rfl, hO, hg, hf⟩)))
  go_ret
  exact ⟨v', rfl, hO, hB4.grown hg hB4.size fun k h => by simp [Value.ownBlock] at h⟩
end Go.Proofs.Ytinjjaoikofkdaa
