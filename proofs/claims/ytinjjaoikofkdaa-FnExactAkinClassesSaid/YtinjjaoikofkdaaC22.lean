/- The order of triples, for the reference: contracts. -/
import Derived.Test.YtinjjaoikofkdaaC3
import Derived.Test.YtinjjaoikofkdaaC10
import Derived.Test.YtinjjaoikofkdaaK9
import Derived.Test.YtinjjaoikofkdaaM8
namespace Go.Proofs.Ytinjjaoikofkdaa
set_option linter.unusedSimpArgs false
set_option linter.unusedVariables false
open Go Go.RowKit

/-- Lexicographically less, from place i on, for n places. -/
def lexB (f g : Nat → Nat) : Nat → Nat → Bool
  | 0, _ => false
  | n + 1, i => if f i = g i then lexB f g n (i + 1) else decide (f i < g i)
theorem lexB_succ (f g : Nat → Nat) (n i : Nat) : lexB f g (n + 1) i = if f i = g i then lexB f g n (i + 1) else decide (f i < g i) := rfl
def beforeT (x y : Tri) : Bool := if eqb x.f y.f = false then lexB x.f y.f 10 0 else if eqb x.g y.g = false then lexB x.g y.g 10 0 else lexB x.h y.h 10 0
theorem egt_plc : Try.prog.eqGuardType Try.prog.depth 70 = false := by kernel_rfl
theorem neq_plc (f g : Nat → Nat) (w : World) : (binOp .neq 70 (.agg (bys f)) (.agg (bys g))).run Try.prog w = .ok (.bool (!eqb f g)) w := by
  rw [run_neq_struct, equal_bys 9998 _ und_plc f g w]; rfl

set_option maxRecDepth 100000 in
set_option maxHeartbeats 1000000 in
theorem l02Less_any (f g : Nat → Nat) (w : World) : Calls Try.prog 127 #[.agg (bys f), .agg (bys g)] w fun e w' => e = .returned (.bool (lexB f g 10 0)) ∧ Below w.heap.size w w' := by
  have M := Mm.start no w
  go_enter Try.func127, Try.ntmps127
  go_wp2_with (first | ((with_reducible apply wpM_box' M 70 (bys f)); rfl; exact ⟨rfl, rfl⟩; clear M; (try clear C); intro bf w9 h_bf M; have C := M.ruleAll; simp only [Go.Proofs.Ytinjjaoikofkdaa.ruleAll] at C) | ((with_reducible apply wpM_box' M 70 (bys g)); rfl; exact ⟨rfl, rfl⟩; clear M; (try clear C); intro bg w9 h_bg M; have C := M.ruleAll; simp only [Go.Proofs.Ytinjjaoikofkdaa.ruleAll] at C))
  go_loopw [5] (fun i wr => ∃ k : Nat, k ≤ 10 ∧ i = .int .i64 (k : Int) ∧ lexB f g (10 - k) k = lexB f g 10 0 ∧ Mm no w wr [.box bg (bys g) 70, .box bf (bys f) 70]) (fun i _ => 10 - (intOf i).toNat)
  case atStart => exact ⟨0, by omega, rfl, rfl, M⟩
  case round =>
    obtain ⟨k, hk, rfl, hl, M9⟩ := hrel
    clear M; (try clear C)
    have M := M9
    clear M9
    have C := M.ruleAll; simp only [Go.Proofs.Ytinjjaoikofkdaa.ruleAll] at C
    by_cases hlt : k < 10
    · have hlt' : (k : Int) < 10 := by omega
      have c1 := bys_get (f := f) hlt
      have c2 := bys_get (f := g) hlt
      rw [show 10 - k = (10 - (k + 1)) + 1 by omega, lexB_succ] at hl
      by_cases he : f k = g k
      · rw [if_pos he] at hl
        have HL := Hid2.mk hl
        clear hl
        have he' : ((f k : Int) == (g k : Int)) = true := by simp [he]
        have he2 : (f k : Int) = (g k : Int) := by omega
        have HE := Hid2.mk he
        clear he
        go_wp2
        apply wp_region_mm M 6 (by kernel_rfl) (by kernel_rfl); (simp only [List.take_succ_cons, List.take_zero]; repeat (first | exact wpText_nil | (apply wpText_cons; (intro w2 M; have C := M.ruleAll; simp only [Go.Proofs.Ytinjjaoikofkdaa.ruleAll] at C; go_wp2; exact ⟨rfl, rfl, M⟩); rfl))); (clear M; (try clear C); intro w2 M; simp only [List.drop_succ_cons, List.drop_zero]; have C := M.ruleAll; simp only [Go.Proofs.Ytinjjaoikofkdaa.ruleAll] at C)
        go_wp2
        go_roundw
        case rel => exact ⟨k + 1, by omega, by go_num, HL.out, M⟩
        case measure => simp [intOf]; omega
      · rw [if_neg he] at hl
        have HL := Hid2.mk hl
        clear hl
        have he' : ((f k : Int) == (g k : Int)) = false := by simp; omega
        have he2 : ¬ ((f k : Int) = (g k : Int)) := by omega
        go_wp2
        apply wp_region_mm M 6 (by kernel_rfl) (by kernel_rfl); (simp only [List.take_succ_cons, List.take_zero]; repeat (first | exact wpText_nil | (apply wpText_cons; (intro w2 M; have C := M.ruleAll; simp only [Go.Proofs.Ytinjjaoikofkdaa.ruleAll] at C; go_wp2; exact ⟨rfl, rfl, M⟩); rfl))); (clear M; (try clear C); intro w2 M; simp only [List.drop_succ_cons, List.drop_zero]; have C := M.ruleAll; simp only [Go.Proofs.Ytinjjaoikofkdaa.ruleAll] at C)
        go_wp2
        apply wp_region_mm M 6 (by kernel_rfl) (by kernel_rfl); (simp only [List.take_succ_cons, List.take_zero]; repeat (first | exact wpText_nil | (apply wpText_cons; (intro w2 M; have C := M.ruleAll; simp only [Go.Proofs.Ytinjjaoikofkdaa.ruleAll] at C; go_wp2; exact ⟨rfl, rfl, M⟩); rfl))); (clear M; (try clear C); intro w2 M; simp only [List.drop_succ_cons, List.drop_zero]; have C := M.ruleAll; simp only [Go.Proofs.Ytinjjaoikofkdaa.ruleAll] at C)
        go_wp2
        go_ret
        exact ⟨by rw [← HL.out]; simp, M.below⟩
    · obtain rfl : k = 10 := by omega
      have HL := Hid2.mk hl
      clear hl
      go_wp2
      go_ret
      exact ⟨by rw [← HL.out]; rfl, M.below⟩


end Go.Proofs.Ytinjjaoikofkdaa
