/- The program's list of the elements of a square, and its check of loops: contracts. -/
import Derived.Test.YtinjjaoikofkdaaC1
import Derived.Test.YtinjjaoikofkdaaK2
import Derived.Test.YtinjjaoikofkdaaM
import Derived.Test.YtinjjaoikofkdaaRT
namespace Go.Proofs.Ytinjjaoikofkdaa
set_option linter.unusedSimpArgs false
set_option linter.unusedVariables false
open Go.RowKit

theorem und_sl8 : Try.prog.underlying 103 = some (.slice 5) := by kernel_rfl
theorem inf_el8 : (Try.prog.info? 5).map (fun i => (i.zero, i.size, i.bytes)) = some (some (.int .u8 0), 1, 1) := by kernel_rfl

/-- A slice of new memory whose elements are 0, 1, .. . -/
def IsElems (N : Nat) (w : World) (e : Ending) (w' : World) : Prop :=
  ∃ g cap, e = .returned (.slice (some ⟨g, 0, none⟩) N cap) ∧ Below w.heap.size w w' ∧ w.heap.size ≤ g ∧ rds w' g N (fun j => .int .u8 (j : Int))

theorem flat_u8 (x : Int) : flat #[.int .u8 x] := by intro v hv; simp at hv; subst hv; rfl

set_option maxRecDepth 100000 in
set_option maxHeartbeats 1000000 in
theorem elements_any (n : Int) (t : Nat → Nat → Nat) (w : World) (h1 : 1 ≤ n) (h2 : n ≤ 10) :
    Calls Try.prog 88 #[.agg (sqs n t)] w (IsElems n.toNat w) := by
  have so := sqs_order n t
  go_enter Try.func88, Try.ntmps88
  go_wp2
  go_loopw [3, 4, 9] (fun v _ i wr => ∃ k : Nat, (k : Int) ≤ n ∧ i = .int .u8 k ∧ Below w.heap.size w wr ∧ wr.ownsRow w.heap.size 5 1 v k ((List.range k).map fun j : Nat => .int .u8 (j : Int))) (fun _ _ i _ => (n - intOf i).toNat)
  case atStart =>
    refine ⟨0, by omega, rfl, ?_, ?_⟩
    · exact ((Below.refl _ _).alloc (by simp) _).alloc (by simp) _
    · exact own_empty _ _ _ _ _ (by simp) (by simp)
  case round =>
    obtain ⟨k, hk, rfl, hB, hown⟩ := hrel
    by_cases hlt : (k : Int) < n
    · go_wp2_with (refine wpList_app1 rfl _ _ 103 rfl w.heap.size 5 (.int .u8 0) 1 1 und_sl8 inf_el8 rfl (by decide) (by decide) _ _ _ rfl (hown.alloc _) _ rfl _ (blk_new _ _ _ _ rfl) rfl (flat_u8 _) (by omega) (by simp; have := hB.size; omega) ?_; intro v1 w1 hown1 hg hat)
      go_roundw
      case rel =>
        refine ⟨k + 1, by omega, by go_num, (hB.alloc hB.size _).grown hg (by simp; have := hB.size; omega) (fun j hj => (hown.lt j hj).1), ?_⟩
        rw [List.range_succ, List.map_append]
        exact hown1
      case measure => simp [intOf]; omega
    · have hkn : k = n.toNat := by omega
      go_wp2
      go_ret
      subst hkn
      obtain ⟨g, cap, rfl, hg, _, hr⟩ := own_rds hown (by omega)
      refine ⟨g, cap, rfl, hB, hg, hr.lt, fun j hj => ?_⟩
      rw [hr.at_ j (by omega)]
      simp [List.getD_eq_getElem?_getD, hj]

/-- An element is neutral. -/
def unitB (n : Int) (t : Nat → Nat → Nat) (e : Nat) : Bool := decide (∀ x ∈ List.range n.toNat, t e x = x ∧ t x e = x)
theorem unitB_true {n : Int} {t : Nat → Nat → Nat} {e : Nat} : unitB n t e = true ↔ ∀ x : Nat, (x : Int) < n → t e x = x ∧ t x e = x := by
  simp only [unitB, decide_eq_true_eq, List.mem_range]
  exact ⟨fun h x hx => h x (by omega), fun h x hx => h x (by omega)⟩
theorem unitB_false {n : Int} {t : Nat → Nat → Nat} {e : Nat} : unitB n t e = false ↔ ¬ ∀ x : Nat, (x : Int) < n → t e x = x ∧ t x e = x := by
  rw [← unitB_true]; simp

set_option maxRecDepth 100000 in
set_option maxHeartbeats 1000000 in
theorem isUnit_any (n : Int) (t : Nat → Nat → Nat) (u : Nat) (w : World) (h1 : 1 ≤ n) (h2 : n ≤ 10) (hu : u < 10) (hby : Byt2 t) :
    Calls Try.prog 72 #[.agg (sqs n t), .int .u8 u] w fun e w' => e = .returned (.bool (unitB n t u)) ∧ Below w.heap.size w w' := by
  have b1 := blk_new w (sqs n t) 43 w.heap.size rfl
  have hB : Below w.heap.size w (w.alloc (.cells (sqs n t) 43)) := (Below.refl _ _).alloc (by simp) _
  go_enter Try.func72, Try.ntmps72
  go_wp2_with (first | (refine wpList_load_part rfl 43 _ rfl _ _ rfl (sqs n t) _ und_sqs rfl inf_sqs (cells_of_blk0 b1) ?_) | (go_at_call 88; ((with_reducible refine (elements_any _ _ _ h1 h2).mono ?_); rintro e w1 ⟨g, cap, rfl, hb, hg, hr⟩)))
  have b2 := b1.later hb
  have hB2 := below_self hB hb
  clear b1
  go_loopw [4, 6, 10] (fun _ _ i wr => ∃ k : Nat, (k : Int) ≤ n ∧ i = .int .i64 k ∧ Below w.heap.size w wr ∧ blk wr w.heap.size (sqs n t) 43 ∧ rds wr g n.toNat (fun j => .int .u8 (j : Int)) ∧
      ∀ x : Nat, x < k → t u x = x ∧ t x u = x) (fun _ _ i _ => (n - intOf i).toNat)
  case atStart => exact ⟨0, by omega, rfl, hB2, b2, hr, fun _ h => absurd h (by omega)⟩
  case round =>
    obtain ⟨k, hk, rfl, hB3, b3, hr3, hx⟩ := hrel
    have HR := Hid2.mk hx
    clear hx hr b2 hB2
    by_cases hlt : (k : Int) < n
    · have c0 := hr3.at_ k (by omega)
      have c1 := b3.cell _ _ (sqs_get (n := n) (t := t) (x := u) (y := k) (by omega) (by omega))
      have c2 := b3.cell _ _ (sqs_get (n := n) (t := t) (x := k) (y := u) (by omega) (by omega))
      by_cases h1 : t u k = k
      · by_cases h2 : t k u = k
        · go_wp2
          go_roundw
          case rel =>
            refine ⟨k + 1, by omega, by go_num, hB3, b3, hr3, fun x hx => ?_⟩
            by_cases h : x = k
            · subst h; exact ⟨h1, h2⟩
            · exact HR.out x (by omega)
          case measure => simp [intOf]; omega
        · have hF : unitB n t u = false := unitB_false.2 fun h => h2 (h k hlt).2
          go_wp2
          go_ret
          exact ⟨by first | rfl | exact ret_b hF, hB3⟩
      · have hF : unitB n t u = false := unitB_false.2 fun h => h1 (h k hlt).1
        go_wp2
        go_ret
        exact ⟨by first | rfl | exact ret_b hF, hB3⟩
    · have hT : unitB n t u = true := unitB_true.2 fun x hx => HR.out x (by omega)
      go_wp2
      go_ret
      exact ⟨by first | rfl | exact ret_b hT, hB3⟩
end Go.Proofs.Ytinjjaoikofkdaa
