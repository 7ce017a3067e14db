/- Whether elements are those of a square: a contract. -/
import Derived.Test.YteonahoboligdaaE1
namespace Go.Proofs.Yteonahoboligdaa
set_option linter.unusedSimpArgs false
set_option linter.unusedVariables false
open Go Go.RowKit

def elF (l : List Nat) : Nat → Value := fun j => .int .u8 (l.getD j 0 : Nat)
set_option maxRecDepth 100000 in
set_option maxHeartbeats 1000000 in
theorem hasList_any (n : Int) (t : Nat → Nat → Nat) (hn : 0 ≤ n ∧ n ≤ 255) (l : List Nat) (hl : l.length ≤ 1000) (hby : ∀ x ∈ l, x < 256) (w : World) (g cap : Nat) (hr : rds w g l.length (elF l)) :
    Calls Try.prog 82 #[.agg (sqs n t), .slice (some ⟨g, 0, none⟩) l.length cap] w fun e w' => e = .returned (.bool (l.all fun x => decide ((x : Int) < n))) ∧ Below w.heap.size w w' := by
  have M := (Mm.start no w).add (x := .rd g l.length (elF l)) hr fun _ h => by cases h
  have HBY := Hid2.mk hby
  have so := sqs_order n t
  obtain ⟨hn0, hn1⟩ := hn
  clear hr hby
  have C := M.ruleAll; simp only [Go.Proofs.Yteonahoboligdaa.ruleAll] at C
  go_enter Try.func82, Try.ntmps82
  go_wp2_with (first | ((with_reducible apply wpM_box' M 30 (sqs n t)); rfl; exact ⟨rfl, rfl⟩; clear M; (try clear C); intro bq w9 h_bq M; have C := M.ruleAll; simp only [Go.Proofs.Yteonahoboligdaa.ruleAll] at C))
  go_loopw [9, 6] (fun i _ wr => ∃ k : Nat, k ≤ l.length ∧ i = .int .i64 (k : Int) ∧ (∀ j, j < k → ((l.getD j 0 : Nat) : Int) < n) ∧ Mm no w wr [.box bq (sqs n t) 30, .rd g l.length (elF l)]) (fun i _ _ => l.length - (intOf i).toNat)
  case atStart => exact ⟨0, by omega, rfl, fun _ h => by omega, M⟩
  case round =>
    obtain ⟨k, hk, rfl, hall, M9⟩ := hrel
    clear M; (try clear C)
    have M := M9
    clear M9
    have C := M.ruleAll; simp only [Go.Proofs.Yteonahoboligdaa.ruleAll] at C
    have HA := Hid2.mk hall
    clear hall
    by_cases hlt : k < l.length
    · have hlt' : (k : Int) < (l.length : Int) := by omega
      have hmem : l.getD k 0 ∈ l := by rw [List.getD_eq_getElem?_getD, List.getElem?_eq_getElem hlt]; exact List.getElem_mem hlt
      have hb := HBY.out _ hmem
      generalize hx : l.getD k 0 = x at *
      have hb' : (x : Int) < 256 := by omega
      have c1 : elF l k = .int .u8 (x : Int) := by unfold elF; rw [hx]
      by_cases hxn : (x : Int) < n
      · have HST := Hid2.mk (show ∀ j, j < k + 1 → ((l.getD j 0 : Nat) : Int) < n from fun j hj => if e : j = k then by rw [e, hx]; exact hxn else HA.out j (by omega))
        have hd : decide (n ≤ (x : Int)) = false := decide_eq_false (by omega)
        have hd2 : ¬ (n ≤ (x : Int)) := by omega
        clear hmem hx
        go_wp2
        go_roundw
        case rel => exact ⟨k + 1, by omega, by go_num, HST.out, M⟩
        case measure => simp [intOf]; omega
      · have HST := Hid2.mk (show (l.all fun x => decide ((x : Int) < n)) = false from List.all_eq_false.2 ⟨x, hmem, by simpa using hxn⟩)
        have hd : decide (n ≤ (x : Int)) = true := decide_eq_true (by omega)
        clear hmem hx
        go_wp2
        go_ret
        exact ⟨by rw [HST.out]; rfl, M.below⟩
    · obtain rfl : k = l.length := by omega
      have hge : ¬ ((l.length : Int) < (l.length : Int)) := by omega
      have HST := Hid2.mk (show (l.all fun x => decide ((x : Int) < n)) = true from List.all_eq_true.2 fun x hx => by
        obtain ⟨j, hj, e⟩ := List.getElem_of_mem hx
        have := HA.out j hj
        rw [List.getD_eq_getElem?_getD, List.getElem?_eq_getElem hj, Option.getD_some, e] at this
        exact decide_eq_true this)
      go_wp2
      go_ret
      exact ⟨by rw [HST.out]; rfl, M.below⟩
end Go.Proofs.Yteonahoboligdaa
