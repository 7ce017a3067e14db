/- Names: contracts. -/
import Derived.Test.YtinjjaoikofkdaaK9
import Derived.Test.YtinjjaoikofkdaaC1
namespace Go.Proofs.Ytinjjaoikofkdaa
set_option linter.unusedSimpArgs false
set_option linter.unusedVariables false
open Go Go.RowKit

/-- Whether a letter may stand at a place of a name. -/
def nameAt (c : Int) (i : Nat) : Bool := (decide (97 ≤ c) && decide (c ≤ 122)) || ((decide (48 ≤ c) && decide (c ≤ 57)) && decide (i ≠ 0))
def chr (s : ByteArray) (i : Nat) : Int := if h : i < s.size then (s[i].toNat : Int) else 0
theorem chr_at {s : ByteArray} {i : Nat} (h : i < s.size) : chr s i = (s[i].toNat : Int) := dif_pos h
theorem name_ok {c : Int} {i : Nat} (h : ¬ (c < 97 ∨ 122 < c) ∨ (¬ (c < 48 ∨ 57 < c) ∧ i ≠ 0)) : nameAt c i = true := by
  unfold nameAt
  simp only [Bool.or_eq_true, Bool.and_eq_true, decide_eq_true_eq]
  omega
theorem name_no {c : Int} {i : Nat} (h : (c < 97 ∨ 122 < c) ∧ ((c < 48 ∨ 57 < c) ∨ i = 0)) : nameAt c i = false := by
  rw [← Bool.not_eq_true]
  unfold nameAt
  simp only [Bool.or_eq_true, Bool.and_eq_true, decide_eq_true_eq]
  omega
def nameTo (s : ByteArray) (k : Nat) : Bool := (List.range k).all fun i => nameAt (chr s i) i
/-- Whether a text is a name. -/
def nameB (s : ByteArray) : Bool := nameTo s s.size && (decide (1 ≤ s.size) && decide (s.size ≤ 12))
theorem nameTo_succ (s : ByteArray) (k : Nat) : nameTo s (k + 1) = (nameTo s k && nameAt (chr s k) k) := by unfold nameTo; rw [List.range_succ, List.all_append]; simp
theorem nameB_fails {s : ByteArray} {k : Nat} (hk : k < s.size) (h : nameAt (chr s k) k = false) : nameB s = false := by
  unfold nameB nameTo
  have : ((List.range s.size).all fun i => nameAt (chr s i) i) = false := by
    rw [List.all_eq_false]; exact ⟨k, List.mem_range.2 hk, by rw [h]; simp⟩
  rw [this]; rfl

theorem nameB_all {s : ByteArray} (h : nameTo s s.size = true) : nameB s = (decide (1 ≤ s.size) && decide (s.size ≤ 12)) := by unfold nameB; rw [h]; rfl

set_option maxRecDepth 100000 in
set_option maxHeartbeats 1000000 in
theorem isName_any (s : ByteArray) (w : World) (hs : s.size ≤ 1048576) : Calls Try.prog 50 #[.string s] w fun e w' => e = .returned (.bool (nameB s)) ∧ Below w.heap.size w w' := by
  have M := Mm.start no w
  go_enter Try.func50, Try.ntmps50
  go_wp2
  go_loopw [8, 3, 4, 5] (fun i _ _ _ wr => ∃ k : Nat, k ≤ s.size ∧ i = .int .i64 (k : Int) ∧ nameTo s k = true ∧ Mm no w wr []) (fun i _ _ _ _ => s.size - (intOf i).toNat)
  case atStart => exact ⟨0, by omega, rfl, rfl, M⟩
  case round =>
    obtain ⟨k, hk, rfl, hl, M9⟩ := hrel
    clear M; (try clear C)
    have M := M9
    clear M9
    have HL := Hid2.mk hl
    clear hl
    by_cases hlt : k < s.size
    · have hlt' : (k : Int) < (s.size : Int) := by omega
      go_wp2
      all_goals
        have hb1 : ((k : Int) == 0) = true → k = 0 := by simp
        have hb2 : ((k : Int) == 0) = false → k ≠ 0 := by simp
        have hb3 : (!decide (((s[k]'hlt).toNat : Int) ≤ 122)) = false → ((s[k]'hlt).toNat : Int) ≤ 122 := by simp
        have hb4 : (!decide (((s[k]'hlt).toNat : Int) ≤ 122)) = true → ¬ ((s[k]'hlt).toNat : Int) ≤ 122 := by simp
        (try have z1 := hb1 (by assumption))
        (try have z2 := hb2 (by assumption))
        (try have z3 := hb3 (by assumption))
        (try have z4 := hb4 (by assumption))
        first
          | exact ⟨⟨k + 1, by omega, by go_num, by rw [nameTo_succ, HL.out, chr_at hlt, name_ok (by omega)]; rfl, M⟩, by simp [intOf]; omega⟩
          | (go_ret; exact ⟨by rw [nameB_fails hlt (by rw [chr_at hlt]; exact name_no (by omega))]; rfl, M.below⟩)
    · obtain rfl : k = s.size := by omega
      have hB := nameB_all HL.out
      have hge : ¬ ((s.size : Int) < (s.size : Int)) := by omega
      have HB := Hid2.mk hB
      clear hB
      go_wp2
      all_goals
        go_ret
        first
          | exact ⟨by rw [show nameB s = decide ((s.size : Int) ≤ 12) by rw [HB.out, Bool.eq_iff_iff]; simp only [Bool.and_eq_true, decide_eq_true_eq]; omega]; rfl, M.below⟩
          | exact ⟨by rw [show nameB s = false by rw [HB.out, ← Bool.not_eq_true]; simp only [Bool.and_eq_true, decide_eq_true_eq]; omega]; rfl, M.below⟩

set_option maxRecDepth 100000 in
set_option maxHeartbeats 2000000 in
theorem l11Name_any (s : ByteArray) (w : World) (hs : s.size ≤ 1048576) : Calls Try.prog 42 #[.string s] w fun e w' => e = .returned (.bool (nameB s)) ∧ Below w.heap.size w w' := by
  have M := Mm.start no w
  go_enter Try.func42, Try.ntmps42
  go_wp2
  go_loopw [3, 4, 5] (fun i _ _ wr => ∃ k : Nat, k ≤ s.size ∧ i = .int .i64 (k : Int) ∧ nameTo s k = true ∧ Mm no w wr []) (fun i _ _ _ => s.size - (intOf i).toNat)
  case atStart => exact ⟨0, by omega, rfl, rfl, M⟩
  case round =>
    obtain ⟨k, hk, rfl, hl, M9⟩ := hrel
    clear M; (try clear C)
    have M := M9
    clear M9
    have HL := Hid2.mk hl
    clear hl
    by_cases hlt : k < s.size
    · have hlt' : (k : Int) < (s.size : Int) := by omega
      by_cases h1 : 97 ≤ ((s[k]'hlt).toNat : Int)
      · have d1 : decide (97 ≤ ((s[k]'hlt).toNat : Int)) = true := decide_eq_true h1
        have h2 : 48 ≤ ((s[k]'hlt).toNat : Int) := by omega
        have d2 : decide (48 ≤ ((s[k]'hlt).toNat : Int)) = true := decide_eq_true h2
        go_wp2
        apply wp_region_mm M 21 (by kernel_rfl) (by kernel_rfl); (simp only [List.take_succ_cons, List.take_zero]; repeat (first | exact wpText_nil | (apply wpText_cons; (intro w2 M; have C := M.ruleAll; simp only [Go.Proofs.Ytinjjaoikofkdaa.ruleAll] at C; go_wp2; exact ⟨rfl, rfl, M⟩); rfl))); (clear M; (try clear C); intro w2 M; simp only [List.drop_succ_cons, List.drop_zero]; have C := M.ruleAll; simp only [Go.Proofs.Ytinjjaoikofkdaa.ruleAll] at C)
        go_wp2
        all_goals
          have hb1 : ((k : Int) == 0) = true → k = 0 := by simp
          have hb2 : ((k : Int) == 0) = false → k ≠ 0 := by simp
          have hb3 : (!decide (((s[k]'hlt).toNat : Int) ≤ 122)) = false → ((s[k]'hlt).toNat : Int) ≤ 122 := by simp
          have hb4 : (!decide (((s[k]'hlt).toNat : Int) ≤ 122)) = true → ¬ ((s[k]'hlt).toNat : Int) ≤ 122 := by simp
          (try have z1 := hb1 (by assumption))
          (try have z2 := hb2 (by assumption))
          (try have z3 := hb3 (by assumption))
          (try have z4 := hb4 (by assumption))
          first
            | exact ⟨⟨k + 1, by omega, by go_num, by rw [nameTo_succ, HL.out, chr_at hlt, name_ok (by omega)]; rfl, M⟩, by simp [intOf]; omega⟩
            | (go_ret; exact ⟨by rw [nameB_fails hlt (by rw [chr_at hlt]; exact name_no (by omega))]; rfl, M.below⟩)
      · have d1 : decide (97 ≤ ((s[k]'hlt).toNat : Int)) = false := decide_eq_false h1
        by_cases h2 : 48 ≤ ((s[k]'hlt).toNat : Int)
        · have d2 : decide (48 ≤ ((s[k]'hlt).toNat : Int)) = true := decide_eq_true h2
          go_wp2
          apply wp_region_mm M 21 (by kernel_rfl) (by kernel_rfl); (simp only [List.take_succ_cons, List.take_zero]; repeat (first | exact wpText_nil | (apply wpText_cons; (intro w2 M; have C := M.ruleAll; simp only [Go.Proofs.Ytinjjaoikofkdaa.ruleAll] at C; go_wp2; exact ⟨rfl, rfl, M⟩); rfl))); (clear M; (try clear C); intro w2 M; simp only [List.drop_succ_cons, List.drop_zero]; have C := M.ruleAll; simp only [Go.Proofs.Ytinjjaoikofkdaa.ruleAll] at C)
          go_wp2
          all_goals
            have hb1 : ((k : Int) == 0) = true → k = 0 := by simp
            have hb2 : ((k : Int) == 0) = false → k ≠ 0 := by simp
            have hb3 : (!decide (((s[k]'hlt).toNat : Int) ≤ 122)) = false → ((s[k]'hlt).toNat : Int) ≤ 122 := by simp
            have hb4 : (!decide (((s[k]'hlt).toNat : Int) ≤ 122)) = true → ¬ ((s[k]'hlt).toNat : Int) ≤ 122 := by simp
            (try have z1 := hb1 (by assumption))
            (try have z2 := hb2 (by assumption))
            (try have z3 := hb3 (by assumption))
            (try have z4 := hb4 (by assumption))
            first
              | exact ⟨⟨k + 1, by omega, by go_num, by rw [nameTo_succ, HL.out, chr_at hlt, name_ok (by omega)]; rfl, M⟩, by simp [intOf]; omega⟩
              | (go_ret; exact ⟨by rw [nameB_fails hlt (by rw [chr_at hlt]; exact name_no (by omega))]; rfl, M.below⟩)
        · have d2 : decide (48 ≤ ((s[k]'hlt).toNat : Int)) = false := decide_eq_false h2
          go_wp2
          apply wp_region_mm M 21 (by kernel_rfl) (by kernel_rfl); (simp only [List.take_succ_cons, List.take_zero]; repeat (first | exact wpText_nil | (apply wpText_cons; (intro w2 M; have C := M.ruleAll; simp only [Go.Proofs.Ytinjjaoikofkdaa.ruleAll] at C; go_wp2; exact ⟨rfl, rfl, M⟩); rfl))); (clear M; (try clear C); intro w2 M; simp only [List.drop_succ_cons, List.drop_zero]; have C := M.ruleAll; simp only [Go.Proofs.Ytinjjaoikofkdaa.ruleAll] at C)
          go_wp2
          all_goals
            have hb1 : ((k : Int) == 0) = true → k = 0 := by simp
            have hb2 : ((k : Int) == 0) = false → k ≠ 0 := by simp
            have hb3 : (!decide (((s[k]'hlt).toNat : Int) ≤ 122)) = false → ((s[k]'hlt).toNat : Int) ≤ 122 := by simp
            have hb4 : (!decide (((s[k]'hlt).toNat : Int) ≤ 122)) = true → ¬ ((s[k]'hlt).toNat : Int) ≤ 122 := by simp
            (try have z1 := hb1 (by assumption))
            (try have z2 := hb2 (by assumption))
            (try have z3 := hb3 (by assumption))
            (try have z4 := hb4 (by assumption))
            first
              | exact ⟨⟨k + 1, by omega, by go_num, by rw [nameTo_succ, HL.out, chr_at hlt, name_ok (by omega)]; rfl, M⟩, by simp [intOf]; omega⟩
              | (go_ret; exact ⟨by rw [nameB_fails hlt (by rw [chr_at hlt]; exact name_no (by omega))]; rfl, M.below⟩)
    · obtain rfl : k = s.size := by omega
      have hB := nameB_all HL.out
      have hge : ¬ ((s.size : Int) < (s.size : Int)) := by omega
      have HB := Hid2.mk hB
      clear hB
      go_wp2
      all_goals
        go_ret
        first
          | exact ⟨by rw [show nameB s = decide ((s.size : Int) ≤ 12) by rw [HB.out, Bool.eq_iff_iff]; simp only [Bool.and_eq_true, decide_eq_true_eq]; omega]; rfl, M.below⟩
          | exact ⟨by rw [show nameB s = false by rw [HB.out, ← Bool.not_eq_true]; simp only [Bool.and_eq_true, decide_eq_true_eq]; omega]; rfl, M.below⟩
end Go.Proofs.Ytinjjaoikofkdaa
