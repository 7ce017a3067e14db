/- The least subloop with some elements, for the reference; sets as lists: contracts. -/
import Derived.Test.YteonahoboligdaaDoorG1
import Derived.Test.YteonahoboligdaaDoorL2
import Derived.Test.YteonahoboligdaaDoorE6
import Derived.Test.YteonahoboligdaaDoorE7
import Derived.Test.YteonahoboligdaaDoorD0
import Derived.Test.YteonahoboligdaaDoorU1
namespace Go.Proofs.YteonahoboligdaaDoor
set_option linter.unusedSimpArgs false
set_option linter.unusedVariables false
open Go Go.RowKit

/-- The operations, by their numbers. -/
def opc (o : Nat) : Nat := if o = 0 then 42 else if o = 1 then 92 else 47
theorem opc_all {b : Nat} (h : isOpB b = true) : ∃ o, o < 3 ∧ opc o = b := by
  have hb' : b = 42 ∨ b = 92 ∨ b = 47 := by simp [isOpB] at h; omega
  rcases hb' with rfl | rfl | rfl
  · exact ⟨0, by decide, rfl⟩
  · exact ⟨1, by decide, rfl⟩
  · exact ⟨2, by decide, rfl⟩
theorem opc_op (o : Nat) : isOpB (opc o) = true := by
  unfold opc
  split
  · rfl
  · split <;> rfl
/-- What a round of the reference has done: s at its beginning, s' now; c: something is new. -/
structure Rnd (n : Nat) (t : Nat → Nat → Nat) (m s s' : Nat) (c : Bool) (k l o : Nat) : Prop where
  beg : Beg t m s'
  up : c = true → (cn 10 fun y => s.testBit y) < cn 10 fun y => s'.testBit y
  same : c = false → s' = s
  met : c = false → ∀ j x y, j < 3 → y < n → (x < k ∨ x = k ∧ (y < l ∨ y = l ∧ j < o)) → s.testBit x = true → s.testBit y = true → s.testBit (apB t (opc j) x y) = true
section
variable {n : Nat} {t : Nat → Nat → Nat} {m s s' k l o : Nat} {c : Bool}
theorem Rnd.start (B : Beg t m s) : Rnd n t m s s false 0 0 0 := ⟨B, (fun h => by cases h), (fun _ => rfl), fun _ _ _ _ _ _ h => by omega⟩
theorem Rnd.skip (R : Rnd n t m s s' c k l 0) (h : ¬ (s'.testBit k = true ∧ s'.testBit l = true)) : Rnd n t m s s' c k (l + 1) 0 :=
  ⟨R.beg, R.up, R.same, fun hc j x y hj hy hxy hx hy2 => by
    by_cases e : x = k ∧ y = l
    · obtain ⟨rfl, rfl⟩ := e
      rw [R.same hc] at h
      exact absurd ⟨hx, hy2⟩ h
    · exact R.met hc j x y hj hy (by omega) hx hy2⟩
theorem Rnd.hit (R : Rnd n t m s s' c k l o) (h : s'.testBit (apB t (opc o) k l) = true) : Rnd n t m s s' c k l (o + 1) :=
  ⟨R.beg, R.up, R.same, fun hc j x y hj hy hxy hx hy2 => by
    by_cases e : x = k ∧ y = l ∧ j = o
    · obtain ⟨rfl, rfl, rfl⟩ := e
      rw [R.same hc] at h; exact h
    · exact R.met hc j x y hj hy (by omega) hx hy2⟩
theorem Rnd.set (hs : IsSq (n : Int) t) (R : Rnd n t m s s' c k l o) (hk : k < n) (hl : l < n) (h1 : s'.testBit k = true) (h2 : s'.testBit l = true) (h : s'.testBit (apB t (opc o) k l) = false) : Rnd n t m s (s' ||| 2 ^ apB t (opc o) k l) true k l (o + 1) := by
  have hz : apB t (opc o) k l < 10 := by have := apB_lt hs (b := opc o) (a := k) (c := l) (by omega) (by omega); have := hs.hi; omega
  refine ⟨⟨Nat.or_lt_two_pow (n := 10) R.beg.lt (Nat.pow_lt_pow_right (by omega) hz), R.beg.has.trans (SubM.or_left _ _), SubM.or_left _ _ 0 R.beg.zero, fun i hi => ?_⟩, fun _ => ?_, (fun h => by cases h), (fun h => by cases h)⟩
  · rw [Nat.testBit_or, Bool.or_eq_true, Nat.testBit_two_pow, decide_eq_true_eq] at hi
    rcases hi with h | rfl
    · exact R.beg.gen i h
    · exact (gen_clo t m).op _ k l (opc_op o) (R.beg.gen k h1) (R.beg.gen l h2)
  · rw [ones_more hz h]
    cases c with
    | true => have := R.up rfl; omega
    | false => rw [R.same rfl]; omega
theorem Rnd.pair (R : Rnd n t m s s' c k l 3) : Rnd n t m s s' c k (l + 1) 0 :=
  ⟨R.beg, R.up, R.same, fun hc j x y hj hy hxy hx hy2 => R.met hc j x y hj hy (by omega) hx hy2⟩
theorem Rnd.row (R : Rnd n t m s s' c k n 0) : Rnd n t m s s' c (k + 1) 0 0 :=
  ⟨R.beg, R.up, R.same, fun hc j x y hj hy hxy hx hy2 => R.met hc j x y hj hy (by omega) hx hy2⟩
theorem Rnd.done (hs : IsSq (n : Int) t) (hm : ∀ i, m.testBit i = true → i < n) (R : Rnd n t m s s' false n 0 0) : s' = s ∧ s = genM t m := by
  have e := R.same rfl
  subst e
  have hg := R.beg.gen
  have hc : CloM t s' := ⟨R.beg.zero, fun b x y hb hx hy => by
    obtain ⟨j, hj, rfl⟩ := opc_all hb
    exact R.met rfl j x y hj (gen_lt hs hm (hg y hy)) (.inl (gen_lt hs hm (hg x hx))) hx hy⟩
  exact ⟨rfl, SubM.anti (fun i hi => (genM_bit hs hm i).2 (hg i hi)) (genM_least hs hm hc R.beg.has)⟩
end
def bN : Value → Nat
  | .bool true => 1
  | _ => 0

set_option maxRecDepth 100000 in
set_option maxHeartbeats 8000000 in
theorem l05Close_any (n : Nat) (t : Nat → Nat → Nat) (hs : IsSq (n : Int) t) (m : Nat) (hml : m < 1024) (hm : ∀ i, m.testBit i = true → i < n) (w : World) :
    Calls Tryd.prog 36 #[.agg (sqs (n : Int) t), .agg (bls fun y => m.testBit y)] w fun e w' => e = .returned (.agg (bls fun y => (genM t m).testBit y)) ∧ Below w.heap.size w w' := by
  have M := Mm.start no w
  have hn : n ≤ 10 := by have := hs.hi; omega
  have h1n : (1 : Int) ≤ n := hs.lo
  have hn' : (n : Int) ≤ 10 := by omega
  have HDN := Hid2.mk (fun s s' (R : Rnd n t m s s' false n 0 0) => R.done hs hm)
  have HSET := Hid2.mk (fun s s' c k l o (R : Rnd n t m s s' c k l o) (hk : k < n) (hl : l < n) h1 h2 h => R.set hs hk hl h1 h2 h)
  have HB0 := Hid2.mk (Beg.start (n := n) (t := t) m hml)
  have HZ := Hid2.mk (fun o x y (hx : x < n) (hy : y < n) => apB_lt hs (b := opc o) (a := x) (c := y) (by omega) (by omega))
  have HAP := Hid2.mk (fun o x y (hx : x < n) (hy : y < n) w1 => l03Apply_any (n : Int) t hs (opc o) x y (opc_op o) (by omega) (by omega) w1)
  have HMS := Hid2.mk (fun s y => mark_set s y)
  have HM0 : (bls fun j => m.testBit j).setIfInBounds 0 (.bool true) = bls fun j => (m ||| 1).testBit j := mark_set m 0
  have so := sqs_order (n : Int) t
  generalize hres : genM t m = res at *
  have hz := zero_b10
  clear hs hm hres
  go_enter Tryd.func36, Tryd.ntmps36
  go_wp2_with (first | ((with_reducible apply wpM_box' M 32 (sqs (n : Int) t)); rfl; exact ⟨rfl, rfl⟩; clear M; (try clear C); intro bq w9 h_bq M; have C := M.ruleAll; simp only [Go.Proofs.YteonahoboligdaaDoor.ruleAll] at C) | ((with_reducible apply wpM_box' M 60 (bls fun y => m.testBit y)); rfl; exact ⟨rfl, rfl⟩; clear M; (try clear C); intro bs w9 h_bs M; have C := M.ruleAll; simp only [Go.Proofs.YteonahoboligdaaDoor.ruleAll] at C) | ((with_reducible apply wpM_alloc' M 60 (bls fun _ => false)); rfl; exact ⟨rfl, _, zero_b10 _, rfl⟩; clear M; (try clear C); intro br w9 h_br M; have C := M.ruleAll; simp only [Go.Proofs.YteonahoboligdaaDoor.ruleAll] at C) | ((with_reducible apply wpM_st' M 1 4 (0) (bls fun y => (m ||| 1).testBit y)); rfl; rfl; rfl; (first | exact .inl (by assumption) | exact .inr rfl | exact .inr (by assumption)); exact ⟨rfl, rfl, by kernel_rfl⟩; (exact Nat.lt_of_lt_of_eq (by omega) (bls_size _).symm); exact HM0; clear M; (try clear C); intro w9 M; simp only [List.set_cons_zero, List.set_cons_succ, entBlk, entT, List.getElem?_cons_zero, List.getElem?_cons_succ] at M; have C := M.ruleAll; simp only [Go.Proofs.YteonahoboligdaaDoor.ruleAll] at C))
  clear hz HM0
  go_loopw [6, 7, 8, 9, 10] (fun cv _ _ _ _ wr => ∃ (s : Nat) (c : Bool), cv = .bool c ∧ Hid2 (Beg t m s ∧ (c = false → s = res)) ∧ Mm no w wr [.box br (bls fun _ => false) 60, .box bs (bls fun y => s.testBit y) 60, .box bq (sqs (n : Int) t) 32]) (fun cv _ _ _ _ wr => 2 * unset bs wr + bN cv)
  case atStart => exact ⟨m ||| 1, true, rfl, ⟨HB0.out, fun h => by cases h⟩, M⟩
  case round =>
    clear HB0
    obtain ⟨s, c, rfl, HB, M9⟩ := hrel
    clear M; (try clear C)
    have M := M9
    clear M9
    have C := M.ruleAll; simp only [Go.Proofs.YteonahoboligdaaDoor.ruleAll] at C
    cases c with
    | false =>
      have HE := Hid2.mk (HB.out.2 rfl)
      go_wp2_with (first | ((with_reducible apply wpM_lda' M 1 60 0 (bls fun y => s.testBit y)); rfl; rfl; rfl; exact ⟨rfl, inf_b10.trans (congrArg some (bls_size ..).symm), _, und_b10, rfl⟩; exact whole_of rfl) | ((with_reducible apply wpM_sta' M 0 60 (bls fun y => s.testBit y)); rfl; rfl; rfl; rfl; (first | exact .inl (by assumption) | exact .inr rfl | exact .inr (by assumption)); exact ⟨rfl, inf_b10.trans (congrArg some (bls_size ..).symm), flat_bls _⟩; (simp only [entCells, List.getElem?_cons_zero, List.getElem?_cons_succ, bls_size, bls_size]); clear M; (try clear C); intro w9 M; simp only [List.set_cons_zero, List.set_cons_succ, entBlk, entT, List.getElem?_cons_zero, List.getElem?_cons_succ] at M; have C := M.ruleAll; simp only [Go.Proofs.YteonahoboligdaaDoor.ruleAll] at C))
      refine bodyPost_ret (v := .agg (bls fun y => s.testBit y)) (by exact results_part rfl _ _ _ _ _ _ rfl und_b10 rfl inf_b10 (cells_of_blk0 (M.box 0 rfl))) rfl ?_
      exact ⟨by rw [← HE.out], M.below⟩
    | true =>
      have HR0 := Hid2.mk (Rnd.start (n := n) HB.out.1)
      have HU0 := Hid2.mk (unset_of (M.box 1 rfl))
      clear HB
      go_wp2
      go_loopw [6, 7, 8, 9, 10] (fun cv x _ _ _ wr => ∃ (s' k : Nat) (c : Bool), k ≤ n ∧ cv = .bool c ∧ x = .int .u8 (k : Int) ∧ Hid2 (Rnd n t m s s' c k 0 0) ∧ Mm no w wr [.box br (bls fun _ => false) 60, .box bs (bls fun y => s'.testBit y) 60, .box bq (sqs (n : Int) t) 32]) (fun _ x _ _ _ _ => n - (intOf x).toNat)
      case atStart => exact ⟨s, 0, false, by omega, rfl, rfl, HR0, M⟩
      case round =>
        clear HR0
        obtain ⟨s', k, c, hk, rfl, rfl, HR, M9⟩ := hrel
        clear M; (try clear C)
        have M := M9
        clear M9
        have C := M.ruleAll; simp only [Go.Proofs.YteonahoboligdaaDoor.ruleAll] at C
        by_cases hlt : k < n
        · have hlt' : (k : Int) < (n : Int) := by omega
          have hk10 : (k : Int) < 10 := by omega
          have dlt : decide ((k : Int) < (n : Int)) = true := decide_eq_true hlt'
          go_wp2
          clear dlt
          go_loopw [6, 8, 9, 10] (fun cv y _ _ wr => ∃ (s' l : Nat) (c : Bool), l ≤ n ∧ cv = .bool c ∧ y = .int .u8 (l : Int) ∧ Hid2 (Rnd n t m s s' c k l 0) ∧ Mm no w wr [.box br (bls fun _ => false) 60, .box bs (bls fun y => s'.testBit y) 60, .box bq (sqs (n : Int) t) 32]) (fun _ y _ _ _ => n - (intOf y).toNat)
          case atStart => exact ⟨s', 0, c, by omega, rfl, rfl, HR, M⟩
          case round =>
            clear HR
            obtain ⟨s', l, c, hl, rfl, rfl, HR, M9⟩ := hrel
            clear M; (try clear C)
            have M := M9
            clear M9
            have C := M.ruleAll; simp only [Go.Proofs.YteonahoboligdaaDoor.ruleAll] at C
            by_cases hl2 : l < n
            · have hl2' : (l : Int) < (n : Int) := by omega
              have hl10 : (l : Int) < 10 := by omega
              have dlt : decide ((l : Int) < (n : Int)) = true := decide_eq_true hl2'
              have q1 := bls_get (f := fun y => s'.testBit y) (i := k) (by omega)
              have q2 := bls_get (f := fun y => s'.testBit y) (i := l) (by omega)
              cases hb1 : s'.testBit k with
              | false =>
                have HRN := Hid2.mk (HR.out.skip (fun h => by rw [hb1] at h; cases h.1))
                rw [hb1] at q1
                clear hb1 q2
                go_wp2
                go_roundw
                case rel => exact ⟨s', l + 1, c, by omega, rfl, by go_num, HRN, M⟩
                case measure => simp [intOf]; omega
              | true =>
                cases hb2 : s'.testBit l with
                | false =>
                  have HRN := Hid2.mk (HR.out.skip (fun h => by rw [hb2] at h; cases h.2))
                  rw [hb1] at q1
                  rw [hb2] at q2
                  clear hb1 hb2
                  go_wp2
                  go_roundw
                  case rel => exact ⟨s', l + 1, c, by omega, rfl, by go_num, HRN, M⟩
                  case measure => simp [intOf]; omega
                | true =>
                  have HRO := Hid2.mk (show Rnd n t m s s' c k l 0 ∧ s'.testBit k = true ∧ s'.testBit l = true from ⟨HR.out, hb1, hb2⟩)
                  rw [hb1] at q1
                  rw [hb2] at q2
                  clear hb1 hb2 HR
                  go_wp2
                  clear dlt q1 q2
                  go_loopw [6, 9, 10] (fun cv ov _ wr => ∃ (s' o : Nat) (c : Bool), o ≤ 3 ∧ cv = .bool c ∧ ov = .int .i64 (o : Int) ∧ Hid2 (Rnd n t m s s' c k l o ∧ s'.testBit k = true ∧ s'.testBit l = true) ∧ Mm no w wr [.box br (bls fun _ => false) 60, .box bs (bls fun y => s'.testBit y) 60, .box bq (sqs (n : Int) t) 32]) (fun _ ov _ _ => 3 - (intOf ov).toNat)
                  case atStart => exact ⟨s', 0, c, by omega, rfl, rfl, HRO, M⟩
                  case round =>
                    clear HRO
                    obtain ⟨s', o, c, ho, rfl, rfl, HR, M9⟩ := hrel
                    clear M; (try clear C)
                    have M := M9
                    clear M9
                    have C := M.ruleAll; simp only [Go.Proofs.YteonahoboligdaaDoor.ruleAll] at C
                    by_cases ho3 : o < 3
                    · have hzz := HZ.out o k l hlt hl2
                      have HA1 := Hid2.mk (HAP.out o k l hlt hl2)
                      have q1 := bls_get (f := fun y => s'.testBit y) (i := apB t (opc o) k l) (by omega)
                      cases hb : s'.testBit (apB t (opc o) k l) with
                      | true =>
                        have HRN := Hid2.mk (show Rnd n t m s s' c k l (o + 1) ∧ s'.testBit k = true ∧ s'.testBit l = true from ⟨HR.out.1.hit hb, HR.out.2⟩)
                        rw [hb] at q1
                        clear hb HR
                        generalize apB t (opc o) k l = z at *
                        have hz10 : (z : Int) < 10 := by omega
                        obtain rfl | rfl | rfl : o = 0 ∨ o = 1 ∨ o = 2 := by omega
                        · have HA2 : Hid2 (∀ w1, Calls Tryd.prog 58 #[.agg (sqs (n : Int) t), .int .u8 42, .int .u8 (k : Int), .int .u8 (l : Int)] w1 fun e w' => e = .returned (.int .u8 (z : Nat)) ∧ Below w1.heap.size w1 w') := ⟨HA1.out⟩
                          clear HA1
                          have hix : ∀ w : World, (Instr.index 9 (.string { data := #[42, 92, 47] }) (.int .i64 0)).run Tryd.prog w = .ok (.int .u8 42) w := fun w => by kernel_rfl
                          go_wp2
                          apply wp_region_mm M 6 (by kernel_rfl) (by kernel_rfl); (simp only [List.take_succ_cons, List.take_zero]; repeat (first | exact wpText_nil | (apply wpText_cons; (intro w2 M; have C := M.ruleAll; simp only [Go.Proofs.YteonahoboligdaaDoor.ruleAll] at C; go_wp2_with (first | ((with_reducible apply wpM_lda' M 2 32 0 (sqs (n : Int) t)); rfl; rfl; rfl; exact ⟨rfl, inf_sqs.trans (congrArg some (sqs_size ..).symm), _, und_sqs, rfl⟩; exact whole_of rfl) | (go_at_call 58; ((with_reducible refine (HA2.out _).mono ?_); rintro e w1 ⟨rfl, hb⟩; have hsz := M.size; (try (have G9 := G.later hb; clear G; have G := G9; clear G9)); have M9 := M.later hb; clear M; (try clear C); have M := M9; clear M9; have C := M.ruleAll; simp only [Go.Proofs.YteonahoboligdaaDoor.ruleAll] at C))); exact ⟨rfl, rfl, M⟩); rfl))); (clear M; (try clear C); intro w2 M; simp only [List.drop_succ_cons, List.drop_zero]; have C := M.ruleAll; simp only [Go.Proofs.YteonahoboligdaaDoor.ruleAll] at C)
                          go_wp2
                          go_roundw
                          case rel => exact ⟨s', 1, c, by omega, rfl, by go_num, HRN, M⟩
                          case measure => simp [intOf]
                        · have HA2 : Hid2 (∀ w1, Calls Tryd.prog 58 #[.agg (sqs (n : Int) t), .int .u8 92, .int .u8 (k : Int), .int .u8 (l : Int)] w1 fun e w' => e = .returned (.int .u8 (z : Nat)) ∧ Below w1.heap.size w1 w') := ⟨HA1.out⟩
                          clear HA1
                          have hix : ∀ w : World, (Instr.index 9 (.string { data := #[42, 92, 47] }) (.int .i64 1)).run Tryd.prog w = .ok (.int .u8 92) w := fun w => by kernel_rfl
                          go_wp2
                          apply wp_region_mm M 6 (by kernel_rfl) (by kernel_rfl); (simp only [List.take_succ_cons, List.take_zero]; repeat (first | exact wpText_nil | (apply wpText_cons; (intro w2 M; have C := M.ruleAll; simp only [Go.Proofs.YteonahoboligdaaDoor.ruleAll] at C; go_wp2_with (first | ((with_reducible apply wpM_lda' M 2 32 0 (sqs (n : Int) t)); rfl; rfl; rfl; exact ⟨rfl, inf_sqs.trans (congrArg some (sqs_size ..).symm), _, und_sqs, rfl⟩; exact whole_of rfl) | (go_at_call 58; ((with_reducible refine (HA2.out _).mono ?_); rintro e w1 ⟨rfl, hb⟩; have hsz := M.size; (try (have G9 := G.later hb; clear G; have G := G9; clear G9)); have M9 := M.later hb; clear M; (try clear C); have M := M9; clear M9; have C := M.ruleAll; simp only [Go.Proofs.YteonahoboligdaaDoor.ruleAll] at C))); exact ⟨rfl, rfl, M⟩); rfl))); (clear M; (try clear C); intro w2 M; simp only [List.drop_succ_cons, List.drop_zero]; have C := M.ruleAll; simp only [Go.Proofs.YteonahoboligdaaDoor.ruleAll] at C)
                          go_wp2
                          go_roundw
                          case rel => exact ⟨s', 2, c, by omega, rfl, by go_num, HRN, M⟩
                          case measure => simp [intOf]
                        · have HA2 : Hid2 (∀ w1, Calls Tryd.prog 58 #[.agg (sqs (n : Int) t), .int .u8 47, .int .u8 (k : Int), .int .u8 (l : Int)] w1 fun e w' => e = .returned (.int .u8 (z : Nat)) ∧ Below w1.heap.size w1 w') := ⟨HA1.out⟩
                          clear HA1
                          have hix : ∀ w : World, (Instr.index 9 (.string { data := #[42, 92, 47] }) (.int .i64 2)).run Tryd.prog w = .ok (.int .u8 47) w := fun w => by kernel_rfl
                          go_wp2
                          apply wp_region_mm M 6 (by kernel_rfl) (by kernel_rfl); (simp only [List.take_succ_cons, List.take_zero]; repeat (first | exact wpText_nil | (apply wpText_cons; (intro w2 M; have C := M.ruleAll; simp only [Go.Proofs.YteonahoboligdaaDoor.ruleAll] at C; go_wp2_with (first | ((with_reducible apply wpM_lda' M 2 32 0 (sqs (n : Int) t)); rfl; rfl; rfl; exact ⟨rfl, inf_sqs.trans (congrArg some (sqs_size ..).symm), _, und_sqs, rfl⟩; exact whole_of rfl) | (go_at_call 58; ((with_reducible refine (HA2.out _).mono ?_); rintro e w1 ⟨rfl, hb⟩; have hsz := M.size; (try (have G9 := G.later hb; clear G; have G := G9; clear G9)); have M9 := M.later hb; clear M; (try clear C); have M := M9; clear M9; have C := M.ruleAll; simp only [Go.Proofs.YteonahoboligdaaDoor.ruleAll] at C))); exact ⟨rfl, rfl, M⟩); rfl))); (clear M; (try clear C); intro w2 M; simp only [List.drop_succ_cons, List.drop_zero]; have C := M.ruleAll; simp only [Go.Proofs.YteonahoboligdaaDoor.ruleAll] at C)
                          go_wp2
                          go_roundw
                          case rel => exact ⟨s', 3, c, by omega, rfl, by go_num, HRN, M⟩
                          case measure => simp [intOf]
                      | false =>
                        have HRN := Hid2.mk (show Rnd n t m s (s' ||| 2 ^ apB t (opc o) k l) true k l (o + 1) ∧ (s' ||| 2 ^ apB t (opc o) k l).testBit k = true ∧ (s' ||| 2 ^ apB t (opc o) k l).testBit l = true from ⟨HSET.out _ _ _ _ _ _ HR.out.1 hlt hl2 HR.out.2.1 HR.out.2.2 hb, SubM.or_left _ _ k HR.out.2.1, SubM.or_left _ _ l HR.out.2.2⟩)
                        have HS1 := Hid2.mk (HMS.out s' (apB t (opc o) k l))
                        rw [hb] at q1
                        clear hb HR
                        generalize apB t (opc o) k l = z at *
                        have hz10 : (z : Int) < 10 := by omega
                        have hz10n : z < 10 := by omega
                        generalize s' ||| 2 ^ z = s2 at *
                        obtain rfl | rfl | rfl : o = 0 ∨ o = 1 ∨ o = 2 := by omega
                        · have HA2 : Hid2 (∀ w1, Calls Tryd.prog 58 #[.agg (sqs (n : Int) t), .int .u8 42, .int .u8 (k : Int), .int .u8 (l : Int)] w1 fun e w' => e = .returned (.int .u8 (z : Nat)) ∧ Below w1.heap.size w1 w') := ⟨HA1.out⟩
                          clear HA1
                          have hix : ∀ w : World, (Instr.index 9 (.string { data := #[42, 92, 47] }) (.int .i64 0)).run Tryd.prog w = .ok (.int .u8 42) w := fun w => by kernel_rfl
                          go_wp2
                          apply wp_region_mm M 6 (by kernel_rfl) (by kernel_rfl); (simp only [List.take_succ_cons, List.take_zero]; repeat (first | exact wpText_nil | (apply wpText_cons; (intro w2 M; have C := M.ruleAll; simp only [Go.Proofs.YteonahoboligdaaDoor.ruleAll] at C; go_wp2_with (first | ((with_reducible apply wpM_lda' M 2 32 0 (sqs (n : Int) t)); rfl; rfl; rfl; exact ⟨rfl, inf_sqs.trans (congrArg some (sqs_size ..).symm), _, und_sqs, rfl⟩; exact whole_of rfl) | (go_at_call 58; ((with_reducible refine (HA2.out _).mono ?_); rintro e w1 ⟨rfl, hb⟩; have hsz := M.size; (try (have G9 := G.later hb; clear G; have G := G9; clear G9)); have M9 := M.later hb; clear M; (try clear C); have M := M9; clear M9; have C := M.ruleAll; simp only [Go.Proofs.YteonahoboligdaaDoor.ruleAll] at C))); exact ⟨rfl, rfl, M⟩); rfl))); (clear M; (try clear C); intro w2 M; simp only [List.drop_succ_cons, List.drop_zero]; have C := M.ruleAll; simp only [Go.Proofs.YteonahoboligdaaDoor.ruleAll] at C)
                          go_wp2_with (first | ((with_reducible apply wpM_st' M 1 4 (z) (bls fun y => s2.testBit y)); rfl; rfl; rfl; (first | exact .inl (by assumption) | exact .inr rfl | exact .inr (by assumption)); exact ⟨rfl, rfl, by kernel_rfl⟩; (exact Nat.lt_of_lt_of_eq (by omega) (bls_size _).symm); exact HS1.out; clear M; (try clear C); intro w9 M; simp only [List.set_cons_zero, List.set_cons_succ, entBlk, entT, List.getElem?_cons_zero, List.getElem?_cons_succ] at M; have C := M.ruleAll; simp only [Go.Proofs.YteonahoboligdaaDoor.ruleAll] at C))
                          go_roundw
                          case rel => exact ⟨s2, 1, true, by omega, rfl, by go_num, HRN, M⟩
                          case measure => simp [intOf]
                        · have HA2 : Hid2 (∀ w1, Calls Tryd.prog 58 #[.agg (sqs (n : Int) t), .int .u8 92, .int .u8 (k : Int), .int .u8 (l : Int)] w1 fun e w' => e = .returned (.int .u8 (z : Nat)) ∧ Below w1.heap.size w1 w') := ⟨HA1.out⟩
                          clear HA1
                          have hix : ∀ w : World, (Instr.index 9 (.string { data := #[42, 92, 47] }) (.int .i64 1)).run Tryd.prog w = .ok (.int .u8 92) w := fun w => by kernel_rfl
                          go_wp2
                          apply wp_region_mm M 6 (by kernel_rfl) (by kernel_rfl); (simp only [List.take_succ_cons, List.take_zero]; repeat (first | exact wpText_nil | (apply wpText_cons; (intro w2 M; have C := M.ruleAll; simp only [Go.Proofs.YteonahoboligdaaDoor.ruleAll] at C; go_wp2_with (first | ((with_reducible apply wpM_lda' M 2 32 0 (sqs (n : Int) t)); rfl; rfl; rfl; exact ⟨rfl, inf_sqs.trans (congrArg some (sqs_size ..).symm), _, und_sqs, rfl⟩; exact whole_of rfl) | (go_at_call 58; ((with_reducible refine (HA2.out _).mono ?_); rintro e w1 ⟨rfl, hb⟩; have hsz := M.size; (try (have G9 := G.later hb; clear G; have G := G9; clear G9)); have M9 := M.later hb; clear M; (try clear C); have M := M9; clear M9; have C := M.ruleAll; simp only [Go.Proofs.YteonahoboligdaaDoor.ruleAll] at C))); exact ⟨rfl, rfl, M⟩); rfl))); (clear M; (try clear C); intro w2 M; simp only [List.drop_succ_cons, List.drop_zero]; have C := M.ruleAll; simp only [Go.Proofs.YteonahoboligdaaDoor.ruleAll] at C)
                          go_wp2_with (first | ((with_reducible apply wpM_st' M 1 4 (z) (bls fun y => s2.testBit y)); rfl; rfl; rfl; (first | exact .inl (by assumption) | exact .inr rfl | exact .inr (by assumption)); exact ⟨rfl, rfl, by kernel_rfl⟩; (exact Nat.lt_of_lt_of_eq (by omega) (bls_size _).symm); exact HS1.out; clear M; (try clear C); intro w9 M; simp only [List.set_cons_zero, List.set_cons_succ, entBlk, entT, List.getElem?_cons_zero, List.getElem?_cons_succ] at M; have C := M.ruleAll; simp only [Go.Proofs.YteonahoboligdaaDoor.ruleAll] at C))
                          go_roundw
                          case rel => exact ⟨s2, 2, true, by omega, rfl, by go_num, HRN, M⟩
                          case measure => simp [intOf]
                        · have HA2 : Hid2 (∀ w1, Calls Tryd.prog 58 #[.agg (sqs (n : Int) t), .int .u8 47, .int .u8 (k : Int), .int .u8 (l : Int)] w1 fun e w' => e = .returned (.int .u8 (z : Nat)) ∧ Below w1.heap.size w1 w') := ⟨HA1.out⟩
                          clear HA1
                          have hix : ∀ w : World, (Instr.index 9 (.string { data := #[42, 92, 47] }) (.int .i64 2)).run Tryd.prog w = .ok (.int .u8 47) w := fun w => by kernel_rfl
                          go_wp2
                          apply wp_region_mm M 6 (by kernel_rfl) (by kernel_rfl); (simp only [List.take_succ_cons, List.take_zero]; repeat (first | exact wpText_nil | (apply wpText_cons; (intro w2 M; have C := M.ruleAll; simp only [Go.Proofs.YteonahoboligdaaDoor.ruleAll] at C; go_wp2_with (first | ((with_reducible apply wpM_lda' M 2 32 0 (sqs (n : Int) t)); rfl; rfl; rfl; exact ⟨rfl, inf_sqs.trans (congrArg some (sqs_size ..).symm), _, und_sqs, rfl⟩; exact whole_of rfl) | (go_at_call 58; ((with_reducible refine (HA2.out _).mono ?_); rintro e w1 ⟨rfl, hb⟩; have hsz := M.size; (try (have G9 := G.later hb; clear G; have G := G9; clear G9)); have M9 := M.later hb; clear M; (try clear C); have M := M9; clear M9; have C := M.ruleAll; simp only [Go.Proofs.YteonahoboligdaaDoor.ruleAll] at C))); exact ⟨rfl, rfl, M⟩); rfl))); (clear M; (try clear C); intro w2 M; simp only [List.drop_succ_cons, List.drop_zero]; have C := M.ruleAll; simp only [Go.Proofs.YteonahoboligdaaDoor.ruleAll] at C)
                          go_wp2_with (first | ((with_reducible apply wpM_st' M 1 4 (z) (bls fun y => s2.testBit y)); rfl; rfl; rfl; (first | exact .inl (by assumption) | exact .inr rfl | exact .inr (by assumption)); exact ⟨rfl, rfl, by kernel_rfl⟩; (exact Nat.lt_of_lt_of_eq (by omega) (bls_size _).symm); exact HS1.out; clear M; (try clear C); intro w9 M; simp only [List.set_cons_zero, List.set_cons_succ, entBlk, entT, List.getElem?_cons_zero, List.getElem?_cons_succ] at M; have C := M.ruleAll; simp only [Go.Proofs.YteonahoboligdaaDoor.ruleAll] at C))
                          go_roundw
                          case rel => exact ⟨s2, 3, true, by omega, rfl, by go_num, HRN, M⟩
                          case measure => simp [intOf]
                    · obtain rfl : o = 3 := by omega
                      have HRN := Hid2.mk HR.out.1.pair
                      clear HR
                      go_wp2
                      go_roundw
                      case rel => exact ⟨s', l + 1, c, by omega, rfl, by go_num, HRN, M⟩
                      case measure => simp [intOf]; omega
            · obtain rfl : l = n := by omega
              have hge : ¬ ((l : Int) < (l : Int)) := by omega
              have HRN := Hid2.mk HR.out.row
              go_wp2
              go_roundw
              case rel => exact ⟨s', k + 1, c, by omega, rfl, by go_num, HRN, M⟩
              case measure => simp [intOf]; omega
        · obtain rfl : k = n := by omega
          have hge : ¬ ((k : Int) < (k : Int)) := by omega
          have HU1 := Hid2.mk (unset_of (M.box 1 rfl))
          have HLE := Hid2.mk (cn_le 10 fun y => s'.testBit y)
          have HNX := Hid2.mk (show Beg t m s' ∧ (c = false → s' = res) from ⟨HR.out.beg, fun hc => by subst hc; have h := HDN.out _ _ HR.out; rw [h.1]; exact h.2⟩)
          cases c with
          | false =>
            have HE := Hid2.mk (HR.out.same rfl)
            go_wp2
            go_roundw
            case rel => exact ⟨s', false, rfl, HNX, M⟩
            case measure =>
              have h1 := HU0.out
              have h2 := HU1.out
              rw [HE.out] at h2
              simp only [bN]
              omega
          | true =>
            have HE := Hid2.mk (HR.out.up rfl)
            go_wp2
            go_roundw
            case rel => exact ⟨s', true, rfl, HNX, M⟩
            case measure =>
              have h1 := HU0.out
              have h2 := HU1.out
              have h3 := HE.out
              have h4 := HLE.out
              simp only [bN]
              omega
end Go.Proofs.YteonahoboligdaaDoor
