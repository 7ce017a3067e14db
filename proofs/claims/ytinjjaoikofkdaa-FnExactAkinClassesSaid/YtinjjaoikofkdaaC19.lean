/- The program's visit of all isomorphisms: a contract. -/
import Derived.Test.YtinjjaoikofkdaaC18
namespace Go.Proofs.Ytinjjaoikofkdaa
set_option linter.unusedSimpArgs false
set_option linter.unusedVariables false
open Go Go.RowKit

/-- All isomorphisms of two squares. -/
noncomputable def isoAll (N K : Nat) (t u : Nat → Nat → Nat) : List (List Nat) := if N = K then isos N t u fun _ => none else []
/-- What a part is as it is made, k places along. -/
def mkTo (k : Nat) : PM := ⟨fun i => if i < k then -1 else 0, fun i => if i < k then 0 else 1, 0⟩
theorem build_led (n : Int) (t : Nat → Nat → Nat) (k : Int) (u : Nat → Nat → Nat) (w : World) : (Instr.build 134 #[(0, .agg (sqs n t)), (1, .agg (sqs k u))]).run Try.prog w = .ok (.agg (led n t k u (mkTo 0) fun _ => 0)) w := by kernel_rfl
theorem zero_sfn (w : World) : (zeroValue 135).run Try.prog w = .ok .nilFunc w := by kernel_rfl
set_option maxRecDepth 4000 in
theorem led_init {n k : Int} {t u : Nat → Nat → Nat} {j : Nat} (hj : j < 10) : ((led n t k u (mkTo j) fun _ => 0).setIfInBounds (202 + j) (.int .u8 255)).setIfInBounds (212 + j) (.int .u8 255) = led n t k u (mkTo (j + 1)) fun _ => 0 := by
  unfold led
  rw [tab_set, tab_set]
  refine tab_ext fun i hi => ?_
  by_cases h1 : i = 212 + j
  · subst h1
    rw [if_pos rfl, if_neg (by omega), if_neg (by omega), if_neg (by omega), Nat.add_sub_cancel_left]
    simp [frC, mkTo]
  · rw [if_neg h1]
    by_cases h2 : i = 202 + j
    · subst h2
      rw [if_pos rfl, if_neg (by omega), if_neg (by omega), if_pos (by omega), Nat.add_sub_cancel_left]
      simp [toC, mkTo]
    · rw [if_neg h2]
      by_cases a : i < 101
      · exact (if_pos a).trans (if_pos a).symm
      · refine (if_neg a).trans (Eq.trans ?_ (if_neg a).symm)
        by_cases b : i < 202
        · exact (if_pos b).trans (if_pos b).symm
        · refine (if_neg b).trans (Eq.trans ?_ (if_neg b).symm)
          by_cases c : i < 212
          · refine (if_pos c).trans (Eq.trans ?_ (if_pos c).symm)
            have e : toC (mkTo j) (i - 202) = toC (mkTo (j + 1)) (i - 202) := by
              unfold toC mkTo
              by_cases h : i - 202 < j
              · simp [h, show i - 202 < j + 1 by omega]
              · simp [h, show ¬ i - 202 < j + 1 by omega]
            rw [e]
          · refine (if_neg c).trans (Eq.trans ?_ (if_neg c).symm)
            have e : frC (mkTo j) (fun _ => 0) (i - 212) = frC (mkTo (j + 1)) (fun _ => 0) (i - 212) := by
              unfold frC mkTo
              by_cases h : i - 212 < j
              · simp [h, show i - 212 < j + 1 by omega]
              · simp [h, show ¬ i - 212 < j + 1 by omega]
            rw [e]
set_option maxRecDepth 4000 in
theorem led_start {n k : Int} {t u : Nat → Nat → Nat} : (led n t k u (mkTo 10) fun _ => 0) = led n t k u PM.zero fun _ => 0 := by
  unfold led
  refine tab_ext fun i hi => ?_
  by_cases a : i < 101
  · exact (if_pos a).trans (if_pos a).symm
  · refine (if_neg a).trans (Eq.trans ?_ (if_neg a).symm)
    by_cases b : i < 202
    · exact (if_pos b).trans (if_pos b).symm
    · refine (if_neg b).trans (Eq.trans ?_ (if_neg b).symm)
      by_cases c : i < 212
      · refine (if_pos c).trans (Eq.trans ?_ (if_pos c).symm)
        have e : i - 202 < 10 := by omega
        simp [toC, mkTo, PM.zero, e]
      · refine (if_neg c).trans (Eq.trans ?_ (if_neg c).symm)
        have e : i - 212 < 10 := by omega
        simp [frC, mkTo, PM.zero, e]

/-- What a visit gives. -/
def Visited (V : List (List Nat) → (Nat → Prop) → World → Prop) (l : List (List Nat)) (D : Nat → Prop) (w : World) (e : Ending) (w' : World) : Prop :=
  e = .returned (.tuple #[]) ∧ ∃ D', (Ent.res D' (V l D')).holds w' ∧ (∀ k, D' k → D k ∨ w.heap.size ≤ k) ∧ Kept D w w'

set_option maxRecDepth 100000 in
set_option maxHeartbeats 2000000 in
theorem isomorphisms_any (N K : Nat) (t u : Nat → Nat → Nat) (s : Bool) (f : Nat) (cap : Array Value) (V : List (List Nat) → (Nat → Prop) → World → Prop) (most : Nat) (D : Nat → Prop) (w : World) (hV : Visits s f cap V most) (h0 : 1 ≤ N) (h1 : N ≤ 10)
    (ht : ∀ x y : Nat, x < N → y < N → t x y < N) (hu : ∀ x y : Nat, x < K → y < K → u x y < K) (hD : (Ent.res D (V [] D)).holds w) (hmost : (res s (isoAll N K t u)).length ≤ most) :
    Calls Try.prog 89 #[.agg (sqs (N : Int) t), .agg (sqs (K : Int) u), .func (.func f) #[] cap] w (Visited V (res s (isoAll N K t u)) D w) := by
  have M := (Mm.start D w).add hD fun _ h => by cases h
  have HV := Hid2.mk hV
  have so1 := sqs_order (N : Int) t
  have so2 := sqs_order (K : Int) u
  have hmf : ∀ (fn : Fn) (first cap : Array Value) (w : World), (Instr.makeFunc fn first cap).run Try.prog w = .ok (.func fn first cap) w := fun _ _ _ _ => rfl
  clear hV hD
  by_cases hNK : N = K
  · subst hNK
    have hS := fun w1 bq bs bv hM => search_any N t u s f cap V most HV.out h0 h1 ht hu (N + 1) PM.zero (fun _ => 0) [] w1 D bq bs bv (zero_va N) (zero_cl N t u) (by have := um_le PM.zero.to N; omega) (fun _ => by omega) (by
      rw [isoAll, if_pos rfl] at hmost
      simpa [PM.zero, zero_abs] using hmost) hM
    have HS := Hid2.mk hS
    clear hS ht hu hmost
    go_enter Try.func89, Try.ntmps89
    go_wp2_with (first | ((with_reducible apply wpM_box' M 43 (sqs (N : Int) t)); rfl; exact ⟨rfl, rfl⟩; clear M; (try clear C); intro bq w9 h_bq M; have C := M.ruleAll; simp only [Go.Proofs.Ytinjjaoikofkdaa.ruleAll] at C) | ((with_reducible apply wpM_box' M 43 (sqs (N : Int) u)); rfl; exact ⟨rfl, rfl⟩; clear M; (try clear C); intro br w9 h_br M; have C := M.ruleAll; simp only [Go.Proofs.Ytinjjaoikofkdaa.ruleAll] at C) | ((with_reducible apply wpM_box' M 109 (#[.func (.func f) #[] cap])); rfl; exact ⟨rfl, rfl⟩; clear M; (try clear C); intro bv w9 h_bv M; have C := M.ruleAll; simp only [Go.Proofs.Ytinjjaoikofkdaa.ruleAll] at C) | ((with_reducible apply wpM_lda' M 2 43 0 (sqs (N : Int) t)); rfl; rfl; rfl; exact ⟨rfl, inf_sqs.trans (congrArg some (sqs_size ..).symm), _, und_sqs, rfl⟩; exact whole_of rfl) | ((with_reducible apply wpM_lda' M 1 43 0 (sqs (N : Int) u)); rfl; rfl; rfl; exact ⟨rfl, inf_sqs.trans (congrArg some (sqs_size ..).symm), _, und_sqs, rfl⟩; exact whole_of rfl) | (refine wpList_build 134 _ rfl rfl [(0, .agg (sqs (N : Int) t)), (1, .agg (sqs (N : Int) u))] rfl _ (build_led _ _ _ _ _) ?_) | ((with_reducible apply wpM_alloc' M 134 (led0)); rfl; exact ⟨rfl, _, zero_led _, rfl⟩; clear M; (try clear C); intro bl w9 h_bl M; have C := M.ruleAll; simp only [Go.Proofs.Ytinjjaoikofkdaa.ruleAll] at C) | ((with_reducible apply wpM_sta' M 0 134 (led (N : Int) t (N : Int) u (mkTo 0) fun _ => 0)); rfl; rfl; rfl; rfl; (first | exact .inl (by assumption) | exact .inr rfl | exact .inr (by assumption)); exact ⟨rfl, inf_led.trans (congrArg some (led_size ..).symm), flat_led _ _ _ _ _ _⟩; (simp only [entCells, List.getElem?_cons_zero, List.getElem?_cons_succ, led_size, led0_size]); clear M; (try clear C); intro w9 M; simp only [List.set_cons_zero, List.set_cons_succ, entBlk, entT, List.getElem?_cons_zero, List.getElem?_cons_succ] at M; have C := M.ruleAll; simp only [Go.Proofs.Ytinjjaoikofkdaa.ruleAll] at C))
    clear so1 so2
    go_loopw [7, 17] (fun _ i wr => ∃ k : Nat, k ≤ 10 ∧ i = .int .i64 (k : Int) ∧ Mm D w wr [.box bl (led (N : Int) t (N : Int) u (mkTo k) fun _ => 0) 134, .box bv #[.func (.func f) #[] cap] 109, .box br (sqs (N : Int) u) 43, .box bq (sqs (N : Int) t) 43, .res D (V [] D)]) (fun _ i _ => 10 - (intOf i).toNat)
    case atStart => exact ⟨0, by omega, rfl, M⟩
    case round =>
      obtain ⟨k, hk, rfl, M9⟩ := hrel
      clear M; (try clear C)
      have M := M9
      clear M9
      have C := M.ruleAll; simp only [Go.Proofs.Ytinjjaoikofkdaa.ruleAll] at C
      by_cases hlt : k < 10
      · have hlt' : (k : Int) < 10 := by omega
        go_wp2_with (first | ((with_reducible apply wpM_st' M 0 5 (202 + k) ((led (N : Int) t (N : Int) u (mkTo k) fun _ => 0).setIfInBounds (202 + k) (.int .u8 255))); rfl; rfl; rfl; (first | exact .inl (by assumption) | exact .inr rfl | exact .inr (by assumption)); exact ⟨rfl, rfl, by kernel_rfl⟩; (exact Nat.lt_of_lt_of_eq (by omega) (led_size ..).symm); exact rfl; clear M; (try clear C); intro w9 M; simp only [List.set_cons_zero, List.set_cons_succ, entBlk, entT, List.getElem?_cons_zero, List.getElem?_cons_succ] at M; have C := M.ruleAll; simp only [Go.Proofs.Ytinjjaoikofkdaa.ruleAll] at C) | ((with_reducible apply wpM_st' M 0 5 (212 + k) (led (N : Int) t (N : Int) u (mkTo (k + 1)) fun _ => 0)); rfl; rfl; rfl; (first | exact .inl (by assumption) | exact .inr rfl | exact .inr (by assumption)); exact ⟨rfl, rfl, by kernel_rfl⟩; (exact Nat.lt_of_lt_of_eq (by omega) (Eq.trans (Array.size_setIfInBounds ..) (led_size ..)).symm); exact led_init hlt; clear M; (try clear C); intro w9 M; simp only [List.set_cons_zero, List.set_cons_succ, entBlk, entT, List.getElem?_cons_zero, List.getElem?_cons_succ] at M; have C := M.ruleAll; simp only [Go.Proofs.Ytinjjaoikofkdaa.ruleAll] at C))
        go_roundw
        case rel => exact ⟨k + 1, by omega, by go_num, M⟩
        case measure => simp [intOf]; omega
      · obtain rfl : k = 10 := by omega
        rw [led_start] at M
        have hsb : ∀ bs, (sBox bq bs bv)[0]? = some (.func (.func 104) #[] #[.pointer (some ⟨bq, 0, none⟩), .pointer (some ⟨bs, 0, none⟩), .pointer (some ⟨bv, 0, none⟩)]) := fun _ => rfl
        go_wp2_with (first | ((with_reducible apply wpM_alloc' M 135 (#[.nilFunc])); rfl; exact ⟨rfl, _, zero_sfn _, rfl⟩; clear M; (try clear C); intro bs w9 h_bs M; have C := M.ruleAll; simp only [Go.Proofs.Ytinjjaoikofkdaa.ruleAll] at C) | ((with_reducible apply wpM_st' M 0 135 (0) (sBox bq bs bv)); rfl; rfl; rfl; (first | exact .inl (by assumption) | exact .inr rfl | exact .inr (by assumption)); exact ⟨rfl, rfl, by kernel_rfl⟩; exact Nat.zero_lt_one; exact rfl; clear M; (try clear C); intro w9 M; simp only [List.set_cons_zero, List.set_cons_succ, entBlk, entT, List.getElem?_cons_zero, List.getElem?_cons_succ] at M; have C := M.ruleAll; simp only [Go.Proofs.Ytinjjaoikofkdaa.ruleAll] at C) | ((with_reducible apply wpM_lda' M 1 134 0 (led (N : Int) t (N : Int) u PM.zero fun _ => 0)); rfl; rfl; rfl; exact ⟨rfl, inf_led.trans (congrArg some (led_size ..).symm), _, und_led, rfl⟩; exact whole_of rfl) | (go_at_call 104; ((with_reducible refine (HS.out _ bq bs bv (M.anew.sub [4, 0, 2, 5] (by decide))).mono ?_); rintro e w4 ⟨rfl, D2, hD1, hD2, hKp⟩; have hsz := M.size; have M9 := M.visit 5 rfl hD1 hD2 hKp (fun _ _ h => h); clear M; (try clear C); have M := M9; clear M9; (try simp only [List.set_cons_zero, List.set_cons_succ] at M); have C := M.ruleAll; simp only [Go.Proofs.Ytinjjaoikofkdaa.ruleAll] at C; clear hKp)))
        go_end0
        rw [isoAll, if_pos rfl]
        exact ⟨rfl, D2, M.at_ 5 rfl, fun j hj => (hD2 j hj).imp id fun h => by omega, M.kept⟩
  · have hNK' : ¬ ((N : Int) = (K : Int)) := by omega
    rw [isoAll, if_neg hNK]
    go_enter Try.func89, Try.ntmps89
    go_wp2_with (first | ((with_reducible apply wpM_box' M 43 (sqs (N : Int) t)); rfl; exact ⟨rfl, rfl⟩; clear M; (try clear C); intro bq w9 h_bq M; have C := M.ruleAll; simp only [Go.Proofs.Ytinjjaoikofkdaa.ruleAll] at C) | ((with_reducible apply wpM_box' M 43 (sqs (K : Int) u)); rfl; exact ⟨rfl, rfl⟩; clear M; (try clear C); intro br w9 h_br M; have C := M.ruleAll; simp only [Go.Proofs.Ytinjjaoikofkdaa.ruleAll] at C) | ((with_reducible apply wpM_box' M 109 (#[.func (.func f) #[] cap])); rfl; exact ⟨rfl, rfl⟩; clear M; (try clear C); intro bv w9 h_bv M; have C := M.ruleAll; simp only [Go.Proofs.Ytinjjaoikofkdaa.ruleAll] at C))
    go_end0
    exact ⟨rfl, D, by cases s <;> exact M.at_ 3 rfl, fun j hj => .inl hj, M.kept⟩
end Go.Proofs.Ytinjjaoikofkdaa
