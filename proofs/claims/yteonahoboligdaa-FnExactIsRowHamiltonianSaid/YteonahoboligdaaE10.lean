/- The codes of a square and two rows; RowCycles, on both sides: contracts. -/
import Derived.Test.YteonahoboligdaaE4
import Derived.Test.YteonahoboligdaaE8
import Derived.Test.YteonahoboligdaaE9
import Derived.Test.YteonahoboligdaaC3
import Derived.Test.YteonahoboligdaaC7
import Derived.Test.YteonahoboligdaaK20
namespace Go.Proofs.Yteonahoboligdaa
set_option linter.unusedSimpArgs false
set_option linter.unusedVariables false
open Go Go.RowKit

/-- The code of a square and some elements. -/
noncomputable def ckCode (n : Int) (t : Nat → Nat → Nat) (l : List Nat) : Int := if isSq n t = true then (if (l.all fun x => decide ((x : Int) < n)) = true then 0 else 2) else 1
theorem sq_byte {n : Int} {t : Nat → Nat → Nat} (h : isSq n t = true) : 0 ≤ n ∧ n ≤ 255 := by
  have hs := isSq_true.1 h
  have h1 : (1 : Int) ≤ n := hs.lo
  have h2 : n ≤ 10 := hs.hi
  exact ⟨by omega, by omega⟩
set_option maxRecDepth 100000 in
set_option maxHeartbeats 1000000 in
theorem checked_any (n : Int) (t : Nat → Nat → Nat) (hby : Byt2 t) (l : List Nat) (hl : l.length ≤ 1000) (hlb : ∀ x ∈ l, x < 256) (w : World) (g cap : Nat) (hr : rds w g l.length (elF l)) :
    Calls Try.prog 62 #[.agg (sqs n t), .slice (some ⟨g, 0, none⟩) l.length cap] w fun e w' => e = .returned (.int .i64 (ckCode n t l)) ∧ Below w.heap.size w w' := by
  have M := (Mm.start no w).add (x := .rd g l.length (elF l)) hr fun _ h => by cases h
  have H1 := fun w1 => isSquare_any n t w1 hby
  unfold ckCode
  cases hs : isSq n t with
  | false =>
    rw [hs] at H1
    rw [if_neg (by decide)]
    clear hby hlb hr hs
    go_enter Try.func62, Try.ntmps62
    go_wp2_with (first | ((with_reducible apply wpM_box' M 30 (sqs n t)); rfl; exact ⟨rfl, rfl⟩; clear M; (try clear C); intro bq w9 h_bq M; have C := M.ruleAll; simp only [Go.Proofs.Yteonahoboligdaa.ruleAll] at C) | ((with_reducible apply wpM_lda' M 0 30 0 (sqs n t)); rfl; rfl; rfl; exact ⟨rfl, inf_sqs.trans (congrArg some (sqs_size ..).symm), _, und_sqs, rfl⟩; exact whole_of rfl) | (go_at_call 31; ((with_reducible refine (H1 _).mono ?_); rintro e w1 ⟨rfl, hb⟩; have hsz := M.size; (try (have G9 := G.later hb; clear G; have G := G9; clear G9)); have M9 := M.later hb; clear M; (try clear C); have M := M9; clear M9; have C := M.ruleAll; simp only [Go.Proofs.Yteonahoboligdaa.ruleAll] at C)))
    go_ret
    exact ⟨rfl, M.below⟩
  | true =>
    rw [hs] at H1
    rw [if_pos rfl]
    have H2 := Hid2.mk (fun w1 (h : rds w1 g l.length (elF l)) => hasList_any n t (sq_byte hs) l hl hlb w1 g cap h)
    generalize (l.all fun x => decide ((x : Int) < n)) = b at H2 ⊢
    clear hby hlb hr hs
    go_enter Try.func62, Try.ntmps62
    cases b with
    | false =>
      rw [if_neg (by decide)]
      go_wp2_with (first | ((with_reducible apply wpM_box' M 30 (sqs n t)); rfl; exact ⟨rfl, rfl⟩; clear M; (try clear C); intro bq w9 h_bq M; have C := M.ruleAll; simp only [Go.Proofs.Yteonahoboligdaa.ruleAll] at C) | ((with_reducible apply wpM_lda' M 0 30 0 (sqs n t)); rfl; rfl; rfl; exact ⟨rfl, inf_sqs.trans (congrArg some (sqs_size ..).symm), _, und_sqs, rfl⟩; exact whole_of rfl) | (go_at_call 31; ((with_reducible refine (H1 _).mono ?_); rintro e w1 ⟨rfl, hb⟩; have hsz := M.size; (try (have G9 := G.later hb; clear G; have G := G9; clear G9)); have M9 := M.later hb; clear M; (try clear C); have M := M9; clear M9; have C := M.ruleAll; simp only [Go.Proofs.Yteonahoboligdaa.ruleAll] at C)) | (go_at_call 82; ((with_reducible refine (H2.out _ (M.rd 1 rfl)).mono ?_); rintro e w1 ⟨rfl, hb⟩; have hsz := M.size; (try (have G9 := G.later hb; clear G; have G := G9; clear G9)); have M9 := M.later hb; clear M; (try clear C); have M := M9; clear M9; have C := M.ruleAll; simp only [Go.Proofs.Yteonahoboligdaa.ruleAll] at C)))
      go_ret
      exact ⟨rfl, M.below⟩
    | true =>
      rw [if_pos rfl]
      go_wp2_with (first | ((with_reducible apply wpM_box' M 30 (sqs n t)); rfl; exact ⟨rfl, rfl⟩; clear M; (try clear C); intro bq w9 h_bq M; have C := M.ruleAll; simp only [Go.Proofs.Yteonahoboligdaa.ruleAll] at C) | ((with_reducible apply wpM_lda' M 0 30 0 (sqs n t)); rfl; rfl; rfl; exact ⟨rfl, inf_sqs.trans (congrArg some (sqs_size ..).symm), _, und_sqs, rfl⟩; exact whole_of rfl) | (go_at_call 31; ((with_reducible refine (H1 _).mono ?_); rintro e w1 ⟨rfl, hb⟩; have hsz := M.size; (try (have G9 := G.later hb; clear G; have G := G9; clear G9)); have M9 := M.later hb; clear M; (try clear C); have M := M9; clear M9; have C := M.ruleAll; simp only [Go.Proofs.Yteonahoboligdaa.ruleAll] at C)) | (go_at_call 82; ((with_reducible refine (H2.out _ (M.rd 1 rfl)).mono ?_); rintro e w1 ⟨rfl, hb⟩; have hsz := M.size; (try (have G9 := G.later hb; clear G; have G := G9; clear G9)); have M9 := M.later hb; clear M; (try clear C); have M := M9; clear M9; have C := M.ruleAll; simp only [Go.Proofs.Yteonahoboligdaa.ruleAll] at C)))
      go_ret
      exact ⟨rfl, M.below⟩

/-- The code of a square, two different rows and a column. -/
noncomputable def rwCode (n : Int) (t : Nat → Nat → Nat) (a b c : Nat) : Int := if ckCode n t [a, b, c] = 0 then (if a = b then 2 else 0) else ckCode n t [a, b, c]
theorem ck_cases (n : Int) (t : Nat → Nat → Nat) (l : List Nat) : ckCode n t l = 0 ∨ ckCode n t l = 1 ∨ ckCode n t l = 2 := by
  unfold ckCode
  split
  · split
    · exact .inl rfl
    · exact .inr (.inr rfl)
  · exact .inr (.inl rfl)
theorem bsl_b3 (a b c : Int) (w : World) : (Instr.buildSlice 71 3 [(0, Value.int .u8 a), (1, Value.int .u8 b), (2, Value.int .u8 c)].toArray).run Try.prog w = .ok (.slice (some ⟨w.heap.size, 0, none⟩) 3 3) (w.alloc (.cells #[.int .u8 a, .int .u8 b, .int .u8 c] 5)) := by kernel_rfl
theorem rds_b3 {w : World} {g : Nat} {a b c : Nat} (h : blk w g #[.int .u8 (a : Int), .int .u8 (b : Int), .int .u8 (c : Int)] 5) : rds w g 3 (elF [a, b, c]) :=
  h.rds fun j hj => by
    rcases j with _ | _ | _ | j
    · rfl
    · rfl
    · rfl
    · omega
set_option maxRecDepth 100000 in
set_option maxHeartbeats 1000000 in
theorem rowsCode_any (n : Int) (t : Nat → Nat → Nat) (hby : Byt2 t) (a b c : Nat) (ha : a < 256) (hb : b < 256) (hc : c < 256) (w : World) :
    Calls Try.prog 36 #[.agg (sqs n t), .int .u8 (a : Int), .int .u8 (b : Int), .int .u8 (c : Int)] w fun e w' => e = .returned (.int .i64 (rwCode n t a b c)) ∧ Below w.heap.size w w' := by
  have M := Mm.start no w
  have H1 : Hid2 (∀ w1 g, blk w1 g #[.int .u8 (a : Int), .int .u8 (b : Int), .int .u8 (c : Int)] 5 → Calls Try.prog 62 #[.agg (sqs n t), .slice (some ⟨g, 0, none⟩) 3 3] w1 fun e w' => e = .returned (.int .i64 (ckCode n t [a, b, c])) ∧ Below w1.heap.size w1 w') := ⟨fun w1 g h => checked_any n t hby [a, b, c] (by simp) (fun x hx => by
    simp only [List.mem_cons, List.not_mem_nil, or_false] at hx
    rcases hx with rfl | rfl | rfl <;> assumption) w1 g 3 (rds_b3 h)⟩
  have hcs := ck_cases n t [a, b, c]
  unfold rwCode
  generalize ckCode n t [a, b, c] = k at H1 hcs ⊢
  have ha' : (a : Int) < 256 := by omega
  have hb' : (b : Int) < 256 := by omega
  have hc' : (c : Int) < 256 := by omega
  clear hby
  go_enter Try.func36, Try.ntmps36
  rcases hcs with rfl | rfl | rfl
  · by_cases e : a = b
    · subst e
      rw [if_pos rfl, if_pos rfl]
      have hd : ((a : Int) == (a : Int)) = true := by simp
      go_wp2_with (first | ((with_reducible apply wpM_box' M 30 (sqs n t)); rfl; exact ⟨rfl, rfl⟩; clear M; (try clear C); intro bq w9 h_bq M; have C := M.ruleAll; simp only [Go.Proofs.Yteonahoboligdaa.ruleAll] at C) | ((with_reducible apply wpM_lda' M 0 30 0 (sqs n t)); rfl; rfl; rfl; exact ⟨rfl, inf_sqs.trans (congrArg some (sqs_size ..).symm), _, und_sqs, rfl⟩; exact whole_of rfl) | ((with_reducible apply wpM_bsl' M 71 3 5 ([(0, .int .u8 (a : Int)), (1, .int .u8 (a : Int)), (2, .int .u8 (c : Int))]) (#[.int .u8 (a : Int), .int .u8 (a : Int), .int .u8 (c : Int)])); rfl; rfl; rfl; exact bsl_b3 _ _ _; clear M; (try clear C); intro bb w9 h_bb M; have C := M.ruleAll; simp only [Go.Proofs.Yteonahoboligdaa.ruleAll] at C) | (go_at_call 62; ((with_reducible refine (H1.out _ _ (M.box 0 rfl)).mono ?_); rintro e w1 ⟨rfl, hb⟩; have hsz := M.size; (try (have G9 := G.later hb; clear G; have G := G9; clear G9)); have M9 := M.later hb; clear M; (try clear C); have M := M9; clear M9; have C := M.ruleAll; simp only [Go.Proofs.Yteonahoboligdaa.ruleAll] at C)))
      go_ret
      exact ⟨rfl, M.below⟩
    · rw [if_pos rfl, if_neg e]
      have hd : ((a : Int) == (b : Int)) = false := neqI e
      go_wp2_with (first | ((with_reducible apply wpM_box' M 30 (sqs n t)); rfl; exact ⟨rfl, rfl⟩; clear M; (try clear C); intro bq w9 h_bq M; have C := M.ruleAll; simp only [Go.Proofs.Yteonahoboligdaa.ruleAll] at C) | ((with_reducible apply wpM_lda' M 0 30 0 (sqs n t)); rfl; rfl; rfl; exact ⟨rfl, inf_sqs.trans (congrArg some (sqs_size ..).symm), _, und_sqs, rfl⟩; exact whole_of rfl) | ((with_reducible apply wpM_bsl' M 71 3 5 ([(0, .int .u8 (a : Int)), (1, .int .u8 (b : Int)), (2, .int .u8 (c : Int))]) (#[.int .u8 (a : Int), .int .u8 (b : Int), .int .u8 (c : Int)])); rfl; rfl; rfl; exact bsl_b3 _ _ _; clear M; (try clear C); intro bb w9 h_bb M; have C := M.ruleAll; simp only [Go.Proofs.Yteonahoboligdaa.ruleAll] at C) | (go_at_call 62; ((with_reducible refine (H1.out _ _ (M.box 0 rfl)).mono ?_); rintro e w1 ⟨rfl, hb⟩; have hsz := M.size; (try (have G9 := G.later hb; clear G; have G := G9; clear G9)); have M9 := M.later hb; clear M; (try clear C); have M := M9; clear M9; have C := M.ruleAll; simp only [Go.Proofs.Yteonahoboligdaa.ruleAll] at C)))
      go_ret
      exact ⟨rfl, M.below⟩
  · rw [if_neg (by decide)]
    go_wp2_with (first | ((with_reducible apply wpM_box' M 30 (sqs n t)); rfl; exact ⟨rfl, rfl⟩; clear M; (try clear C); intro bq w9 h_bq M; have C := M.ruleAll; simp only [Go.Proofs.Yteonahoboligdaa.ruleAll] at C) | ((with_reducible apply wpM_lda' M 0 30 0 (sqs n t)); rfl; rfl; rfl; exact ⟨rfl, inf_sqs.trans (congrArg some (sqs_size ..).symm), _, und_sqs, rfl⟩; exact whole_of rfl) | ((with_reducible apply wpM_bsl' M 71 3 5 ([(0, .int .u8 (a : Int)), (1, .int .u8 (b : Int)), (2, .int .u8 (c : Int))]) (#[.int .u8 (a : Int), .int .u8 (b : Int), .int .u8 (c : Int)])); rfl; rfl; rfl; exact bsl_b3 _ _ _; clear M; (try clear C); intro bb w9 h_bb M; have C := M.ruleAll; simp only [Go.Proofs.Yteonahoboligdaa.ruleAll] at C) | (go_at_call 62; ((with_reducible refine (H1.out _ _ (M.box 0 rfl)).mono ?_); rintro e w1 ⟨rfl, hb⟩; have hsz := M.size; (try (have G9 := G.later hb; clear G; have G := G9; clear G9)); have M9 := M.later hb; clear M; (try clear C); have M := M9; clear M9; have C := M.ruleAll; simp only [Go.Proofs.Yteonahoboligdaa.ruleAll] at C)))
    go_ret
    exact ⟨rfl, M.below⟩
  · rw [if_neg (by decide)]
    go_wp2_with (first | ((with_reducible apply wpM_box' M 30 (sqs n t)); rfl; exact ⟨rfl, rfl⟩; clear M; (try clear C); intro bq w9 h_bq M; have C := M.ruleAll; simp only [Go.Proofs.Yteonahoboligdaa.ruleAll] at C) | ((with_reducible apply wpM_lda' M 0 30 0 (sqs n t)); rfl; rfl; rfl; exact ⟨rfl, inf_sqs.trans (congrArg some (sqs_size ..).symm), _, und_sqs, rfl⟩; exact whole_of rfl) | ((with_reducible apply wpM_bsl' M 71 3 5 ([(0, .int .u8 (a : Int)), (1, .int .u8 (b : Int)), (2, .int .u8 (c : Int))]) (#[.int .u8 (a : Int), .int .u8 (b : Int), .int .u8 (c : Int)])); rfl; rfl; rfl; exact bsl_b3 _ _ _; clear M; (try clear C); intro bb w9 h_bb M; have C := M.ruleAll; simp only [Go.Proofs.Yteonahoboligdaa.ruleAll] at C) | (go_at_call 62; ((with_reducible refine (H1.out _ _ (M.box 0 rfl)).mono ?_); rintro e w1 ⟨rfl, hb⟩; have hsz := M.size; (try (have G9 := G.later hb; clear G; have G := G9; clear G9)); have M9 := M.later hb; clear M; (try clear C); have M := M9; clear M9; have C := M.ruleAll; simp only [Go.Proofs.Yteonahoboligdaa.ruleAll] at C)))
    go_ret
    exact ⟨rfl, M.below⟩

set_option maxRecDepth 100000 in
set_option maxHeartbeats 1000000 in
theorem l01Two_any (n : Int) (t : Nat → Nat → Nat) (hby : Byt2 t) (a b : Nat) (ha : a < 256) (hb : b < 256) (w : World) :
    Calls Try.prog 61 #[.agg (sqs n t), .int .u8 (a : Int), .int .u8 (b : Int)] w fun e w' => e = .returned (.int .i64 (ckCode n t [a, b])) ∧ Below w.heap.size w w' := by
  have M := Mm.start no w
  have H1 := fun w1 => l01Is_any n t w1 hby
  have so := sqs_order n t
  have ha' : (a : Int) < 256 := by omega
  have hb' : (b : Int) < 256 := by omega
  unfold ckCode
  cases hs : isSq n t with
  | false =>
    rw [hs] at H1
    rw [if_neg (by decide)]
    clear hby hs
    go_enter Try.func61, Try.ntmps61
    go_wp2_with (first | ((with_reducible apply wpM_box' M 30 (sqs n t)); rfl; exact ⟨rfl, rfl⟩; clear M; (try clear C); intro bq w9 h_bq M; have C := M.ruleAll; simp only [Go.Proofs.Yteonahoboligdaa.ruleAll] at C) | ((with_reducible apply wpM_lda' M 0 30 0 (sqs n t)); rfl; rfl; rfl; exact ⟨rfl, inf_sqs.trans (congrArg some (sqs_size ..).symm), _, und_sqs, rfl⟩; exact whole_of rfl) | (go_at_call 28; ((with_reducible refine (H1 _).mono ?_); rintro e w1 ⟨rfl, hb⟩; have hsz := M.size; (try (have G9 := G.later hb; clear G; have G := G9; clear G9)); have M9 := M.later hb; clear M; (try clear C); have M := M9; clear M9; have C := M.ruleAll; simp only [Go.Proofs.Yteonahoboligdaa.ruleAll] at C)))
    go_ret
    exact ⟨rfl, M.below⟩
  | true =>
    rw [hs] at H1
    rw [if_pos rfl]
    clear hby hs
    by_cases h1 : (a : Int) < n
    · have d1 : decide (n ≤ (a : Int)) = false := decide_eq_false (by omega)
      have d1' : ¬ n ≤ (a : Int) := by omega
      by_cases h2 : (b : Int) < n
      · have d2 : decide (n ≤ (b : Int)) = false := decide_eq_false (by omega)
        have d2' : ¬ n ≤ (b : Int) := by omega
        rw [if_pos (by simp [h1, h2])]
        go_enter Try.func61, Try.ntmps61
        go_wp2_with (first | ((with_reducible apply wpM_box' M 30 (sqs n t)); rfl; exact ⟨rfl, rfl⟩; clear M; (try clear C); intro bq w9 h_bq M; have C := M.ruleAll; simp only [Go.Proofs.Yteonahoboligdaa.ruleAll] at C) | ((with_reducible apply wpM_lda' M 0 30 0 (sqs n t)); rfl; rfl; rfl; exact ⟨rfl, inf_sqs.trans (congrArg some (sqs_size ..).symm), _, und_sqs, rfl⟩; exact whole_of rfl) | (go_at_call 28; ((with_reducible refine (H1 _).mono ?_); rintro e w1 ⟨rfl, hb⟩; have hsz := M.size; (try (have G9 := G.later hb; clear G; have G := G9; clear G9)); have M9 := M.later hb; clear M; (try clear C); have M := M9; clear M9; have C := M.ruleAll; simp only [Go.Proofs.Yteonahoboligdaa.ruleAll] at C)))
        go_ret
        exact ⟨rfl, M.below⟩
      · have d2 : decide (n ≤ (b : Int)) = true := decide_eq_true (by omega)
        have d2' : n ≤ (b : Int) := by omega
        rw [if_neg (by simp [h2])]
        go_enter Try.func61, Try.ntmps61
        go_wp2_with (first | ((with_reducible apply wpM_box' M 30 (sqs n t)); rfl; exact ⟨rfl, rfl⟩; clear M; (try clear C); intro bq w9 h_bq M; have C := M.ruleAll; simp only [Go.Proofs.Yteonahoboligdaa.ruleAll] at C) | ((with_reducible apply wpM_lda' M 0 30 0 (sqs n t)); rfl; rfl; rfl; exact ⟨rfl, inf_sqs.trans (congrArg some (sqs_size ..).symm), _, und_sqs, rfl⟩; exact whole_of rfl) | (go_at_call 28; ((with_reducible refine (H1 _).mono ?_); rintro e w1 ⟨rfl, hb⟩; have hsz := M.size; (try (have G9 := G.later hb; clear G; have G := G9; clear G9)); have M9 := M.later hb; clear M; (try clear C); have M := M9; clear M9; have C := M.ruleAll; simp only [Go.Proofs.Yteonahoboligdaa.ruleAll] at C)))
        go_ret
        exact ⟨rfl, M.below⟩
    · have d1 : decide (n ≤ (a : Int)) = true := decide_eq_true (by omega)
      have d1' : n ≤ (a : Int) := by omega
      rw [if_neg (by simp [h1])]
      go_enter Try.func61, Try.ntmps61
      go_wp2_with (first | ((with_reducible apply wpM_box' M 30 (sqs n t)); rfl; exact ⟨rfl, rfl⟩; clear M; (try clear C); intro bq w9 h_bq M; have C := M.ruleAll; simp only [Go.Proofs.Yteonahoboligdaa.ruleAll] at C) | ((with_reducible apply wpM_lda' M 0 30 0 (sqs n t)); rfl; rfl; rfl; exact ⟨rfl, inf_sqs.trans (congrArg some (sqs_size ..).symm), _, und_sqs, rfl⟩; exact whole_of rfl) | (go_at_call 28; ((with_reducible refine (H1 _).mono ?_); rintro e w1 ⟨rfl, hb⟩; have hsz := M.size; (try (have G9 := G.later hb; clear G; have G := G9; clear G9)); have M9 := M.later hb; clear M; (try clear C); have M := M9; clear M9; have C := M.ruleAll; simp only [Go.Proofs.Yteonahoboligdaa.ruleAll] at C)))
      go_ret
      exact ⟨rfl, M.below⟩

theorem rw_zero (n : Int) (t : Nat → Nat → Nat) (a b : Nat) : rwCode n t a b 0 = if ckCode n t [a, b] = 0 then (if a = b then 2 else 0) else ckCode n t [a, b] := by
  have : ckCode n t [a, b, 0] = ckCode n t [a, b] := by
    unfold ckCode
    cases hs : isSq n t with
    | false => rfl
    | true =>
      have h1 : (1 : Int) ≤ n := (isSq_true.1 hs).lo
      have e : ([a, b, 0].all fun x => decide ((x : Int) < n)) = ([a, b].all fun x => decide ((x : Int) < n)) := by
        have : (0 : Int) < n := by omega
        simp [this]
      rw [e]
  unfold rwCode; rw [this]
set_option maxRecDepth 100000 in
set_option maxHeartbeats 1000000 in
theorem l09Pair_any (n : Int) (t : Nat → Nat → Nat) (hby : Byt2 t) (a b : Nat) (ha : a < 256) (hb : b < 256) (w : World) :
    Calls Try.prog 35 #[.agg (sqs n t), .int .u8 (a : Int), .int .u8 (b : Int), .int .u8 0] w fun e w' => e = .returned (.int .i64 (rwCode n t a b 0)) ∧ Below w.heap.size w w' := by
  have M := Mm.start no w
  have H1 := Hid2.mk (fun w1 => l01Two_any n t hby a b ha hb w1)
  have so := sqs_order n t
  have hcs := ck_cases n t [a, b]
  have h1n : ckCode n t [a, b] = 0 → (0 : Int) < n := fun h => by
    unfold ckCode at h
    split at h
    · rename_i hs
      have h1 : (1 : Int) ≤ n := (isSq_true.1 hs).lo
      omega
    · cases h
  rw [rw_zero]
  generalize ckCode n t [a, b] = k at H1 hcs h1n ⊢
  have ha' : (a : Int) < 256 := by omega
  have hb' : (b : Int) < 256 := by omega
  clear hby
  rcases hcs with rfl | rfl | rfl
  · have d0 : decide (n ≤ (0 : Int)) = false := decide_eq_false (by have := h1n rfl; omega)
    have d0' : ¬ n ≤ (0 : Int) := by have := h1n rfl; omega
    by_cases e : a = b
    · subst e
      rw [if_pos rfl, if_pos rfl]
      have hd : ((a : Int) == (a : Int)) = true := by simp
      go_enter Try.func35, Try.ntmps35
      go_wp2_with (first | ((with_reducible apply wpM_box' M 30 (sqs n t)); rfl; exact ⟨rfl, rfl⟩; clear M; (try clear C); intro bq w9 h_bq M; have C := M.ruleAll; simp only [Go.Proofs.Yteonahoboligdaa.ruleAll] at C) | ((with_reducible apply wpM_lda' M 0 30 0 (sqs n t)); rfl; rfl; rfl; exact ⟨rfl, inf_sqs.trans (congrArg some (sqs_size ..).symm), _, und_sqs, rfl⟩; exact whole_of rfl) | (go_at_call 61; ((with_reducible refine (H1.out _).mono ?_); rintro e w1 ⟨rfl, hb⟩; have hsz := M.size; (try (have G9 := G.later hb; clear G; have G := G9; clear G9)); have M9 := M.later hb; clear M; (try clear C); have M := M9; clear M9; have C := M.ruleAll; simp only [Go.Proofs.Yteonahoboligdaa.ruleAll] at C)))
      go_ret
      exact ⟨rfl, M.below⟩
    · rw [if_pos rfl, if_neg e]
      have hd : ((a : Int) == (b : Int)) = false := neqI e
      go_enter Try.func35, Try.ntmps35
      go_wp2_with (first | ((with_reducible apply wpM_box' M 30 (sqs n t)); rfl; exact ⟨rfl, rfl⟩; clear M; (try clear C); intro bq w9 h_bq M; have C := M.ruleAll; simp only [Go.Proofs.Yteonahoboligdaa.ruleAll] at C) | ((with_reducible apply wpM_lda' M 0 30 0 (sqs n t)); rfl; rfl; rfl; exact ⟨rfl, inf_sqs.trans (congrArg some (sqs_size ..).symm), _, und_sqs, rfl⟩; exact whole_of rfl) | (go_at_call 61; ((with_reducible refine (H1.out _).mono ?_); rintro e w1 ⟨rfl, hb⟩; have hsz := M.size; (try (have G9 := G.later hb; clear G; have G := G9; clear G9)); have M9 := M.later hb; clear M; (try clear C); have M := M9; clear M9; have C := M.ruleAll; simp only [Go.Proofs.Yteonahoboligdaa.ruleAll] at C)))
      go_ret
      exact ⟨rfl, M.below⟩
  · rw [if_neg (by decide)]
    clear h1n
    go_enter Try.func35, Try.ntmps35
    go_wp2_with (first | ((with_reducible apply wpM_box' M 30 (sqs n t)); rfl; exact ⟨rfl, rfl⟩; clear M; (try clear C); intro bq w9 h_bq M; have C := M.ruleAll; simp only [Go.Proofs.Yteonahoboligdaa.ruleAll] at C) | ((with_reducible apply wpM_lda' M 0 30 0 (sqs n t)); rfl; rfl; rfl; exact ⟨rfl, inf_sqs.trans (congrArg some (sqs_size ..).symm), _, und_sqs, rfl⟩; exact whole_of rfl) | (go_at_call 61; ((with_reducible refine (H1.out _).mono ?_); rintro e w1 ⟨rfl, hb⟩; have hsz := M.size; (try (have G9 := G.later hb; clear G; have G := G9; clear G9)); have M9 := M.later hb; clear M; (try clear C); have M := M9; clear M9; have C := M.ruleAll; simp only [Go.Proofs.Yteonahoboligdaa.ruleAll] at C)))
    go_ret
    exact ⟨rfl, M.below⟩
  · rw [if_neg (by decide)]
    clear h1n
    go_enter Try.func35, Try.ntmps35
    go_wp2_with (first | ((with_reducible apply wpM_box' M 30 (sqs n t)); rfl; exact ⟨rfl, rfl⟩; clear M; (try clear C); intro bq w9 h_bq M; have C := M.ruleAll; simp only [Go.Proofs.Yteonahoboligdaa.ruleAll] at C) | ((with_reducible apply wpM_lda' M 0 30 0 (sqs n t)); rfl; rfl; rfl; exact ⟨rfl, inf_sqs.trans (congrArg some (sqs_size ..).symm), _, und_sqs, rfl⟩; exact whole_of rfl) | (go_at_call 61; ((with_reducible refine (H1.out _).mono ?_); rintro e w1 ⟨rfl, hb⟩; have hsz := M.size; (try (have G9 := G.later hb; clear G; have G := G9; clear G9)); have M9 := M.later hb; clear M; (try clear C); have M := M9; clear M9; have C := M.ruleAll; simp only [Go.Proofs.Yteonahoboligdaa.ruleAll] at C)))
    go_ret
    exact ⟨rfl, M.below⟩

/-- The lengths of the cycles of two rows, sorted. -/
noncomputable def rcL (n : Nat) (t : Nat → Nat → Nat) (a b : Nat) : List Nat := ctL (lcn (plW t a b n) n) 10
noncomputable def rcRes (n : Int) (t : Nat → Nat → Nat) (a b : Nat) : List Int × Int := if rwCode n t a b 0 = 0 then ((rcL n.toNat t a b).map fun x : Nat => (x : Int), 0) else ([], rwCode n t a b 0)
theorem i64N_s (l : List Nat) : i64N l = i64s (l.map fun x : Nat => (x : Int)) := i64N_map l
theorem rw_ok {n : Int} {t : Nat → Nat → Nat} {a b : Nat} (h : rwCode n t a b 0 = 0) : ∃ N : Nat, n = N ∧ IsSq (N : Int) t ∧ a < N ∧ b < N ∧ a ≠ b := by
  rw [rw_zero] at h
  have h2 : ckCode n t [a, b] = 0 := by
    split at h
    · assumption
    · exact h
  rw [if_pos h2] at h
  have hne : a ≠ b := fun e => by rw [if_pos e] at h; cases h
  unfold ckCode at h2
  split at h2
  · rename_i hs
    have hs := isSq_true.1 hs
    have h1 : (1 : Int) ≤ n := hs.lo
    split at h2
    · rename_i hall
      simp only [List.all_cons, List.all_nil, Bool.and_true, Bool.and_eq_true, decide_eq_true_eq] at hall
      have e : n = ((n.toNat : Nat) : Int) := by omega
      exact ⟨n.toNat, e, by rw [← e]; exact hs, by omega, by omega, hne⟩
    · cases h2
  · cases h2
theorem rw_cases (n : Int) (t : Nat → Nat → Nat) (a b : Nat) : rwCode n t a b 0 = 0 ∨ rwCode n t a b 0 = 1 ∨ rwCode n t a b 0 = 2 := by
  rw [rw_zero]
  rcases ck_cases n t [a, b] with h | h | h <;> rw [h]
  · rw [if_pos rfl]
    split
    · exact .inr (.inr rfl)
    · exact .inl rfl
  · exact .inr (.inl rfl)
  · exact .inr (.inr rfl)
theorem rcL_len (n : Nat) (hn : n ≤ 10) (t : Nat → Nat → Nat) (a b : Nat) : (rcL n t a b).length ≤ 100 := ctL_len (fun j => Nat.le_trans (lcn_le _ _ _) hn) 10
theorem rc_len (n : Int) (t : Nat → Nat → Nat) (a b : Nat) : (rcRes n t a b).1.length ≤ 100 := by
  unfold rcRes
  split
  · rename_i h
    obtain ⟨N, rfl, hs, _⟩ := rw_ok h
    rw [List.length_map]
    exact rcL_len _ (by have := hs.hi; omega) t a b
  · exact Nat.zero_le _
set_option maxRecDepth 100000 in
set_option maxHeartbeats 2000000 in
theorem specRowCycles_any (n : Int) (t : Nat → Nat → Nat) (hby : Byt2 t) (a b : Nat) (ha : a < 256) (hb : b < 256) (w : World) : Calls Try.prog 12 #[.agg (sqs n t), .int .u8 (a : Int), .int .u8 (b : Int)] w (FaPost (rcRes n t a b).1 (rcRes n t a b).2 w) := by
  have M := Mm.start no w
  have H1 := Hid2.mk (fun w1 => l09Pair_any n t hby a b ha hb w1)
  have hcs := rw_cases n t a b
  unfold rcRes
  by_cases h0 : rwCode n t a b 0 = 0
  · obtain ⟨N, rfl, hs, h1, h2, hne⟩ := rw_ok h0
    rw [if_pos h0]
    rw [h0] at H1
    have H2 := Hid2.mk (fun w1 => l09Lengths_any N t hs a b h1 h2 w1)
    simp only [Int.toNat_natCast]
    unfold rcL
    simp only [i64N_s] at H2
    generalize ctL (lcn (plW t a b N) N) 10 = out at H2 ⊢
    clear hby hcs h0 hs
    go_enter Try.func12, Try.ntmps12
    go_wp2_with (first | ((with_reducible apply wpM_box' M 30 (sqs (N : Int) t)); rfl; exact ⟨rfl, rfl⟩; clear M; (try clear C); intro bq w9 h_bq M; have C := M.ruleAll; simp only [Go.Proofs.Yteonahoboligdaa.ruleAll] at C) | ((with_reducible apply wpM_lda' M 0 30 0 (sqs (N : Int) t)); rfl; rfl; rfl; exact ⟨rfl, inf_sqs.trans (congrArg some (sqs_size ..).symm), _, und_sqs, rfl⟩; exact whole_of rfl) | (go_at_call 35; ((with_reducible refine (H1.out _).mono ?_); rintro e w1 ⟨rfl, hb⟩; have hsz := M.size; (try (have G9 := G.later hb; clear G; have G := G9; clear G9)); have M9 := M.later hb; clear M; (try clear C); have M := M9; clear M9; have C := M.ruleAll; simp only [Go.Proofs.Yteonahoboligdaa.ruleAll] at C)) | (go_at_call 29; fail))
    refine (H2.out _).mono ?_
    rintro e w2 ⟨v, rfl, M'⟩
    have M9 := M.joinRow M'
    obtain ⟨pp, cc, rfl⟩ := own_form (M9.row 0 rfl)
    clear M; (try clear C)
    have M := M9
    clear M9 M'
    go_wp2
    go_ret2
    exact ⟨_, rfl, by rw [List.length_map]; exact M.sub [0] (by decide)⟩
  · rw [if_neg h0]
    generalize rwCode n t a b 0 = k at *
    clear hby
    go_enter Try.func12, Try.ntmps12
    rcases hcs with rfl | rfl | rfl
    · exact absurd rfl h0
    · go_wp2_with (first | ((with_reducible apply wpM_box' M 30 (sqs n t)); rfl; exact ⟨rfl, rfl⟩; clear M; (try clear C); intro bq w9 h_bq M; have C := M.ruleAll; simp only [Go.Proofs.Yteonahoboligdaa.ruleAll] at C) | ((with_reducible apply wpM_lda' M 0 30 0 (sqs n t)); rfl; rfl; rfl; exact ⟨rfl, inf_sqs.trans (congrArg some (sqs_size ..).symm), _, und_sqs, rfl⟩; exact whole_of rfl) | (go_at_call 35; ((with_reducible refine (H1.out _).mono ?_); rintro e w1 ⟨rfl, hb⟩; have hsz := M.size; (try (have G9 := G.later hb; clear G; have G := G9; clear G9)); have M9 := M.later hb; clear M; (try clear C); have M := M9; clear M9; have C := M.ruleAll; simp only [Go.Proofs.Yteonahoboligdaa.ruleAll] at C)))
      go_ret2
      exact FaPost.nil2 M.below 1
    · go_wp2_with (first | ((with_reducible apply wpM_box' M 30 (sqs n t)); rfl; exact ⟨rfl, rfl⟩; clear M; (try clear C); intro bq w9 h_bq M; have C := M.ruleAll; simp only [Go.Proofs.Yteonahoboligdaa.ruleAll] at C) | ((with_reducible apply wpM_lda' M 0 30 0 (sqs n t)); rfl; rfl; rfl; exact ⟨rfl, inf_sqs.trans (congrArg some (sqs_size ..).symm), _, und_sqs, rfl⟩; exact whole_of rfl) | (go_at_call 35; ((with_reducible refine (H1.out _).mono ?_); rintro e w1 ⟨rfl, hb⟩; have hsz := M.size; (try (have G9 := G.later hb; clear G; have G := G9; clear G9)); have M9 := M.later hb; clear M; (try clear C); have M := M9; clear M9; have C := M.ruleAll; simp only [Go.Proofs.Yteonahoboligdaa.ruleAll] at C)))
      go_ret2
      exact FaPost.nil2 M.below 2
theorem srt_rcL (n : Nat) (t : Nat → Nat → Nat) (hs : IsSq (n : Int) t) {a b : Nat} (ha : a < n) (hb : b < n) : srtL (sg t a b) n = rcL n t a b :=
  srtL_eq (by have := hs.hi; omega) (sg_pm hs ha hb) (plW_pm (Lat.of_sq hs) ha hb) ((Lat.of_sq hs).row ha) fun y hy => plW_sg hs ha hb y hy
set_option maxRecDepth 100000 in
set_option maxHeartbeats 2000000 in
theorem implRowCycles_any (n : Int) (t : Nat → Nat → Nat) (hby : Byt2 t) (a b : Nat) (ha : a < 256) (hb : b < 256) (w : World) : Calls Try.prog 13 #[.agg (sqs n t), .int .u8 (a : Int), .int .u8 (b : Int)] w (FaPost (rcRes n t a b).1 (rcRes n t a b).2 w) := by
  have M := Mm.start no w
  have H1 : Hid2 (∀ w1, Calls Try.prog 36 #[.agg (sqs n t), .int .u8 (a : Int), .int .u8 (b : Int), .int .u8 0] w1 fun e w' => e = .returned (.int .i64 (rwCode n t a b 0)) ∧ Below w1.heap.size w1 w') := ⟨fun w1 => rowsCode_any n t hby a b 0 ha hb (by decide) w1⟩
  have hcs := rw_cases n t a b
  unfold rcRes
  by_cases h0 : rwCode n t a b 0 = 0
  · obtain ⟨N, rfl, hs, h1, h2, hne⟩ := rw_ok h0
    rw [if_pos h0]
    rw [h0] at H1
    have H2 := Hid2.mk (fun w1 => implCycles_any N t hs a b h1 h2 w1)
    rw [srt_rcL N t hs h1 h2] at H2
    simp only [Int.toNat_natCast]
    simp only [i64N_s] at H2
    generalize rcL N t a b = out at H2 ⊢
    clear hby hcs h0 hs
    go_enter Try.func13, Try.ntmps13
    go_wp2_with (first | ((with_reducible apply wpM_box' M 30 (sqs (N : Int) t)); rfl; exact ⟨rfl, rfl⟩; clear M; (try clear C); intro bq w9 h_bq M; have C := M.ruleAll; simp only [Go.Proofs.Yteonahoboligdaa.ruleAll] at C) | ((with_reducible apply wpM_lda' M 0 30 0 (sqs (N : Int) t)); rfl; rfl; rfl; exact ⟨rfl, inf_sqs.trans (congrArg some (sqs_size ..).symm), _, und_sqs, rfl⟩; exact whole_of rfl) | (go_at_call 36; ((with_reducible refine (H1.out _).mono ?_); rintro e w1 ⟨rfl, hb⟩; have hsz := M.size; (try (have G9 := G.later hb; clear G; have G := G9; clear G9)); have M9 := M.later hb; clear M; (try clear C); have M := M9; clear M9; have C := M.ruleAll; simp only [Go.Proofs.Yteonahoboligdaa.ruleAll] at C)) | (go_at_call 34; fail))
    refine (H2.out _).mono ?_
    rintro e w2 ⟨v, rfl, hown, hbel⟩
    have M9 := M.gain hbel (x := .row w.heap.size v out.length (i64s (out.map fun x : Nat => (x : Int))) 2 1) (ownsRow_weak hown M.size) fun b hb => place_row hown b hb
    obtain ⟨pp, cc, rfl⟩ := own_form (M9.row 0 rfl)
    clear M; (try clear C)
    have M := M9
    clear M9 hown hbel
    go_wp2
    go_ret2
    exact ⟨_, rfl, by rw [List.length_map]; exact M.sub [0] (by decide)⟩
  · rw [if_neg h0]
    generalize rwCode n t a b 0 = k at *
    clear hby
    go_enter Try.func13, Try.ntmps13
    rcases hcs with rfl | rfl | rfl
    · exact absurd rfl h0
    · go_wp2_with (first | ((with_reducible apply wpM_box' M 30 (sqs n t)); rfl; exact ⟨rfl, rfl⟩; clear M; (try clear C); intro bq w9 h_bq M; have C := M.ruleAll; simp only [Go.Proofs.Yteonahoboligdaa.ruleAll] at C) | ((with_reducible apply wpM_lda' M 0 30 0 (sqs n t)); rfl; rfl; rfl; exact ⟨rfl, inf_sqs.trans (congrArg some (sqs_size ..).symm), _, und_sqs, rfl⟩; exact whole_of rfl) | (go_at_call 36; ((with_reducible refine (H1.out _).mono ?_); rintro e w1 ⟨rfl, hb⟩; have hsz := M.size; (try (have G9 := G.later hb; clear G; have G := G9; clear G9)); have M9 := M.later hb; clear M; (try clear C); have M := M9; clear M9; have C := M.ruleAll; simp only [Go.Proofs.Yteonahoboligdaa.ruleAll] at C)))
      go_ret2
      exact FaPost.nil2 M.below 1
    · go_wp2_with (first | ((with_reducible apply wpM_box' M 30 (sqs n t)); rfl; exact ⟨rfl, rfl⟩; clear M; (try clear C); intro bq w9 h_bq M; have C := M.ruleAll; simp only [Go.Proofs.Yteonahoboligdaa.ruleAll] at C) | ((with_reducible apply wpM_lda' M 0 30 0 (sqs n t)); rfl; rfl; rfl; exact ⟨rfl, inf_sqs.trans (congrArg some (sqs_size ..).symm), _, und_sqs, rfl⟩; exact whole_of rfl) | (go_at_call 36; ((with_reducible refine (H1.out _).mono ?_); rintro e w1 ⟨rfl, hb⟩; have hsz := M.size; (try (have G9 := G.later hb; clear G; have G := G9; clear G9)); have M9 := M.later hb; clear M; (try clear C); have M := M9; clear M9; have C := M.ruleAll; simp only [Go.Proofs.Yteonahoboligdaa.ruleAll] at C)))
      go_ret2
      exact FaPost.nil2 M.below 2
end Go.Proofs.Yteonahoboligdaa
