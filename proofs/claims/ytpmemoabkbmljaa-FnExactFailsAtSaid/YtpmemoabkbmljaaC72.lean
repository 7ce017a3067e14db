/- The first place where an identity does not hold, on both sides: contracts. -/
import Derived.Test.YtpmemoabkbmljaaC71
namespace Go.Proofs.Ytpmemoabkbmljaa
set_option linter.unusedSimpArgs false
set_option linter.unusedVariables false
open Go Go.RowKit

noncomputable def askB (n : Int) (t : Nat → Nat → Nat) (xs ys : List Nat) : Bool := isSq n t && isId xs ys
/-- What is handed back: a list and a code. -/
noncomputable def faOut (n : Int) (t : Nat → Nat → Nat) (xs ys : List Nat) : List Int :=
  if askB n t xs ys = true then (match fst3 (neB t (elB xs) xs.length (elB ys) ys.length) n.toNat n.toNat n.toNat with | none => [] | some (x, y, z) => [(x : Int), (y : Int), (z : Int)]) else []
noncomputable def faCode (n : Int) (t : Nat → Nat → Nat) (xs ys : List Nat) : Int :=
  if askB n t xs ys = true then (match fst3 (neB t (elB xs) xs.length (elB ys) ys.length) n.toNat n.toNat n.toNat with | none => 4 | some _ => 0) else 1
def i64s (l : List Int) : List Value := l.map fun i => .int .i64 i
def FaPost (out : List Int) (code : Int) (w : World) (e : Ending) (w' : World) : Prop :=
  ∃ v, e = .returned (.tuple #[v, .int .i64 code]) ∧ Mm no w w' [.row w.heap.size v out.length (i64s out) 2 1]

set_option maxRecDepth 100000 in
set_option maxHeartbeats 1000000 in
theorem isAsked_any (n : Int) (t : Nat → Nat → Nat) (hby : Byt2 t) (xs ys : List Nat) (h1 : xs.length ≤ 10000000) (h2 : ys.length ≤ 10000000) (w : World) (p1 p2 : Option Addr) (c1 c2 : Nat) (r1 : rdq w p1 xs.length (bytF xs)) (r2 : rdq w p2 ys.length (bytF ys)) :
    Calls Try.prog 26 #[.agg (sqs n t), .agg (idV p1 c1 p2 c2 xs.length ys.length)] w fun e w' => e = .returned (.bool (askB n t xs ys)) ∧ Below w.heap.size w w' := by
  have M := Mm.start no w
  have H1 := fun w1 => isSquare_any n t w1 hby
  have H2 := fun w1 (hb : Below w.heap.size w w1) => isIdentity_any xs ys h1 h2 w1 p1 p2 c1 c2 (r1.later hb) (r2.later hb)
  unfold askB
  generalize isSq n t = a at H1
  generalize isId xs ys = b at H2
  clear r1 r2 hby
  go_enter Try.func26, Try.ntmps26
  cases a
  · go_wp2_with (first | ((with_reducible apply wpM_box' M 35 (sqs n t)); rfl; exact ⟨rfl, rfl⟩; clear M; (try clear C); intro bq w9 h_bq M; have C := M.ruleAll; simp only [Go.Proofs.Ytpmemoabkbmljaa.ruleAll] at C) | ((with_reducible apply wpM_box' M 37 (idV p1 c1 p2 c2 xs.length ys.length)); rfl; exact ⟨rfl, rfl⟩; clear M; (try clear C); intro bi w9 h_bi M; have C := M.ruleAll; simp only [Go.Proofs.Ytpmemoabkbmljaa.ruleAll] at C) | ((with_reducible apply wpM_lda' M 1 35 0 (sqs n t)); rfl; rfl; rfl; exact ⟨rfl, inf_sqs.trans (congrArg some (sqs_size ..).symm), _, und_sqs, rfl⟩; exact whole_of rfl) | (go_at_call 33; ((with_reducible refine (H1 _).mono ?_); rintro e w1 ⟨rfl, hb⟩; have hsz := M.size; (try (have G9 := G.later hb; clear G; have G := G9; clear G9)); have M9 := M.later hb; clear M; (try clear C); have M := M9; clear M9; have C := M.ruleAll; simp only [Go.Proofs.Ytpmemoabkbmljaa.ruleAll] at C)))
    go_ret
    exact ⟨rfl, M.below⟩
  · go_wp2_with (first | ((with_reducible apply wpM_box' M 35 (sqs n t)); rfl; exact ⟨rfl, rfl⟩; clear M; (try clear C); intro bq w9 h_bq M; have C := M.ruleAll; simp only [Go.Proofs.Ytpmemoabkbmljaa.ruleAll] at C) | ((with_reducible apply wpM_box' M 37 (idV p1 c1 p2 c2 xs.length ys.length)); rfl; exact ⟨rfl, rfl⟩; clear M; (try clear C); intro bi w9 h_bi M; have C := M.ruleAll; simp only [Go.Proofs.Ytpmemoabkbmljaa.ruleAll] at C) | ((with_reducible apply wpM_lda' M 1 35 0 (sqs n t)); rfl; rfl; rfl; exact ⟨rfl, inf_sqs.trans (congrArg some (sqs_size ..).symm), _, und_sqs, rfl⟩; exact whole_of rfl) | (refine wpList_load_part_g 37 _ rfl rfl (bi) (0) rfl (idV p1 c1 p2 c2 xs.length ys.length) _ und_idn rfl inf_idn (cells_of_blk0 (M.box 0 rfl)) ?_) | (go_at_call 33; ((with_reducible refine (H1 _).mono ?_); rintro e w1 ⟨rfl, hb⟩; have hsz := M.size; (try (have G9 := G.later hb; clear G; have G := G9; clear G9)); have M9 := M.later hb; clear M; (try clear C); have M := M9; clear M9; have C := M.ruleAll; simp only [Go.Proofs.Ytpmemoabkbmljaa.ruleAll] at C)) | (go_at_call 40; ((with_reducible refine (H2 _ M.below).mono ?_); rintro e w1 ⟨rfl, hb⟩; have hsz := M.size; (try (have G9 := G.later hb; clear G; have G := G9; clear G9)); have M9 := M.later hb; clear M; (try clear C); have M := M9; clear M9; have C := M.ruleAll; simp only [Go.Proofs.Ytpmemoabkbmljaa.ruleAll] at C)))
    go_ret
    exact ⟨by cases b <;> rfl, M.below⟩

set_option maxRecDepth 100000 in
set_option maxHeartbeats 1000000 in
theorem l03Code_any (n : Int) (t : Nat → Nat → Nat) (hby : Byt2 t) (xs ys : List Nat) (h1 : xs.length ≤ 10000000) (h2 : ys.length ≤ 10000000) (w : World) (p1 p2 : Option Addr) (c1 c2 : Nat) (r1 : rdq w p1 xs.length (bytF xs)) (r2 : rdq w p2 ys.length (bytF ys)) :
    Calls Try.prog 22 #[.agg (sqs n t), .agg (idV p1 c1 p2 c2 xs.length ys.length)] w fun e w' => e = .returned (.int .i64 (if askB n t xs ys = true then 0 else 1)) ∧ Below w.heap.size w w' := by
  have M := Mm.start no w
  have H1 := fun w1 => l01Is_any n t w1 hby
  have H2 := fun w1 (hb : Below w.heap.size w w1) => l03Both_any xs ys h1 h2 w1 p1 p2 c1 c2 (r1.later hb) (r2.later hb)
  unfold askB
  generalize isSq n t = a at H1
  generalize isId xs ys = b at H2
  clear r1 r2 hby
  go_enter Try.func22, Try.ntmps22
  cases a
  · go_wp2_with (first | ((with_reducible apply wpM_box' M 35 (sqs n t)); rfl; exact ⟨rfl, rfl⟩; clear M; (try clear C); intro bq w9 h_bq M; have C := M.ruleAll; simp only [Go.Proofs.Ytpmemoabkbmljaa.ruleAll] at C) | ((with_reducible apply wpM_box' M 37 (idV p1 c1 p2 c2 xs.length ys.length)); rfl; exact ⟨rfl, rfl⟩; clear M; (try clear C); intro bi w9 h_bi M; have C := M.ruleAll; simp only [Go.Proofs.Ytpmemoabkbmljaa.ruleAll] at C) | ((with_reducible apply wpM_lda' M 1 35 0 (sqs n t)); rfl; rfl; rfl; exact ⟨rfl, inf_sqs.trans (congrArg some (sqs_size ..).symm), _, und_sqs, rfl⟩; exact whole_of rfl) | (go_at_call 30; ((with_reducible refine (H1 _).mono ?_); rintro e w1 ⟨rfl, hb⟩; have hsz := M.size; (try (have G9 := G.later hb; clear G; have G := G9; clear G9)); have M9 := M.later hb; clear M; (try clear C); have M := M9; clear M9; have C := M.ruleAll; simp only [Go.Proofs.Ytpmemoabkbmljaa.ruleAll] at C)))
    go_ret
    exact ⟨rfl, M.below⟩
  · cases b
    · go_wp2_with (first | ((with_reducible apply wpM_box' M 35 (sqs n t)); rfl; exact ⟨rfl, rfl⟩; clear M; (try clear C); intro bq w9 h_bq M; have C := M.ruleAll; simp only [Go.Proofs.Ytpmemoabkbmljaa.ruleAll] at C) | ((with_reducible apply wpM_box' M 37 (idV p1 c1 p2 c2 xs.length ys.length)); rfl; exact ⟨rfl, rfl⟩; clear M; (try clear C); intro bi w9 h_bi M; have C := M.ruleAll; simp only [Go.Proofs.Ytpmemoabkbmljaa.ruleAll] at C) | ((with_reducible apply wpM_lda' M 1 35 0 (sqs n t)); rfl; rfl; rfl; exact ⟨rfl, inf_sqs.trans (congrArg some (sqs_size ..).symm), _, und_sqs, rfl⟩; exact whole_of rfl) | (refine wpList_load_part_g 37 _ rfl rfl (bi) (0) rfl (idV p1 c1 p2 c2 xs.length ys.length) _ und_idn rfl inf_idn (cells_of_blk0 (M.box 0 rfl)) ?_) | (go_at_call 30; ((with_reducible refine (H1 _).mono ?_); rintro e w1 ⟨rfl, hb⟩; have hsz := M.size; (try (have G9 := G.later hb; clear G; have G := G9; clear G9)); have M9 := M.later hb; clear M; (try clear C); have M := M9; clear M9; have C := M.ruleAll; simp only [Go.Proofs.Ytpmemoabkbmljaa.ruleAll] at C)) | (go_at_call 36; ((with_reducible refine (H2 _ M.below).mono ?_); rintro e w1 ⟨rfl, hb⟩; have hsz := M.size; (try (have G9 := G.later hb; clear G; have G := G9; clear G9)); have M9 := M.later hb; clear M; (try clear C); have M := M9; clear M9; have C := M.ruleAll; simp only [Go.Proofs.Ytpmemoabkbmljaa.ruleAll] at C)))
      go_ret
      exact ⟨rfl, M.below⟩
    · go_wp2_with (first | ((with_reducible apply wpM_box' M 35 (sqs n t)); rfl; exact ⟨rfl, rfl⟩; clear M; (try clear C); intro bq w9 h_bq M; have C := M.ruleAll; simp only [Go.Proofs.Ytpmemoabkbmljaa.ruleAll] at C) | ((with_reducible apply wpM_box' M 37 (idV p1 c1 p2 c2 xs.length ys.length)); rfl; exact ⟨rfl, rfl⟩; clear M; (try clear C); intro bi w9 h_bi M; have C := M.ruleAll; simp only [Go.Proofs.Ytpmemoabkbmljaa.ruleAll] at C) | ((with_reducible apply wpM_lda' M 1 35 0 (sqs n t)); rfl; rfl; rfl; exact ⟨rfl, inf_sqs.trans (congrArg some (sqs_size ..).symm), _, und_sqs, rfl⟩; exact whole_of rfl) | (refine wpList_load_part_g 37 _ rfl rfl (bi) (0) rfl (idV p1 c1 p2 c2 xs.length ys.length) _ und_idn rfl inf_idn (cells_of_blk0 (M.box 0 rfl)) ?_) | (go_at_call 30; ((with_reducible refine (H1 _).mono ?_); rintro e w1 ⟨rfl, hb⟩; have hsz := M.size; (try (have G9 := G.later hb; clear G; have G := G9; clear G9)); have M9 := M.later hb; clear M; (try clear C); have M := M9; clear M9; have C := M.ruleAll; simp only [Go.Proofs.Ytpmemoabkbmljaa.ruleAll] at C)) | (go_at_call 36; ((with_reducible refine (H2 _ M.below).mono ?_); rintro e w1 ⟨rfl, hb⟩; have hsz := M.size; (try (have G9 := G.later hb; clear G; have G := G9; clear G9)); have M9 := M.later hb; clear M; (try clear C); have M := M9; clear M9; have C := M.ruleAll; simp only [Go.Proofs.Ytpmemoabkbmljaa.ruleAll] at C)))
      go_ret
      exact ⟨rfl, M.below⟩
end Go.Proofs.Ytpmemoabkbmljaa
