/- FailsAt on both sides: contracts. -/
import Derived.Test.YtpmemoabkbmljaaC72
namespace Go.Proofs.Ytpmemoabkbmljaa
set_option linter.unusedSimpArgs false
set_option linter.unusedVariables false
open Go Go.RowKit

theorem fa_no {n : Int} {t : Nat → Nat → Nat} {xs ys : List Nat} (h : askB n t xs ys = false) : faOut n t xs ys = [] ∧ faCode n t xs ys = 1 := by
  unfold faOut faCode; rw [h]; exact ⟨rfl, rfl⟩
theorem fa_none {N : Nat} {t : Nat → Nat → Nat} {xs ys : List Nat} (h : askB N t xs ys = true) (ho : fst3 (neB t (elB xs) xs.length (elB ys) ys.length) N N N = none) : faOut N t xs ys = [] ∧ faCode N t xs ys = 4 := by
  unfold faOut faCode; rw [h, Int.toNat_natCast, ho]; exact ⟨rfl, rfl⟩
theorem fa_some {N : Nat} {t : Nat → Nat → Nat} {xs ys : List Nat} {x y z : Nat} (h : askB N t xs ys = true) (ho : fst3 (neB t (elB xs) xs.length (elB ys) ys.length) N N N = some (x, y, z)) : faOut N t xs ys = [(x : Int), (y : Int), (z : Int)] ∧ faCode N t xs ys = 0 := by
  unfold faOut faCode; rw [h, Int.toNat_natCast, ho]; exact ⟨rfl, rfl⟩
theorem askB_true {n : Int} {t : Nat → Nat → Nat} {xs ys : List Nat} (h : askB n t xs ys = true) : IsSq n t ∧ isTm (elB xs) xs.length = true ∧ isTm (elB ys) ys.length = true := by
  unfold askB isId at h
  simp only [Bool.and_eq_true] at h
  exact ⟨isSq_true.1 h.1, h.2.1, h.2.2⟩
theorem FaPost.nil {w w' : World} {L : List Ent} (M : Mm no w w' L) (c : Int) : FaPost [] c w (.returned (.tuple #[.slice none 0 0, .int .i64 c])) w' :=
  ⟨_, rfl, (M.sub [] (by decide)).nilRow w.heap.size 2 1⟩
theorem FaPost.three {w w' : World} {g x y z : Nat} (M : Mm no w w' [.box g #[.int .i64 (x : Int), .int .i64 (y : Int), .int .i64 (z : Int)] 2]) (hg : w.heap.size ≤ g) : FaPost [(x : Int), (y : Int), (z : Int)] 0 w (.returned (.tuple #[.slice (some ⟨g, 0, none⟩) 3 3, .int .i64 0])) w' :=
  ⟨_, rfl, M.asRow 0 rfl w.heap.size 3 1 hg rfl (by decide)⟩

set_option maxRecDepth 100000 in
set_option maxHeartbeats 2000000 in
theorem implFailsAt_any (n : Int) (t : Nat → Nat → Nat) (hby : Byt2 t) (xs ys : List Nat) (h1 : xs.length ≤ 10000000) (h2 : ys.length ≤ 10000000) (w : World) (p1 p2 : Option Addr) (c1 c2 : Nat) (r1 : rdq w p1 xs.length (bytF xs)) (r2 : rdq w p2 ys.length (bytF ys)) :
    Calls Try.prog 9 #[.agg (sqs n t), .agg (idV p1 c1 p2 c2 xs.length ys.length)] w (FaPost (faOut n t xs ys) (faCode n t xs ys) w) := by
  have M := Mm.start no w
  have HA := fun w1 (hb : Below w.heap.size w w1) => isAsked_any n t hby xs ys h1 h2 w1 p1 p2 c1 c2 (r1.later hb) (r2.later hb)
  cases ha : askB n t xs ys with
  | false =>
    rw [(fa_no ha).1, (fa_no ha).2]
    simp only [ha] at HA
    clear r1 r2 hby ha
    go_enter Try.func9, Try.ntmps9
    go_wp2_with (first | ((with_reducible apply wpM_box' M 35 (sqs n t)); rfl; exact ⟨rfl, rfl⟩; clear M; (try clear C); intro bq w9 h_bq M; have C := M.ruleAll; simp only [Go.Proofs.Ytpmemoabkbmljaa.ruleAll] at C) | ((with_reducible apply wpM_box' M 37 (idV p1 c1 p2 c2 xs.length ys.length)); rfl; exact ⟨rfl, rfl⟩; clear M; (try clear C); intro bi w9 h_bi M; have C := M.ruleAll; simp only [Go.Proofs.Ytpmemoabkbmljaa.ruleAll] at C) | ((with_reducible apply wpM_lda' M 1 35 0 (sqs n t)); rfl; rfl; rfl; exact ⟨rfl, inf_sqs.trans (congrArg some (sqs_size ..).symm), _, und_sqs, rfl⟩; exact whole_of rfl) | ((with_reducible apply wpM_lda' M 0 37 0 (idV p1 c1 p2 c2 xs.length ys.length)); rfl; rfl; rfl; exact ⟨rfl, inf_idn.trans (congrArg some (idv_size ..).symm), _, und_idn, rfl⟩; exact whole_of rfl) | (go_at_call 26; ((with_reducible refine (HA _ M.below).mono ?_); rintro e w1 ⟨rfl, hb⟩; have hsz := M.size; (try (have G9 := G.later hb; clear G; have G := G9; clear G9)); have M9 := M.later hb; clear M; (try clear C); have M := M9; clear M9; have C := M.ruleAll; simp only [Go.Proofs.Ytpmemoabkbmljaa.ruleAll] at C)))
    go_ret2
    exact FaPost.nil M 1
  | true =>
    simp only [ha] at HA
    obtain ⟨hs, hX, hY⟩ := askB_true ha
    obtain ⟨N, rfl⟩ : ∃ N : Nat, n = N := ⟨n.toNat, by have := hs.lo; omega⟩
    have HF := fun w1 (hb : Below w.heap.size w w1) => fails_any N t hs xs ys hX hY w1 p1 p2 c1 c2 (r1.later hb) (r2.later hb)
    clear r1 r2 hby hs hX hY
    rcases ho : fst3 (neB t (elB xs) xs.length (elB ys) ys.length) N N N with _ | ⟨x, y, z⟩
    · rw [(fa_none ha ho).1, (fa_none ha ho).2]
      rw [ho] at HF
      clear ha ho
      go_enter Try.func9, Try.ntmps9
      go_wp2_with (first | ((with_reducible apply wpM_box' M 35 (sqs (N : Int) t)); rfl; exact ⟨rfl, rfl⟩; clear M; (try clear C); intro bq w9 h_bq M; have C := M.ruleAll; simp only [Go.Proofs.Ytpmemoabkbmljaa.ruleAll] at C) | ((with_reducible apply wpM_box' M 37 (idV p1 c1 p2 c2 xs.length ys.length)); rfl; exact ⟨rfl, rfl⟩; clear M; (try clear C); intro bi w9 h_bi M; have C := M.ruleAll; simp only [Go.Proofs.Ytpmemoabkbmljaa.ruleAll] at C) | ((with_reducible apply wpM_lda' M 1 35 0 (sqs (N : Int) t)); rfl; rfl; rfl; exact ⟨rfl, inf_sqs.trans (congrArg some (sqs_size ..).symm), _, und_sqs, rfl⟩; exact whole_of rfl) | ((with_reducible apply wpM_lda' M 0 37 0 (idV p1 c1 p2 c2 xs.length ys.length)); rfl; rfl; rfl; exact ⟨rfl, inf_idn.trans (congrArg some (idv_size ..).symm), _, und_idn, rfl⟩; exact whole_of rfl) | (go_at_call 26; ((with_reducible refine (HA _ M.below).mono ?_); rintro e w1 ⟨rfl, hb⟩; have hsz := M.size; (try (have G9 := G.later hb; clear G; have G := G9; clear G9)); have M9 := M.later hb; clear M; (try clear C); have M := M9; clear M9; have C := M.ruleAll; simp only [Go.Proofs.Ytpmemoabkbmljaa.ruleAll] at C)) | (go_at_call 27; ((with_reducible refine (HF _ M.below).mono ?_); rintro e w1 ⟨rfl, hb⟩; have hsz := M.size; (try (have G9 := G.later hb; clear G; have G := G9; clear G9)); have M9 := M.later hb; clear M; (try clear C); have M := M9; clear M9; have C := M.ruleAll; simp only [Go.Proofs.Ytpmemoabkbmljaa.ruleAll] at C)))
      go_ret2
      exact FaPost.nil M 4
    · rw [(fa_some ha ho).1, (fa_some ha ho).2]
      rw [ho] at HF
      clear ha ho
      go_enter Try.func9, Try.ntmps9
      go_wp2_with (first | ((with_reducible apply wpM_box' M 35 (sqs (N : Int) t)); rfl; exact ⟨rfl, rfl⟩; clear M; (try clear C); intro bq w9 h_bq M; have C := M.ruleAll; simp only [Go.Proofs.Ytpmemoabkbmljaa.ruleAll] at C) | ((with_reducible apply wpM_box' M 37 (idV p1 c1 p2 c2 xs.length ys.length)); rfl; exact ⟨rfl, rfl⟩; clear M; (try clear C); intro bi w9 h_bi M; have C := M.ruleAll; simp only [Go.Proofs.Ytpmemoabkbmljaa.ruleAll] at C) | ((with_reducible apply wpM_lda' M 1 35 0 (sqs (N : Int) t)); rfl; rfl; rfl; exact ⟨rfl, inf_sqs.trans (congrArg some (sqs_size ..).symm), _, und_sqs, rfl⟩; exact whole_of rfl) | ((with_reducible apply wpM_lda' M 0 37 0 (idV p1 c1 p2 c2 xs.length ys.length)); rfl; rfl; rfl; exact ⟨rfl, inf_idn.trans (congrArg some (idv_size ..).symm), _, und_idn, rfl⟩; exact whole_of rfl) | (go_at_call 26; ((with_reducible refine (HA _ M.below).mono ?_); rintro e w1 ⟨rfl, hb⟩; have hsz := M.size; (try (have G9 := G.later hb; clear G; have G := G9; clear G9)); have M9 := M.later hb; clear M; (try clear C); have M := M9; clear M9; have C := M.ruleAll; simp only [Go.Proofs.Ytpmemoabkbmljaa.ruleAll] at C)) | (go_at_call 27; fail))
      refine (HF _ M.below).mono ?_
      rintro e w4 ⟨g, rfl, hg, M'⟩
      have M9 := M.join1 M' (new_box hg)
      have HG := Hid2.mk (Nat.le_trans M.size hg)
      clear M; (try clear C)
      have M := M9
      clear M9 M' hg
      go_wp2
      go_ret2
      exact FaPost.three (M.sub [0] (by decide)) HG.out

set_option maxRecDepth 100000 in
set_option maxHeartbeats 2000000 in
theorem specFailsAt_any (n : Int) (t : Nat → Nat → Nat) (hby : Byt2 t) (xs ys : List Nat) (h1 : xs.length ≤ 10000000) (h2 : ys.length ≤ 10000000) (w : World) (p1 p2 : Option Addr) (c1 c2 : Nat) (r1 : rdq w p1 xs.length (bytF xs)) (r2 : rdq w p2 ys.length (bytF ys)) :
    Calls Try.prog 6 #[.agg (sqs n t), .agg (idV p1 c1 p2 c2 xs.length ys.length)] w (FaPost (faOut n t xs ys) (faCode n t xs ys) w) := by
  have M := Mm.start no w
  have HA := fun w1 (hb : Below w.heap.size w w1) => l03Code_any n t hby xs ys h1 h2 w1 p1 p2 c1 c2 (r1.later hb) (r2.later hb)
  cases ha : askB n t xs ys with
  | false =>
    rw [(fa_no ha).1, (fa_no ha).2]
    simp only [ha, if_neg Bool.false_ne_true] at HA
    clear r1 r2 hby ha
    go_enter Try.func6, Try.ntmps6
    go_wp2_with (first | ((with_reducible apply wpM_box' M 35 (sqs n t)); rfl; exact ⟨rfl, rfl⟩; clear M; (try clear C); intro bq w9 h_bq M; have C := M.ruleAll; simp only [Go.Proofs.Ytpmemoabkbmljaa.ruleAll] at C) | ((with_reducible apply wpM_box' M 37 (idV p1 c1 p2 c2 xs.length ys.length)); rfl; exact ⟨rfl, rfl⟩; clear M; (try clear C); intro bi w9 h_bi M; have C := M.ruleAll; simp only [Go.Proofs.Ytpmemoabkbmljaa.ruleAll] at C) | ((with_reducible apply wpM_lda' M 1 35 0 (sqs n t)); rfl; rfl; rfl; exact ⟨rfl, inf_sqs.trans (congrArg some (sqs_size ..).symm), _, und_sqs, rfl⟩; exact whole_of rfl) | ((with_reducible apply wpM_lda' M 0 37 0 (idV p1 c1 p2 c2 xs.length ys.length)); rfl; rfl; rfl; exact ⟨rfl, inf_idn.trans (congrArg some (idv_size ..).symm), _, und_idn, rfl⟩; exact whole_of rfl) | (go_at_call 22; ((with_reducible refine (HA _ M.below).mono ?_); rintro e w1 ⟨rfl, hb⟩; have hsz := M.size; (try (have G9 := G.later hb; clear G; have G := G9; clear G9)); have M9 := M.later hb; clear M; (try clear C); have M := M9; clear M9; have C := M.ruleAll; simp only [Go.Proofs.Ytpmemoabkbmljaa.ruleAll] at C)))
    go_ret2
    exact FaPost.nil M 1
  | true =>
    simp only [ha, if_true] at HA
    obtain ⟨hs, hX, hY⟩ := askB_true ha
    obtain ⟨N, rfl⟩ : ∃ N : Nat, n = N := ⟨n.toNat, by have := hs.lo; omega⟩
    have HF := fun w1 (hb : Below w.heap.size w w1) => l03Fails_any N t hs xs ys hX hY w1 p1 p2 c1 c2 (r1.later hb) (r2.later hb)
    clear r1 r2 hby hs hX hY
    rcases ho : fst3 (neB t (elB xs) xs.length (elB ys) ys.length) N N N with _ | ⟨x, y, z⟩
    · rw [(fa_none ha ho).1, (fa_none ha ho).2]
      rw [ho] at HF
      clear ha ho
      go_enter Try.func6, Try.ntmps6
      go_wp2_with (first | ((with_reducible apply wpM_box' M 35 (sqs (N : Int) t)); rfl; exact ⟨rfl, rfl⟩; clear M; (try clear C); intro bq w9 h_bq M; have C := M.ruleAll; simp only [Go.Proofs.Ytpmemoabkbmljaa.ruleAll] at C) | ((with_reducible apply wpM_box' M 37 (idV p1 c1 p2 c2 xs.length ys.length)); rfl; exact ⟨rfl, rfl⟩; clear M; (try clear C); intro bi w9 h_bi M; have C := M.ruleAll; simp only [Go.Proofs.Ytpmemoabkbmljaa.ruleAll] at C) | ((with_reducible apply wpM_lda' M 1 35 0 (sqs (N : Int) t)); rfl; rfl; rfl; exact ⟨rfl, inf_sqs.trans (congrArg some (sqs_size ..).symm), _, und_sqs, rfl⟩; exact whole_of rfl) | ((with_reducible apply wpM_lda' M 0 37 0 (idV p1 c1 p2 c2 xs.length ys.length)); rfl; rfl; rfl; exact ⟨rfl, inf_idn.trans (congrArg some (idv_size ..).symm), _, und_idn, rfl⟩; exact whole_of rfl) | (go_at_call 22; ((with_reducible refine (HA _ M.below).mono ?_); rintro e w1 ⟨rfl, hb⟩; have hsz := M.size; (try (have G9 := G.later hb; clear G; have G := G9; clear G9)); have M9 := M.later hb; clear M; (try clear C); have M := M9; clear M9; have C := M.ruleAll; simp only [Go.Proofs.Ytpmemoabkbmljaa.ruleAll] at C)) | (go_at_call 23; ((with_reducible refine (HF _ M.below).mono ?_); rintro e w1 ⟨rfl, hb⟩; have hsz := M.size; (try (have G9 := G.later hb; clear G; have G := G9; clear G9)); have M9 := M.later hb; clear M; (try clear C); have M := M9; clear M9; have C := M.ruleAll; simp only [Go.Proofs.Ytpmemoabkbmljaa.ruleAll] at C)))
      go_ret2
      exact FaPost.nil M 4
    · rw [(fa_some ha ho).1, (fa_some ha ho).2]
      rw [ho] at HF
      clear ha ho
      go_enter Try.func6, Try.ntmps6
      go_wp2_with (first | ((with_reducible apply wpM_box' M 35 (sqs (N : Int) t)); rfl; exact ⟨rfl, rfl⟩; clear M; (try clear C); intro bq w9 h_bq M; have C := M.ruleAll; simp only [Go.Proofs.Ytpmemoabkbmljaa.ruleAll] at C) | ((with_reducible apply wpM_box' M 37 (idV p1 c1 p2 c2 xs.length ys.length)); rfl; exact ⟨rfl, rfl⟩; clear M; (try clear C); intro bi w9 h_bi M; have C := M.ruleAll; simp only [Go.Proofs.Ytpmemoabkbmljaa.ruleAll] at C) | ((with_reducible apply wpM_lda' M 1 35 0 (sqs (N : Int) t)); rfl; rfl; rfl; exact ⟨rfl, inf_sqs.trans (congrArg some (sqs_size ..).symm), _, und_sqs, rfl⟩; exact whole_of rfl) | ((with_reducible apply wpM_lda' M 0 37 0 (idV p1 c1 p2 c2 xs.length ys.length)); rfl; rfl; rfl; exact ⟨rfl, inf_idn.trans (congrArg some (idv_size ..).symm), _, und_idn, rfl⟩; exact whole_of rfl) | (go_at_call 22; ((with_reducible refine (HA _ M.below).mono ?_); rintro e w1 ⟨rfl, hb⟩; have hsz := M.size; (try (have G9 := G.later hb; clear G; have G := G9; clear G9)); have M9 := M.later hb; clear M; (try clear C); have M := M9; clear M9; have C := M.ruleAll; simp only [Go.Proofs.Ytpmemoabkbmljaa.ruleAll] at C)) | (go_at_call 23; fail))
      refine (HF _ M.below).mono ?_
      rintro e w4 ⟨g, rfl, hg, M'⟩
      have M9 := M.join1 M' (new_box hg)
      have HG := Hid2.mk (Nat.le_trans M.size hg)
      clear M; (try clear C)
      have M := M9
      clear M9 M' hg
      go_wp2
      go_ret2
      exact FaPost.three (M.sub [0] (by decide)) HG.out
end Go.Proofs.Ytpmemoabkbmljaa
