/- Valid desks, for the program and for the reference, and the law's walk. -/
import Derived.Test.YtjdfjlgjpjgnhaaC50
namespace Go.Proofs.Ytjdfjlgjpjgnhaa
set_option linter.unusedSimpArgs false
set_option linter.unusedVariables false
open Go Go.RowKit

theorem eqBookV_any {ns : List ByteArray} {ls : List Sqr} (h : BkIn ns ls) (w : World) {g1 g2 g3 g4 : Nat} (h1 : BkHere ns ls w g1 g2) (h2 : BkHere ns ls w g3 g4) :
    Calls Try.prog 24 #[.agg (bkV (some ⟨g1, 0, none⟩) ns.length (some ⟨g2, 0, none⟩) ls.length ns.length ls.length), .agg (bkV (some ⟨g3, 0, none⟩) ns.length (some ⟨g4, 0, none⟩) ls.length ns.length ls.length)] w fun e w' => e = .returned (.bool true) ∧ Below w.heap.size w w' :=
  eqBookA_any h w h1 h2 ns.length ls.length ns.length ls.length

set_option maxRecDepth 100000 in
set_option maxHeartbeats 2000000 in
theorem eqDesk_any (q r : Sqr) (xs : List Int) {ns : List ByteArray} {ls : List Sqr} (h : BkIn ns ls) (hk : xs.length ≤ 1048576) (w : World) {gs g1 g2 gt g3 g4 : Nat} (h1 : DkHere xs ns ls w gs g1 g2) (h2 : DkHere xs ns ls w gt g3 g4) :
    Calls Try.prog 44 #[.agg (dskC q r (some ⟨gs, 0, none⟩) xs.length xs.length (some ⟨g1, 0, none⟩) ns.length ns.length (some ⟨g2, 0, none⟩) ls.length ls.length), .agg (dskC q r (some ⟨gt, 0, none⟩) xs.length xs.length (some ⟨g3, 0, none⟩) ns.length ns.length (some ⟨g4, 0, none⟩) ls.length ls.length)] w fun e w' => e = .returned (.bool true) ∧ Below w.heap.size w w' := by
  have M := Mm.start no w
  have k2 := dsk_p2 q r (some ⟨gs, 0, none⟩) xs.length xs.length (some ⟨g1, 0, none⟩) ns.length ns.length (some ⟨g2, 0, none⟩) ls.length ls.length
  have k3 := dsk_p2 q r (some ⟨gt, 0, none⟩) xs.length xs.length (some ⟨g3, 0, none⟩) ns.length ns.length (some ⟨g4, 0, none⟩) ls.length ls.length
  have HQ1 := fun w1 => eqSquare_any q.n q.t w1
  have HQ2 := fun w1 => eqSquare_any r.n r.t w1
  have HS := fun w1 (hb : Below w.heap.size w w1) => eqInt64S_any xs (by omega) w1 (some ⟨gs, 0, none⟩) (some ⟨gt, 0, none⟩) xs.length xs.length (h1.set.later hb).rdq (h2.set.later hb).rdq
  have HB := fun w1 (hb : Below w.heap.size w w1) => eqBookV_any h w1 (h1.book.later hb) (h2.book.later hb)
  clear h h1 h2
  go_enter Try.func44, Try.ntmps44
  go_wp2_with (first | (have hq := h_b2; clear hq; ((with_reducible apply wpM_box' M 75 (dskC q r (some ⟨gt, 0, none⟩) xs.length xs.length (some ⟨g3, 0, none⟩) ns.length ns.length (some ⟨g4, 0, none⟩) ls.length ls.length)); rfl; exact ⟨rfl, rfl⟩; clear M; (try clear C); intro b3 w9 h_b3 M; have C := M.ruleAll; simp only [Go.Proofs.Ytjdfjlgjpjgnhaa.ruleAll] at C)) | ((with_reducible apply wpM_box' M 75 (dskC q r (some ⟨gs, 0, none⟩) xs.length xs.length (some ⟨g1, 0, none⟩) ns.length ns.length (some ⟨g2, 0, none⟩) ls.length ls.length)); rfl; exact ⟨rfl, rfl⟩; clear M; (try clear C); intro b2 w9 h_b2 M; have C := M.ruleAll; simp only [Go.Proofs.Ytjdfjlgjpjgnhaa.ruleAll] at C) | (go_at_call 30; fail) | ((with_reducible apply wpM_lda' M 1 30 (0) (sqs q.n q.t)); rfl; rfl; rfl; exact ⟨rfl, inf_sqs.trans (congrArg some (sqs_size ..).symm), _, und_sqs, rfl⟩; exact dsk_p0 _ _ _ _ _ _ _ _ _ _ _) | ((with_reducible apply wpM_lda' M 0 30 (0) (sqs q.n q.t)); rfl; rfl; rfl; exact ⟨rfl, inf_sqs.trans (congrArg some (sqs_size ..).symm), _, und_sqs, rfl⟩; exact dsk_p0 _ _ _ _ _ _ _ _ _ _ _) | ((with_reducible apply wpM_lda' M 1 30 (101) (sqs r.n r.t)); rfl; rfl; rfl; exact ⟨rfl, inf_sqs.trans (congrArg some (sqs_size ..).symm), _, und_sqs, rfl⟩; exact dsk_p1 _ _ _ _ _ _ _ _ _ _ _) | ((with_reducible apply wpM_lda' M 0 30 (101) (sqs r.n r.t)); rfl; rfl; rfl; exact ⟨rfl, inf_sqs.trans (congrArg some (sqs_size ..).symm), _, und_sqs, rfl⟩; exact dsk_p1 _ _ _ _ _ _ _ _ _ _ _))
  refine (HQ1 _).mono ?_
  rintro e w1 ⟨rfl, hb⟩
  have M9 := M.later hb
  clear M; (try clear C)
  have M := M9
  clear M9 hb
  have C := M.ruleAll; simp only [Go.Proofs.Ytjdfjlgjpjgnhaa.ruleAll] at C
  go_wp2_with (first | (go_at_call 30; fail) | ((with_reducible apply wpM_lda' M 1 30 (101) (sqs r.n r.t)); rfl; rfl; rfl; exact ⟨rfl, inf_sqs.trans (congrArg some (sqs_size ..).symm), _, und_sqs, rfl⟩; exact dsk_p1 _ _ _ _ _ _ _ _ _ _ _) | ((with_reducible apply wpM_lda' M 0 30 (101) (sqs r.n r.t)); rfl; rfl; rfl; exact ⟨rfl, inf_sqs.trans (congrArg some (sqs_size ..).symm), _, und_sqs, rfl⟩; exact dsk_p1 _ _ _ _ _ _ _ _ _ _ _))
  refine (HQ2 _).mono ?_
  rintro e w1 ⟨rfl, hb⟩
  have M9 := M.later hb
  clear M; (try clear C)
  have M := M9
  clear M9 hb
  have C := M.ruleAll; simp only [Go.Proofs.Ytjdfjlgjpjgnhaa.ruleAll] at C
  go_wp2_with (first | (go_at_call 82; ((with_reducible refine (HS _ M.below).mono ?_); rintro e w1 ⟨rfl, hb⟩; have hsz := M.size; (try (have G9 := G.later hb; clear G; have G := G9; clear G9)); have M9 := M.later hb; clear M; (try clear C); have M := M9; clear M9; have C := M.ruleAll; simp only [Go.Proofs.Ytjdfjlgjpjgnhaa.ruleAll] at C)) | ((with_reducible apply wpM_lda' M 1 47 203 (bkV (some ⟨g1, 0, none⟩) ns.length (some ⟨g2, 0, none⟩) ls.length ns.length ls.length)); rfl; rfl; rfl; exact ⟨rfl, inf_bok.trans (congrArg some (bkv_size ..).symm), _, und_bok, rfl⟩; exact dsk_p3 _ _ _ _ _ _ _ _ _ _ _) | ((with_reducible apply wpM_lda' M 0 47 203 (bkV (some ⟨g3, 0, none⟩) ns.length (some ⟨g4, 0, none⟩) ls.length ns.length ls.length)); rfl; rfl; rfl; exact ⟨rfl, inf_bok.trans (congrArg some (bkv_size ..).symm), _, und_bok, rfl⟩; exact dsk_p3 _ _ _ _ _ _ _ _ _ _ _) | (go_at_call 24; ((with_reducible refine (HB _ M.below).mono ?_); rintro e w1 ⟨rfl, hb⟩; have hsz := M.size; (try (have G9 := G.later hb; clear G; have G := G9; clear G9)); have M9 := M.later hb; clear M; (try clear C); have M := M9; clear M9; have C := M.ruleAll; simp only [Go.Proofs.Ytjdfjlgjpjgnhaa.ruleAll] at C)))
  go_ret
  exact ⟨rfl, M.below⟩

set_option maxRecDepth 100000 in
set_option maxHeartbeats 2000000 in
theorem implIsDesk_any (q r : Sqr) (xs : List Int) {ns : List ByteArray} {ls : List Sqr} (h : BkIn ns ls) (hq : Byt2 q.t) (hr : Byt2 r.t) (hk : xs.length ≤ 1048576) (w : World) {gs g1 g2 : Nat} (h1 : DkHere xs ns ls w gs g1 g2) :
    Calls Try.prog 43 #[.agg (dskC q r (some ⟨gs, 0, none⟩) xs.length xs.length (some ⟨g1, 0, none⟩) ns.length ns.length (some ⟨g2, 0, none⟩) ls.length ls.length)] w fun e w' => e = .returned (.bool (deskB q r xs ns ls)) ∧ Below w.heap.size w w' := by
  have M := Mm.start no w
  have k2 := dsk_p2 q r (some ⟨gs, 0, none⟩) xs.length xs.length (some ⟨g1, 0, none⟩) ns.length ns.length (some ⟨g2, 0, none⟩) ls.length ls.length
  have HQ1 := fun w1 => isSquare_any q.n q.t w1 hq
  have HQ2 := fun w1 => isSquare_any r.n r.t w1 hr
  have HS := fun (e1 : isSq q.n q.t = true) w1 (hb : Below w.heap.size w w1) => isList_any q (isSq_true.1 e1).lo (isSq_true.1 e1).hi xs (by omega) w1 (some ⟨gs, 0, none⟩) xs.length (h1.set.later hb).rdq
  have HB : ∀ w1, Below w.heap.size w w1 → Calls Try.prog 23 #[.agg (bkV (some ⟨g1, 0, none⟩) ns.length (some ⟨g2, 0, none⟩) ls.length ns.length ls.length)] w1 fun e w' => e = .returned (.bool (isBk ns ls)) ∧ Below w1.heap.size w1 w' := fun w1 hb => isBookP_any h w1 (h1.book.later hb) ns.length ls.length (Nat.le_refl _)
  have hdb : deskB q r xs ns ls = (isSq q.n q.t && isSq r.n r.t && setB q.n xs && isBk ns ls) := rfl
  have HD := Hid2.mk hdb
  clear h h1 hq hr hdb
  cases e1 : isSq q.n q.t with
  | false =>
    simp only [e1] at HQ1 HD
    clear HS HB HQ2
    go_enter Try.func43, Try.ntmps43
    go_wp2_with (first | ((with_reducible apply wpM_box' M 75 (dskC q r (some ⟨gs, 0, none⟩) xs.length xs.length (some ⟨g1, 0, none⟩) ns.length ns.length (some ⟨g2, 0, none⟩) ls.length ls.length)); rfl; exact ⟨rfl, rfl⟩; clear M; (try clear C); intro bb w9 h_bb M; have C := M.ruleAll; simp only [Go.Proofs.Ytjdfjlgjpjgnhaa.ruleAll] at C) | ((with_reducible apply wpM_lda' M 0 30 (0) (sqs q.n q.t)); rfl; rfl; rfl; exact ⟨rfl, inf_sqs.trans (congrArg some (sqs_size ..).symm), _, und_sqs, rfl⟩; exact dsk_p0 _ _ _ _ _ _ _ _ _ _ _) | (go_at_call 58; ((with_reducible refine (HQ1 _).mono ?_); rintro e w1 ⟨rfl, hb⟩; have hsz := M.size; (try (have G9 := G.later hb; clear G; have G := G9; clear G9)); have M9 := M.later hb; clear M; (try clear C); have M := M9; clear M9; have C := M.ruleAll; simp only [Go.Proofs.Ytjdfjlgjpjgnhaa.ruleAll] at C)))
    go_ret
    exact ⟨by rw [HD.out]; rfl, M.below⟩
  | true =>
    have HS := HS e1
    simp only [e1] at HQ1 HD
    cases e2 : isSq r.n r.t with
    | false =>
      simp only [e2] at HQ2 HD
      clear HS HB
      go_enter Try.func43, Try.ntmps43
      go_wp2_with (first | ((with_reducible apply wpM_box' M 75 (dskC q r (some ⟨gs, 0, none⟩) xs.length xs.length (some ⟨g1, 0, none⟩) ns.length ns.length (some ⟨g2, 0, none⟩) ls.length ls.length)); rfl; exact ⟨rfl, rfl⟩; clear M; (try clear C); intro bb w9 h_bb M; have C := M.ruleAll; simp only [Go.Proofs.Ytjdfjlgjpjgnhaa.ruleAll] at C) | ((with_reducible apply wpM_lda' M 0 30 (0) (sqs q.n q.t)); rfl; rfl; rfl; exact ⟨rfl, inf_sqs.trans (congrArg some (sqs_size ..).symm), _, und_sqs, rfl⟩; exact dsk_p0 _ _ _ _ _ _ _ _ _ _ _) | ((with_reducible apply wpM_lda' M 0 30 (101) (sqs r.n r.t)); rfl; rfl; rfl; exact ⟨rfl, inf_sqs.trans (congrArg some (sqs_size ..).symm), _, und_sqs, rfl⟩; exact dsk_p1 _ _ _ _ _ _ _ _ _ _ _) | (go_at_call 58; ((with_reducible refine (HQ1 _).mono ?_); rintro e w1 ⟨rfl, hb⟩; have hsz := M.size; (try (have G9 := G.later hb; clear G; have G := G9; clear G9)); have M9 := M.later hb; clear M; (try clear C); have M := M9; clear M9; have C := M.ruleAll; simp only [Go.Proofs.Ytjdfjlgjpjgnhaa.ruleAll] at C)) | (go_at_call 58; ((with_reducible refine (HQ2 _).mono ?_); rintro e w1 ⟨rfl, hb⟩; have hsz := M.size; (try (have G9 := G.later hb; clear G; have G := G9; clear G9)); have M9 := M.later hb; clear M; (try clear C); have M := M9; clear M9; have C := M.ruleAll; simp only [Go.Proofs.Ytjdfjlgjpjgnhaa.ruleAll] at C)))
      go_ret
      exact ⟨by rw [HD.out]; rfl, M.below⟩
    | true =>
      simp only [e2] at HQ2 HD
      cases e3 : setB q.n xs with
      | false =>
        simp only [e3] at HS HD
        clear HB
        go_enter Try.func43, Try.ntmps43
        go_wp2_with (first | ((with_reducible apply wpM_box' M 75 (dskC q r (some ⟨gs, 0, none⟩) xs.length xs.length (some ⟨g1, 0, none⟩) ns.length ns.length (some ⟨g2, 0, none⟩) ls.length ls.length)); rfl; exact ⟨rfl, rfl⟩; clear M; (try clear C); intro bb w9 h_bb M; have C := M.ruleAll; simp only [Go.Proofs.Ytjdfjlgjpjgnhaa.ruleAll] at C) | ((with_reducible apply wpM_lda' M 0 30 (0) (sqs q.n q.t)); rfl; rfl; rfl; exact ⟨rfl, inf_sqs.trans (congrArg some (sqs_size ..).symm), _, und_sqs, rfl⟩; exact dsk_p0 _ _ _ _ _ _ _ _ _ _ _) | ((with_reducible apply wpM_lda' M 0 30 (101) (sqs r.n r.t)); rfl; rfl; rfl; exact ⟨rfl, inf_sqs.trans (congrArg some (sqs_size ..).symm), _, und_sqs, rfl⟩; exact dsk_p1 _ _ _ _ _ _ _ _ _ _ _) | (go_at_call 58; ((with_reducible refine (HQ1 _).mono ?_); rintro e w1 ⟨rfl, hb⟩; have hsz := M.size; (try (have G9 := G.later hb; clear G; have G := G9; clear G9)); have M9 := M.later hb; clear M; (try clear C); have M := M9; clear M9; have C := M.ruleAll; simp only [Go.Proofs.Ytjdfjlgjpjgnhaa.ruleAll] at C)) | (go_at_call 58; ((with_reducible refine (HQ2 _).mono ?_); rintro e w1 ⟨rfl, hb⟩; have hsz := M.size; (try (have G9 := G.later hb; clear G; have G := G9; clear G9)); have M9 := M.later hb; clear M; (try clear C); have M := M9; clear M9; have C := M.ruleAll; simp only [Go.Proofs.Ytjdfjlgjpjgnhaa.ruleAll] at C)) | (go_at_call 89; ((with_reducible refine (HS _ M.below).mono ?_); rintro e w1 ⟨rfl, hb⟩; have hsz := M.size; (try (have G9 := G.later hb; clear G; have G := G9; clear G9)); have M9 := M.later hb; clear M; (try clear C); have M := M9; clear M9; have C := M.ruleAll; simp only [Go.Proofs.Ytjdfjlgjpjgnhaa.ruleAll] at C)))
        go_ret
        exact ⟨by rw [HD.out]; rfl, M.below⟩
      | true =>
        simp only [e3] at HS HD
        generalize isBk ns ls = b4 at HB HD
        go_enter Try.func43, Try.ntmps43
        go_wp2_with (first | ((with_reducible apply wpM_box' M 75 (dskC q r (some ⟨gs, 0, none⟩) xs.length xs.length (some ⟨g1, 0, none⟩) ns.length ns.length (some ⟨g2, 0, none⟩) ls.length ls.length)); rfl; exact ⟨rfl, rfl⟩; clear M; (try clear C); intro bb w9 h_bb M; have C := M.ruleAll; simp only [Go.Proofs.Ytjdfjlgjpjgnhaa.ruleAll] at C) | ((with_reducible apply wpM_lda' M 0 30 (0) (sqs q.n q.t)); rfl; rfl; rfl; exact ⟨rfl, inf_sqs.trans (congrArg some (sqs_size ..).symm), _, und_sqs, rfl⟩; exact dsk_p0 _ _ _ _ _ _ _ _ _ _ _) | ((with_reducible apply wpM_lda' M 0 30 (101) (sqs r.n r.t)); rfl; rfl; rfl; exact ⟨rfl, inf_sqs.trans (congrArg some (sqs_size ..).symm), _, und_sqs, rfl⟩; exact dsk_p1 _ _ _ _ _ _ _ _ _ _ _) | ((with_reducible apply wpM_lda' M 0 47 203 (bkV (some ⟨g1, 0, none⟩) ns.length (some ⟨g2, 0, none⟩) ls.length ns.length ls.length)); rfl; rfl; rfl; exact ⟨rfl, inf_bok.trans (congrArg some (bkv_size ..).symm), _, und_bok, rfl⟩; exact dsk_p3 _ _ _ _ _ _ _ _ _ _ _) | (go_at_call 58; ((with_reducible refine (HQ1 _).mono ?_); rintro e w1 ⟨rfl, hb⟩; have hsz := M.size; (try (have G9 := G.later hb; clear G; have G := G9; clear G9)); have M9 := M.later hb; clear M; (try clear C); have M := M9; clear M9; have C := M.ruleAll; simp only [Go.Proofs.Ytjdfjlgjpjgnhaa.ruleAll] at C)) | (go_at_call 58; ((with_reducible refine (HQ2 _).mono ?_); rintro e w1 ⟨rfl, hb⟩; have hsz := M.size; (try (have G9 := G.later hb; clear G; have G := G9; clear G9)); have M9 := M.later hb; clear M; (try clear C); have M := M9; clear M9; have C := M.ruleAll; simp only [Go.Proofs.Ytjdfjlgjpjgnhaa.ruleAll] at C)) | (go_at_call 89; ((with_reducible refine (HS _ M.below).mono ?_); rintro e w1 ⟨rfl, hb⟩; have hsz := M.size; (try (have G9 := G.later hb; clear G; have G := G9; clear G9)); have M9 := M.later hb; clear M; (try clear C); have M := M9; clear M9; have C := M.ruleAll; simp only [Go.Proofs.Ytjdfjlgjpjgnhaa.ruleAll] at C)) | (go_at_call 23; ((with_reducible refine (HB _ M.below).mono ?_); rintro e w1 ⟨rfl, hb⟩; have hsz := M.size; (try (have G9 := G.later hb; clear G; have G := G9; clear G9)); have M9 := M.later hb; clear M; (try clear C); have M := M9; clear M9; have C := M.ruleAll; simp only [Go.Proofs.Ytjdfjlgjpjgnhaa.ruleAll] at C)))
        go_ret
        exact ⟨by rw [HD.out]; cases b4 <;> rfl, M.below⟩

set_option maxRecDepth 100000 in
set_option maxHeartbeats 2000000 in
theorem specIsDesk_any (q r : Sqr) (xs : List Int) {ns : List ByteArray} {ls : List Sqr} (h : BkIn ns ls) (hq : Byt2 q.t) (hr : Byt2 r.t) (hk : xs.length ≤ 1048576) (w : World) {gs g1 g2 : Nat} (h1 : DkHere xs ns ls w gs g1 g2) :
    Calls Try.prog 41 #[.agg (dskC q r (some ⟨gs, 0, none⟩) xs.length xs.length (some ⟨g1, 0, none⟩) ns.length ns.length (some ⟨g2, 0, none⟩) ls.length ls.length)] w fun e w' => e = .returned (.bool (deskB q r xs ns ls)) ∧ Below w.heap.size w w' := by
  have M := Mm.start no w
  have k2 := dsk_p2 q r (some ⟨gs, 0, none⟩) xs.length xs.length (some ⟨g1, 0, none⟩) ns.length ns.length (some ⟨g2, 0, none⟩) ls.length ls.length
  have HQ1 := fun w1 => l01Is_any q.n q.t w1 hq
  have HQ2 := fun w1 => l01Is_any r.n r.t w1 hr
  have HS := fun (e1 : isSq q.n q.t = true) w1 (hb : Below w.heap.size w w1) => l12Set_any q (isSq_true.1 e1).lo (isSq_true.1 e1).hi xs (by omega) w1 (some ⟨gs, 0, none⟩) xs.length (h1.set.later hb).rdq
  have HB : ∀ w1, Below w.heap.size w w1 → Calls Try.prog 21 #[.agg (bkV (some ⟨g1, 0, none⟩) ns.length (some ⟨g2, 0, none⟩) ls.length ns.length ls.length)] w1 fun e w' => e = .returned (.bool (isBk ns ls)) ∧ Below w1.heap.size w1 w' := fun w1 hb => specIsBook_any h w1 (h1.book.later hb) ns.length ls.length
  have hdb : deskB q r xs ns ls = (isSq q.n q.t && isSq r.n r.t && setB q.n xs && isBk ns ls) := rfl
  have HD := Hid2.mk hdb
  clear h h1 hq hr hdb
  cases e1 : isSq q.n q.t with
  | false =>
    simp only [e1] at HQ1 HD
    clear HS HB HQ2
    go_enter Try.func41, Try.ntmps41
    go_wp2_with (first | ((with_reducible apply wpM_box' M 75 (dskC q r (some ⟨gs, 0, none⟩) xs.length xs.length (some ⟨g1, 0, none⟩) ns.length ns.length (some ⟨g2, 0, none⟩) ls.length ls.length)); rfl; exact ⟨rfl, rfl⟩; clear M; (try clear C); intro bb w9 h_bb M; have C := M.ruleAll; simp only [Go.Proofs.Ytjdfjlgjpjgnhaa.ruleAll] at C) | ((with_reducible apply wpM_lda' M 0 30 (0) (sqs q.n q.t)); rfl; rfl; rfl; exact ⟨rfl, inf_sqs.trans (congrArg some (sqs_size ..).symm), _, und_sqs, rfl⟩; exact dsk_p0 _ _ _ _ _ _ _ _ _ _ _) | (go_at_call 86; ((with_reducible refine (HQ1 _).mono ?_); rintro e w1 ⟨rfl, hb⟩; have hsz := M.size; (try (have G9 := G.later hb; clear G; have G := G9; clear G9)); have M9 := M.later hb; clear M; (try clear C); have M := M9; clear M9; have C := M.ruleAll; simp only [Go.Proofs.Ytjdfjlgjpjgnhaa.ruleAll] at C)))
    go_ret
    exact ⟨by rw [HD.out]; rfl, M.below⟩
  | true =>
    have HS := HS e1
    simp only [e1] at HQ1 HD
    cases e2 : isSq r.n r.t with
    | false =>
      simp only [e2] at HQ2 HD
      clear HS HB
      go_enter Try.func41, Try.ntmps41
      go_wp2_with (first | ((with_reducible apply wpM_box' M 75 (dskC q r (some ⟨gs, 0, none⟩) xs.length xs.length (some ⟨g1, 0, none⟩) ns.length ns.length (some ⟨g2, 0, none⟩) ls.length ls.length)); rfl; exact ⟨rfl, rfl⟩; clear M; (try clear C); intro bb w9 h_bb M; have C := M.ruleAll; simp only [Go.Proofs.Ytjdfjlgjpjgnhaa.ruleAll] at C) | ((with_reducible apply wpM_lda' M 0 30 (0) (sqs q.n q.t)); rfl; rfl; rfl; exact ⟨rfl, inf_sqs.trans (congrArg some (sqs_size ..).symm), _, und_sqs, rfl⟩; exact dsk_p0 _ _ _ _ _ _ _ _ _ _ _) | ((with_reducible apply wpM_lda' M 0 30 (101) (sqs r.n r.t)); rfl; rfl; rfl; exact ⟨rfl, inf_sqs.trans (congrArg some (sqs_size ..).symm), _, und_sqs, rfl⟩; exact dsk_p1 _ _ _ _ _ _ _ _ _ _ _) | (go_at_call 86; ((with_reducible refine (HQ1 _).mono ?_); rintro e w1 ⟨rfl, hb⟩; have hsz := M.size; (try (have G9 := G.later hb; clear G; have G := G9; clear G9)); have M9 := M.later hb; clear M; (try clear C); have M := M9; clear M9; have C := M.ruleAll; simp only [Go.Proofs.Ytjdfjlgjpjgnhaa.ruleAll] at C)) | (go_at_call 86; ((with_reducible refine (HQ2 _).mono ?_); rintro e w1 ⟨rfl, hb⟩; have hsz := M.size; (try (have G9 := G.later hb; clear G; have G := G9; clear G9)); have M9 := M.later hb; clear M; (try clear C); have M := M9; clear M9; have C := M.ruleAll; simp only [Go.Proofs.Ytjdfjlgjpjgnhaa.ruleAll] at C)))
      go_ret
      exact ⟨by rw [HD.out]; rfl, M.below⟩
    | true =>
      simp only [e2] at HQ2 HD
      cases e3 : setB q.n xs with
      | false =>
        simp only [e3] at HS HD
        clear HB
        go_enter Try.func41, Try.ntmps41
        go_wp2_with (first | ((with_reducible apply wpM_box' M 75 (dskC q r (some ⟨gs, 0, none⟩) xs.length xs.length (some ⟨g1, 0, none⟩) ns.length ns.length (some ⟨g2, 0, none⟩) ls.length ls.length)); rfl; exact ⟨rfl, rfl⟩; clear M; (try clear C); intro bb w9 h_bb M; have C := M.ruleAll; simp only [Go.Proofs.Ytjdfjlgjpjgnhaa.ruleAll] at C) | ((with_reducible apply wpM_lda' M 0 30 (0) (sqs q.n q.t)); rfl; rfl; rfl; exact ⟨rfl, inf_sqs.trans (congrArg some (sqs_size ..).symm), _, und_sqs, rfl⟩; exact dsk_p0 _ _ _ _ _ _ _ _ _ _ _) | ((with_reducible apply wpM_lda' M 0 30 (101) (sqs r.n r.t)); rfl; rfl; rfl; exact ⟨rfl, inf_sqs.trans (congrArg some (sqs_size ..).symm), _, und_sqs, rfl⟩; exact dsk_p1 _ _ _ _ _ _ _ _ _ _ _) | (go_at_call 86; ((with_reducible refine (HQ1 _).mono ?_); rintro e w1 ⟨rfl, hb⟩; have hsz := M.size; (try (have G9 := G.later hb; clear G; have G := G9; clear G9)); have M9 := M.later hb; clear M; (try clear C); have M := M9; clear M9; have C := M.ruleAll; simp only [Go.Proofs.Ytjdfjlgjpjgnhaa.ruleAll] at C)) | (go_at_call 86; ((with_reducible refine (HQ2 _).mono ?_); rintro e w1 ⟨rfl, hb⟩; have hsz := M.size; (try (have G9 := G.later hb; clear G; have G := G9; clear G9)); have M9 := M.later hb; clear M; (try clear C); have M := M9; clear M9; have C := M.ruleAll; simp only [Go.Proofs.Ytjdfjlgjpjgnhaa.ruleAll] at C)) | (go_at_call 87; ((with_reducible refine (HS _ M.below).mono ?_); rintro e w1 ⟨rfl, hb⟩; have hsz := M.size; (try (have G9 := G.later hb; clear G; have G := G9; clear G9)); have M9 := M.later hb; clear M; (try clear C); have M := M9; clear M9; have C := M.ruleAll; simp only [Go.Proofs.Ytjdfjlgjpjgnhaa.ruleAll] at C)))
        go_ret
        exact ⟨by rw [HD.out]; rfl, M.below⟩
      | true =>
        simp only [e3] at HS HD
        generalize isBk ns ls = b4 at HB HD
        go_enter Try.func41, Try.ntmps41
        go_wp2_with (first | ((with_reducible apply wpM_box' M 75 (dskC q r (some ⟨gs, 0, none⟩) xs.length xs.length (some ⟨g1, 0, none⟩) ns.length ns.length (some ⟨g2, 0, none⟩) ls.length ls.length)); rfl; exact ⟨rfl, rfl⟩; clear M; (try clear C); intro bb w9 h_bb M; have C := M.ruleAll; simp only [Go.Proofs.Ytjdfjlgjpjgnhaa.ruleAll] at C) | ((with_reducible apply wpM_lda' M 0 30 (0) (sqs q.n q.t)); rfl; rfl; rfl; exact ⟨rfl, inf_sqs.trans (congrArg some (sqs_size ..).symm), _, und_sqs, rfl⟩; exact dsk_p0 _ _ _ _ _ _ _ _ _ _ _) | ((with_reducible apply wpM_lda' M 0 30 (101) (sqs r.n r.t)); rfl; rfl; rfl; exact ⟨rfl, inf_sqs.trans (congrArg some (sqs_size ..).symm), _, und_sqs, rfl⟩; exact dsk_p1 _ _ _ _ _ _ _ _ _ _ _) | ((with_reducible apply wpM_lda' M 0 47 203 (bkV (some ⟨g1, 0, none⟩) ns.length (some ⟨g2, 0, none⟩) ls.length ns.length ls.length)); rfl; rfl; rfl; exact ⟨rfl, inf_bok.trans (congrArg some (bkv_size ..).symm), _, und_bok, rfl⟩; exact dsk_p3 _ _ _ _ _ _ _ _ _ _ _) | (go_at_call 86; ((with_reducible refine (HQ1 _).mono ?_); rintro e w1 ⟨rfl, hb⟩; have hsz := M.size; (try (have G9 := G.later hb; clear G; have G := G9; clear G9)); have M9 := M.later hb; clear M; (try clear C); have M := M9; clear M9; have C := M.ruleAll; simp only [Go.Proofs.Ytjdfjlgjpjgnhaa.ruleAll] at C)) | (go_at_call 86; ((with_reducible refine (HQ2 _).mono ?_); rintro e w1 ⟨rfl, hb⟩; have hsz := M.size; (try (have G9 := G.later hb; clear G; have G := G9; clear G9)); have M9 := M.later hb; clear M; (try clear C); have M := M9; clear M9; have C := M.ruleAll; simp only [Go.Proofs.Ytjdfjlgjpjgnhaa.ruleAll] at C)) | (go_at_call 87; ((with_reducible refine (HS _ M.below).mono ?_); rintro e w1 ⟨rfl, hb⟩; have hsz := M.size; (try (have G9 := G.later hb; clear G; have G := G9; clear G9)); have M9 := M.later hb; clear M; (try clear C); have M := M9; clear M9; have C := M.ruleAll; simp only [Go.Proofs.Ytjdfjlgjpjgnhaa.ruleAll] at C)) | (go_at_call 21; ((with_reducible refine (HB _ M.below).mono ?_); rintro e w1 ⟨rfl, hb⟩; have hsz := M.size; (try (have G9 := G.later hb; clear G; have G := G9; clear G9)); have M9 := M.later hb; clear M; (try clear C); have M := M9; clear M9; have C := M.ruleAll; simp only [Go.Proofs.Ytjdfjlgjpjgnhaa.ruleAll] at C)))
        go_ret
        exact ⟨by rw [HD.out]; cases b4 <;> rfl, M.below⟩

/-- A desk in new memory that floats. -/
def StDk (q r : Sqr) (xs : List Int) (ns : List ByteArray) (ls : List Sqr) : List Value → List Ent → Prop
  | [], Lg => Lg = []
  | v :: _, Lg => ∃ gs g1 g2 cs cs1 cs2, v = .agg (dskC q r (some ⟨gs, 0, none⟩) xs.length xs.length (some ⟨g1, 0, none⟩) ns.length ns.length (some ⟨g2, 0, none⟩) ls.length ls.length) ∧ intC xs cs ∧ strC ns cs1 ∧ sqaC ls cs2 ∧ Lg = [.box gs cs 2, .box g1 cs1 9, .box g2 cs2 30]

set_option maxRecDepth 100000 in
set_option maxHeartbeats 2000000 in
theorem lawIsDesk_any (q r : Sqr) (xs : List Int) (ns : List ByteArray) (ls : List Sqr) (hq : Byt2 q.t) (hr : Byt2 r.t) (hk : xs.length ≤ maxLen) (hn : ns.length ≤ maxLen) (hm : ls.length ≤ maxLen) (hs : ∀ x ∈ ns, x.size ≤ maxLen) (hby : ∀ q ∈ ls, Byt2 q.t) (w : World) (p0 p1 p2 : Option Addr) (c0 c1 c2 : Nat)
    (hr0 : rdp w p0 xs.length (intF xs)) (hr1 : rdp w p1 ns.length (nmF ns)) (hr2 : rdp w p2 (ls.length * 101) (fun j => (slC ls).getD j undef)) :
    Calls Try.prog 9 #[.agg (dskC q r p0 xs.length c0 p1 ns.length c1 p2 ls.length c2)] w fun e w' => e = .returned (.bool true) ∧ Below w.heap.size w w' := by
  have M := Mm.start no w
  have HS := fun w1 (hb : Below w.heap.size w w1) => szDesk_any q r xs.length hk ns hn hs ls.length hm w1 p0 p1 p2 c0 c1 c2 (hr1.later hb)
  have R0 := Hid2.mk (fun w1 (hb : Below w.heap.size w w1) => hr0.later hb)
  have R1 := Hid2.mk (fun w1 (hb : Below w.heap.size w w1) => hr1.later hb)
  have R2 := Hid2.mk (fun w1 (hb : Below w.heap.size w w1) => hr2.later hb)
  have HBY := Hid2.mk hby
  clear hr0 hr1 hr2 hs hby
  go_enter Try.func9, Try.ntmps9
  go_wp2_with (first | ((with_reducible apply wpM_box' M 71 (dskC q r p0 xs.length c0 p1 ns.length c1 p2 ls.length c2)); rfl; exact ⟨rfl, rfl⟩; clear M; (try clear C); intro bb w9 h_bb M; have C := M.ruleAll; simp only [Go.Proofs.Ytjdfjlgjpjgnhaa.ruleAll] at C) | ((with_reducible apply wpM_lda' M 0 71 0 (dskC q r p0 xs.length c0 p1 ns.length c1 p2 ls.length c2)); rfl; rfl; rfl; exact ⟨rfl, inf_dk0.trans (congrArg some (dsk_size ..).symm), _, und_dk0, rfl⟩; exact whole_of rfl) | (go_at_call 40; fail))
  refine (HS _ M.below).mono ?_
  rintro e w1 ⟨z, rfl, hz, hb⟩
  have M9 := M.later hb
  clear M; (try clear C)
  have M := M9
  clear M9 hb
  have C := M.ruleAll; simp only [Go.Proofs.Ytjdfjlgjpjgnhaa.ruleAll] at C
  clear HS
  by_cases hneg : z < 0
  · go_wp2
    go_ret
    exact ⟨rfl, M.below⟩
  · obtain ⟨q0, q1, q2, q3⟩ := hz (by omega)
    have HB : BkIn ns ls := ⟨by omega, by omega, fun x hx => by have := q2 x hx; omega, HBY.out⟩
    have hk2 : xs.length ≤ 1048576 := by omega
    clear hz q2
    have HT := fun w1 (hb : Below w.heap.size w w1) => toDesk_any q r xs ns ls hk2 HB.n HB.m w1 p0 p1 p2 c0 c1 c2 (R0.out w1 hb) (R1.out w1 hb) (R2.out w1 hb)
    have HS := Hid2.mk (fun w1 gs g1 g2 (h : DkHere xs ns ls w1 gs g1 g2) => specIsDesk_any q r xs HB hq hr hk2 w1 h)
    have HP := Hid2.mk (fun w1 gs g1 g2 (h : DkHere xs ns ls w1 gs g1 g2) => implIsDesk_any q r xs HB hq hr hk2 w1 h)
    have HE := Hid2.mk (fun w1 gs g1 g2 gt g3 g4 (h : DkHere xs ns ls w1 gs g1 g2) (h' : DkHere xs ns ls w1 gt g3 g4) => eqDesk_any q r xs HB hk2 w1 h h')
    generalize deskB q r xs ns ls = b at HS HP
    go_wp2_with (first | ((with_reducible apply wpM_lda' M 0 71 0 (dskC q r p0 xs.length c0 p1 ns.length c1 p2 ls.length c2)); rfl; rfl; rfl; exact ⟨rfl, inf_dk0.trans (congrArg some (dsk_size ..).symm), _, und_dk0, rfl⟩; exact whole_of rfl) | (go_at_call 42; fail))
    refine (HT _ M.below).mono ?_
    rintro e w1 ⟨gs, g1, g2, cs, cs1, cs2, rfl, hgs, hg1, hg2, hs, hs1, hs2, M'⟩
    have M9 := M.join3 M' (new_box3 hgs hg1 hg2)
    clear M; (try clear C)
    have M := M9
    clear M9 M'
    have C := M.ruleAll; simp only [Go.Proofs.Ytjdfjlgjpjgnhaa.ruleAll] at C
    go_wp2_with (first | ((with_reducible apply wpM_lda' M 3 71 0 (dskC q r p0 xs.length c0 p1 ns.length c1 p2 ls.length c2)); rfl; rfl; rfl; exact ⟨rfl, inf_dk0.trans (congrArg some (dsk_size ..).symm), _, und_dk0, rfl⟩; exact whole_of rfl) | (go_at_call 41; ((with_reducible refine (HS.out _ _ _ _ (DkHere.of M 0 1 2 (by decide) rfl rfl rfl hs hs1 hs2)).mono ?_); rintro e w1 ⟨rfl, hb⟩; have hsz := M.size; (try (have G9 := G.later hb; clear G; have G := G9; clear G9)); have M9 := M.later hb; clear M; (try clear C); have M := M9; clear M9; have C := M.ruleAll; simp only [Go.Proofs.Ytjdfjlgjpjgnhaa.ruleAll] at C)) | (go_at_call 42; fail))
    refine (HT _ M.below).mono ?_
    rintro e w1 ⟨gt, g3, g4, ct, cs3, cs4, rfl, hgt, hg3, hg4, ht, hs3, hs4, M'⟩
    have M9 := M.join3 M' (new_box3 hgt hg3 hg4)
    clear M; (try clear C)
    have M := M9
    clear M9 M'
    have C := M.ruleAll; simp only [Go.Proofs.Ytjdfjlgjpjgnhaa.ruleAll] at C
    go_wp2_with (first | ((with_reducible apply wpM_alloc' M 75 (dskC sq00 sq00 none 0 0 none 0 0 none 0 0)); rfl; exact ⟨rfl, _, zero_dsk _, rfl⟩; clear M; (try clear C); intro b5 w9 h_b5 M; have C := M.ruleAll; simp only [Go.Proofs.Ytjdfjlgjpjgnhaa.ruleAll] at C) | ((with_reducible apply wpM_sta' M 0 75 (dskC q r (some ⟨gt, 0, none⟩) xs.length xs.length (some ⟨g3, 0, none⟩) ns.length ns.length (some ⟨g4, 0, none⟩) ls.length ls.length)); rfl; rfl; rfl; rfl; (first | exact .inl (by assumption) | exact .inr rfl | exact .inr (by assumption)); exact ⟨rfl, inf_dsk.trans (congrArg some (dsk_size ..).symm), flat_dsk _ _ _ _ _ _ _ _ _ _ _⟩; (simp only [entCells, List.getElem?_cons_zero, List.getElem?_cons_succ, dsk_size, dsk_size]); clear M; (try clear C); intro w9 M; simp only [List.set_cons_zero, List.set_cons_succ, entBlk, entT, List.getElem?_cons_zero, List.getElem?_cons_succ] at M; have C := M.ruleAll; simp only [Go.Proofs.Ytjdfjlgjpjgnhaa.ruleAll] at C) | ((with_reducible apply wpM_lda' M 0 75 0 (dskC q r (some ⟨gt, 0, none⟩) xs.length xs.length (some ⟨g3, 0, none⟩) ns.length ns.length (some ⟨g4, 0, none⟩) ls.length ls.length)); rfl; rfl; rfl; exact ⟨rfl, inf_dsk.trans (congrArg some (dsk_size ..).symm), _, und_dsk, rfl⟩; exact whole_of rfl) | (go_at_call 43; ((with_reducible refine (HP.out _ _ _ _ (DkHere.of M 1 2 3 (by decide) rfl rfl rfl ht hs3 hs4)).mono ?_); rintro e w1 ⟨rfl, hb⟩; have hsz := M.size; (try (have G9 := G.later hb; clear G; have G := G9; clear G9)); have M9 := M.later hb; clear M; (try clear C); have M := M9; clear M9; have C := M.ruleAll; simp only [Go.Proofs.Ytjdfjlgjpjgnhaa.ruleAll] at C)))
    apply wp_region_mmf1 M [0, 1] 2 3 _ (StDk q r xs ns ls) (by kernel_rfl) (by kernel_rfl) rfl rfl rfl
    case ht => (repeat (first | exact wpTextG_nil | (apply wpTextG_cons; (intro g9 w2 hG; obtain ⟨Lg9, hSt9, G⟩ := hG; have M := G.suffix; have C := M.ruleAll; simp only [Go.Proofs.Ytjdfjlgjpjgnhaa.ruleAll] at C; go_wp2_with (first | ((with_reducible apply wpM_lda' M 0 75 0 (dskC q r (some ⟨gt, 0, none⟩) xs.length xs.length (some ⟨g3, 0, none⟩) ns.length ns.length (some ⟨g4, 0, none⟩) ls.length ls.length)); rfl; rfl; rfl; exact ⟨rfl, inf_dsk.trans (congrArg some (dsk_size ..).symm), _, und_dsk, rfl⟩; exact whole_of rfl) | ((with_reducible apply wpM_lda' M 7 71 0 (dskC q r p0 xs.length c0 p1 ns.length c1 p2 ls.length c2)); rfl; rfl; rfl; exact ⟨rfl, inf_dk0.trans (congrArg some (dsk_size ..).symm), _, und_dk0, rfl⟩; exact whole_of rfl)); exact ⟨rfl, rfl, Lg9, hSt9, G⟩); rfl)))
    case hA =>
      intro Lg w2 h M
      obtain rfl : Lg = [] := h
      refine yield_walk (ops := #[]) rfl rfl (by simp [Act.put]) ?_
      simp only [List.nil_append] at M
      go_wp2_with (first | (go_at_call 42; fail))
      refine (HT _ M.below).mono ?_
      rintro e w1 ⟨gu, g5, g6, cu, cs5, cs6, rfl, hgu, hg5, hg6, hu, hs5, hs6, M'⟩
      have M9 := M.join3 M' (new_box3 hgu hg5 hg6)
      go_wp2
      exact ⟨_, ⟨gu, g5, g6, cu, cs5, cs6, rfl, hu, hs5, hs6, rfl⟩, M9⟩
    clear M; (try clear C)
    intro v Lg w2 h M
    obtain ⟨gu, g5, g6, cu, cs5, cs6, rfl, hu, hs5, hs6, rfl⟩ := h
    simp only [List.drop_succ_cons, List.drop_zero, List.cons_append, List.nil_append] at M ⊢
    go_wp2_with (first | (go_at_call 44; ((with_reducible refine (HE.out _ _ _ _ _ _ _ (DkHere.of M 4 5 6 (by decide) rfl rfl rfl ht hs3 hs4) (DkHere.of M 0 1 2 (by decide) rfl rfl rfl hu hs5 hs6)).mono ?_); rintro e w1 ⟨rfl, hb⟩; have hsz := M.size; (try (have G9 := G.later hb; clear G; have G := G9; clear G9)); have M9 := M.later hb; clear M; (try clear C); have M := M9; clear M9; have C := M.ruleAll; simp only [Go.Proofs.Ytjdfjlgjpjgnhaa.ruleAll] at C)))
    go_ret
    exact ⟨rfl, M.below⟩
end Go.Proofs.Ytjdfjlgjpjgnhaa
