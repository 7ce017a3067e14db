/- The loop of a name, for the program and for the reference: contracts. -/
import Derived.Test.YtinjjaoikofkdaaC43
namespace Go.Proofs.Ytinjjaoikofkdaa
set_option linter.unusedSimpArgs false
set_option linter.unusedVariables false
open Go Go.RowKit

/-- The place of a name in a book, and a code. -/
noncomputable def namedR (ns : List ByteArray) (ls : List Sqr) (s : ByteArray) : Int × Int :=
  if isBk ns ls = true then (if nameB s = true then (if placeOf (fun x => x.toList == s.toList) ns < 0 then (0, 4) else (placeOf (fun x => x.toList == s.toList) ns, 0)) else (0, 2)) else (0, 1)
theorem namedR_1 {ns : List ByteArray} {ls : List Sqr} {s : ByteArray} (h : isBk ns ls = false) : namedR ns ls s = (0, 1) := by unfold namedR; rw [if_neg (by rw [h]; simp)]
theorem namedR_2 {ns : List ByteArray} {ls : List Sqr} {s : ByteArray} (h : isBk ns ls = true) (h2 : nameB s = false) : namedR ns ls s = (0, 2) := by unfold namedR; rw [if_pos h, if_neg (by rw [h2]; simp)]
theorem namedR_4 {ns : List ByteArray} {ls : List Sqr} {s : ByteArray} (h : isBk ns ls = true) (h2 : nameB s = true) (h3 : placeOf (fun x => x.toList == s.toList) ns < 0) : namedR ns ls s = (0, 4) := by unfold namedR; rw [if_pos h, if_pos h2, if_pos h3]
theorem namedR_0 {ns : List ByteArray} {ls : List Sqr} {s : ByteArray} (h : isBk ns ls = true) (h2 : nameB s = true) (h3 : ¬ placeOf (fun x => x.toList == s.toList) ns < 0) : namedR ns ls s = (placeOf (fun x => x.toList == s.toList) ns, 0) := by unfold namedR; rw [if_pos h, if_pos h2, if_neg h3]
theorem placeOf_lt {α : Type} (p : α → Bool) (l : List α) (h : ¬ placeOf p l < 0) : ∃ k : Nat, k < l.length ∧ placeOf p l = (k : Int) := by
  unfold placeOf at h ⊢
  cases hf : l.findIdx? p with
  | none => rw [hf] at h; exact absurd (by decide) h
  | some k => exact ⟨k, (List.findIdx?_eq_some_iff_getElem.1 hf).1, rfl⟩
theorem isBk_len {ns : List ByteArray} {ls : List Sqr} (h : isBk ns ls = true) : ls.length = ns.length := by
  unfold isBk at h
  simp only [Bool.and_eq_true, decide_eq_true_eq] at h
  exact h.1.1.2
/-- What a place in a valid book is. -/
theorem namedR_ok {ns : List ByteArray} {ls : List Sqr} {s : ByteArray} : ((namedR ns ls s).2 ≠ 0 ∧ (namedR ns ls s).1 = 0) ∨ ((namedR ns ls s).2 = 0 ∧ ∃ k : Nat, k < ns.length ∧ k < ls.length ∧ (namedR ns ls s).1 = (k : Int)) := by
  cases h : isBk ns ls with
  | false => rw [namedR_1 h]; exact .inl ⟨by decide, rfl⟩
  | true =>
    cases h2 : nameB s with
    | false => rw [namedR_2 h h2]; exact .inl ⟨by decide, rfl⟩
    | true =>
      by_cases h3 : placeOf (fun x : ByteArray => x.toList == s.toList) ns < 0
      · rw [namedR_4 h h2 h3]; exact .inl ⟨by decide, rfl⟩
      · obtain ⟨k, hk, e⟩ := placeOf_lt _ _ h3
        rw [namedR_0 h h2 h3]
        exact .inr ⟨rfl, k, hk, by rw [isBk_len h]; exact hk, e⟩

set_option maxRecDepth 100000 in
set_option maxHeartbeats 1000000 in
theorem placed_any {ns : List ByteArray} {ls : List Sqr} (h : BkIn ns ls) (s : ByteArray) (hs : s.size ≤ 1048576) (w : World) {g1 g2 : Nat} (h1 : BkHere ns ls w g1 g2) (c1 c2 : Nat) (hc : ns.length ≤ c1) :
    Calls Try.prog 31 #[.agg (bkA g1 c1 g2 c2 ns.length ls.length), .string s] w fun e w' => e = .returned (.tuple #[.int .i64 (namedR ns ls s).1, .int .i64 (namedR ns ls s).2]) ∧ Below w.heap.size w w' := by
  have M := Mm.start no w
  have k0 : (bkA g1 c1 g2 c2 ns.length ls.length)[0]? = some (.slice (some ⟨g1, 0, none⟩) ns.length c1) := rfl
  have HB := fun w1 (hb : Below w.heap.size w w1) => isBookP_any h w1 (h1.later hb) c1 c2 hc
  have HN := fun w1 => isName_any s w1 hs
  have HI := fun w1 (hb : Below w.heap.size w w1) => index_any ns ns.length (Nat.le_refl _) (by have := h.n; omega) s w1 g1 c1 (h1.later hb).r1
  have hpl : placeOf (fun x : ByteArray => s.toList == x.toList) (ns.take ns.length) = placeOf (fun x : ByteArray => x.toList == s.toList) ns := by
    rw [List.take_length]
    congr 1
    funext x
    rw [Bool.eq_iff_iff, beq_iff_eq, beq_iff_eq]
    exact eq_comm
  rw [hpl] at HI
  clear h h1 hc hpl
  cases hb1 : isBk ns ls with
  | false =>
    have HR := Hid2.mk (namedR_1 (s := s) hb1)
    simp only [hb1] at HB
    clear hb1
    go_enter Try.func31, Try.ntmps31
    go_wp2_with (first | ((with_reducible apply wpM_box' M 29 (bkA g1 c1 g2 c2 ns.length ls.length)); rfl; exact ⟨rfl, rfl⟩; clear M; (try clear C); intro bb w9 h_bb M; have C := M.ruleAll; simp only [Go.Proofs.Ytinjjaoikofkdaa.ruleAll] at C) | ((with_reducible apply wpM_lda' M 0 29 0 (bkA g1 c1 g2 c2 ns.length ls.length)); rfl; rfl; rfl; exact ⟨rfl, inf_bok.trans (congrArg some (bok_size ..).symm), _, und_bok, rfl⟩; exact whole_of rfl) | (go_at_call 47; ((with_reducible refine (HB _ M.below).mono ?_); rintro e w1 ⟨rfl, hb⟩; have hsz := M.size; (try (have G9 := G.later hb; clear G; have G := G9; clear G9)); have M9 := M.later hb; clear M; (try clear C); have M := M9; clear M9; have C := M.ruleAll; simp only [Go.Proofs.Ytinjjaoikofkdaa.ruleAll] at C)))
    go_ret2
    exact ⟨by rw [HR.out]; rfl, M.below⟩
  | true =>
    cases hb2 : nameB s with
    | false =>
      have HR := Hid2.mk (namedR_2 hb1 hb2)
      simp only [hb1] at HB
      simp only [hb2] at HN
      clear hb1 hb2
      go_enter Try.func31, Try.ntmps31
      go_wp2_with (first | ((with_reducible apply wpM_box' M 29 (bkA g1 c1 g2 c2 ns.length ls.length)); rfl; exact ⟨rfl, rfl⟩; clear M; (try clear C); intro bb w9 h_bb M; have C := M.ruleAll; simp only [Go.Proofs.Ytinjjaoikofkdaa.ruleAll] at C) | ((with_reducible apply wpM_lda' M 0 29 0 (bkA g1 c1 g2 c2 ns.length ls.length)); rfl; rfl; rfl; exact ⟨rfl, inf_bok.trans (congrArg some (bok_size ..).symm), _, und_bok, rfl⟩; exact whole_of rfl) | (go_at_call 47; ((with_reducible refine (HB _ M.below).mono ?_); rintro e w1 ⟨rfl, hb⟩; have hsz := M.size; (try (have G9 := G.later hb; clear G; have G := G9; clear G9)); have M9 := M.later hb; clear M; (try clear C); have M := M9; clear M9; have C := M.ruleAll; simp only [Go.Proofs.Ytinjjaoikofkdaa.ruleAll] at C)) | (go_at_call 50; ((with_reducible refine (HN _).mono ?_); rintro e w1 ⟨rfl, hb⟩; have hsz := M.size; (try (have G9 := G.later hb; clear G; have G := G9; clear G9)); have M9 := M.later hb; clear M; (try clear C); have M := M9; clear M9; have C := M.ruleAll; simp only [Go.Proofs.Ytinjjaoikofkdaa.ruleAll] at C)))
      go_ret2
      exact ⟨by rw [HR.out]; rfl, M.below⟩
    | true =>
      by_cases hb3 : placeOf (fun x : ByteArray => x.toList == s.toList) ns < 0
      · have HR := Hid2.mk (namedR_4 hb1 hb2 hb3)
        simp only [hb1] at HB
        simp only [hb2] at HN
        generalize placeOf (fun x : ByteArray => x.toList == s.toList) ns = p at hb3 HI
        clear hb1 hb2
        go_enter Try.func31, Try.ntmps31
        go_wp2_with (first | ((with_reducible apply wpM_box' M 29 (bkA g1 c1 g2 c2 ns.length ls.length)); rfl; exact ⟨rfl, rfl⟩; clear M; (try clear C); intro bb w9 h_bb M; have C := M.ruleAll; simp only [Go.Proofs.Ytinjjaoikofkdaa.ruleAll] at C) | ((with_reducible apply wpM_lda' M 0 29 0 (bkA g1 c1 g2 c2 ns.length ls.length)); rfl; rfl; rfl; exact ⟨rfl, inf_bok.trans (congrArg some (bok_size ..).symm), _, und_bok, rfl⟩; exact whole_of rfl) | (go_at_call 47; ((with_reducible refine (HB _ M.below).mono ?_); rintro e w1 ⟨rfl, hb⟩; have hsz := M.size; (try (have G9 := G.later hb; clear G; have G := G9; clear G9)); have M9 := M.later hb; clear M; (try clear C); have M := M9; clear M9; have C := M.ruleAll; simp only [Go.Proofs.Ytinjjaoikofkdaa.ruleAll] at C)) | (go_at_call 50; ((with_reducible refine (HN _).mono ?_); rintro e w1 ⟨rfl, hb⟩; have hsz := M.size; (try (have G9 := G.later hb; clear G; have G := G9; clear G9)); have M9 := M.later hb; clear M; (try clear C); have M := M9; clear M9; have C := M.ruleAll; simp only [Go.Proofs.Ytinjjaoikofkdaa.ruleAll] at C)) | (go_at_call 66; ((with_reducible refine (HI _ M.below).mono ?_); rintro e w1 ⟨rfl, hb⟩; have hsz := M.size; (try (have G9 := G.later hb; clear G; have G := G9; clear G9)); have M9 := M.later hb; clear M; (try clear C); have M := M9; clear M9; have C := M.ruleAll; simp only [Go.Proofs.Ytinjjaoikofkdaa.ruleAll] at C)))
        go_ret2
        exact ⟨by rw [HR.out]; rfl, M.below⟩
      · have HR := Hid2.mk (namedR_0 hb1 hb2 hb3)
        simp only [hb1] at HB
        simp only [hb2] at HN
        generalize placeOf (fun x : ByteArray => x.toList == s.toList) ns = p at hb3 HI HR
        clear hb1 hb2
        go_enter Try.func31, Try.ntmps31
        go_wp2_with (first | ((with_reducible apply wpM_box' M 29 (bkA g1 c1 g2 c2 ns.length ls.length)); rfl; exact ⟨rfl, rfl⟩; clear M; (try clear C); intro bb w9 h_bb M; have C := M.ruleAll; simp only [Go.Proofs.Ytinjjaoikofkdaa.ruleAll] at C) | ((with_reducible apply wpM_lda' M 0 29 0 (bkA g1 c1 g2 c2 ns.length ls.length)); rfl; rfl; rfl; exact ⟨rfl, inf_bok.trans (congrArg some (bok_size ..).symm), _, und_bok, rfl⟩; exact whole_of rfl) | (go_at_call 47; ((with_reducible refine (HB _ M.below).mono ?_); rintro e w1 ⟨rfl, hb⟩; have hsz := M.size; (try (have G9 := G.later hb; clear G; have G := G9; clear G9)); have M9 := M.later hb; clear M; (try clear C); have M := M9; clear M9; have C := M.ruleAll; simp only [Go.Proofs.Ytinjjaoikofkdaa.ruleAll] at C)) | (go_at_call 50; ((with_reducible refine (HN _).mono ?_); rintro e w1 ⟨rfl, hb⟩; have hsz := M.size; (try (have G9 := G.later hb; clear G; have G := G9; clear G9)); have M9 := M.later hb; clear M; (try clear C); have M := M9; clear M9; have C := M.ruleAll; simp only [Go.Proofs.Ytinjjaoikofkdaa.ruleAll] at C)) | (go_at_call 66; ((with_reducible refine (HI _ M.below).mono ?_); rintro e w1 ⟨rfl, hb⟩; have hsz := M.size; (try (have G9 := G.later hb; clear G; have G := G9; clear G9)); have M9 := M.later hb; clear M; (try clear C); have M := M9; clear M9; have C := M.ruleAll; simp only [Go.Proofs.Ytinjjaoikofkdaa.ruleAll] at C)))
        go_ret2
        exact ⟨by rw [HR.out]; rfl, M.below⟩

set_option maxRecDepth 100000 in
set_option maxHeartbeats 1000000 in
theorem l11Named_any {ns : List ByteArray} {ls : List Sqr} (h : BkIn ns ls) (s : ByteArray) (hs : s.size ≤ 1048576) (w : World) {g1 g2 : Nat} (h1 : BkHere ns ls w g1 g2) (c1 c2 : Nat) :
    Calls Try.prog 29 #[.agg (bkA g1 c1 g2 c2 ns.length ls.length), .string s] w fun e w' => e = .returned (.tuple #[.int .i64 (namedR ns ls s).1, .int .i64 (namedR ns ls s).2]) ∧ Below w.heap.size w w' := by
  have M := Mm.start no w
  have k0 : (bkA g1 c1 g2 c2 ns.length ls.length)[0]? = some (.slice (some ⟨g1, 0, none⟩) ns.length c1) := rfl
  have HB := fun w1 (hb : Below w.heap.size w w1) => l11IsP_any h w1 (h1.later hb) c1 c2
  have HN := fun w1 => l11Name_any s w1 hs
  have HI := fun w1 (hb : Below w.heap.size w w1) => l11Place_any ns (by have := h.n; omega) s w1 g1 c1 g2 c2 ls.length (h1.later hb).r1
  clear h h1
  cases hb1 : isBk ns ls with
  | false =>
    have HR := Hid2.mk (namedR_1 (s := s) hb1)
    simp only [hb1] at HB
    clear hb1
    go_enter Try.func29, Try.ntmps29
    go_wp2_with (first | ((with_reducible apply wpM_box' M 29 (bkA g1 c1 g2 c2 ns.length ls.length)); rfl; exact ⟨rfl, rfl⟩; clear M; (try clear C); intro bb w9 h_bb M; have C := M.ruleAll; simp only [Go.Proofs.Ytinjjaoikofkdaa.ruleAll] at C) | ((with_reducible apply wpM_lda' M 0 29 0 (bkA g1 c1 g2 c2 ns.length ls.length)); rfl; rfl; rfl; exact ⟨rfl, inf_bok.trans (congrArg some (bok_size ..).symm), _, und_bok, rfl⟩; exact whole_of rfl) | (go_at_call 40; ((with_reducible refine (HB _ M.below).mono ?_); rintro e w1 ⟨rfl, hb⟩; have hsz := M.size; (try (have G9 := G.later hb; clear G; have G := G9; clear G9)); have M9 := M.later hb; clear M; (try clear C); have M := M9; clear M9; have C := M.ruleAll; simp only [Go.Proofs.Ytinjjaoikofkdaa.ruleAll] at C)))
    go_ret2
    exact ⟨by rw [HR.out]; rfl, M.below⟩
  | true =>
    cases hb2 : nameB s with
    | false =>
      have HR := Hid2.mk (namedR_2 hb1 hb2)
      simp only [hb1] at HB
      simp only [hb2] at HN
      clear hb1 hb2
      go_enter Try.func29, Try.ntmps29
      go_wp2_with (first | ((with_reducible apply wpM_box' M 29 (bkA g1 c1 g2 c2 ns.length ls.length)); rfl; exact ⟨rfl, rfl⟩; clear M; (try clear C); intro bb w9 h_bb M; have C := M.ruleAll; simp only [Go.Proofs.Ytinjjaoikofkdaa.ruleAll] at C) | ((with_reducible apply wpM_lda' M 0 29 0 (bkA g1 c1 g2 c2 ns.length ls.length)); rfl; rfl; rfl; exact ⟨rfl, inf_bok.trans (congrArg some (bok_size ..).symm), _, und_bok, rfl⟩; exact whole_of rfl) | (go_at_call 40; ((with_reducible refine (HB _ M.below).mono ?_); rintro e w1 ⟨rfl, hb⟩; have hsz := M.size; (try (have G9 := G.later hb; clear G; have G := G9; clear G9)); have M9 := M.later hb; clear M; (try clear C); have M := M9; clear M9; have C := M.ruleAll; simp only [Go.Proofs.Ytinjjaoikofkdaa.ruleAll] at C)) | (go_at_call 42; ((with_reducible refine (HN _).mono ?_); rintro e w1 ⟨rfl, hb⟩; have hsz := M.size; (try (have G9 := G.later hb; clear G; have G := G9; clear G9)); have M9 := M.later hb; clear M; (try clear C); have M := M9; clear M9; have C := M.ruleAll; simp only [Go.Proofs.Ytinjjaoikofkdaa.ruleAll] at C)))
      go_ret2
      exact ⟨by rw [HR.out]; rfl, M.below⟩
    | true =>
      by_cases hb3 : placeOf (fun x : ByteArray => x.toList == s.toList) ns < 0
      · have HR := Hid2.mk (namedR_4 hb1 hb2 hb3)
        simp only [hb1] at HB
        simp only [hb2] at HN
        generalize placeOf (fun x : ByteArray => x.toList == s.toList) ns = p at hb3 HI
        clear hb1 hb2
        go_enter Try.func29, Try.ntmps29
        go_wp2_with (first | ((with_reducible apply wpM_box' M 29 (bkA g1 c1 g2 c2 ns.length ls.length)); rfl; exact ⟨rfl, rfl⟩; clear M; (try clear C); intro bb w9 h_bb M; have C := M.ruleAll; simp only [Go.Proofs.Ytinjjaoikofkdaa.ruleAll] at C) | ((with_reducible apply wpM_lda' M 0 29 0 (bkA g1 c1 g2 c2 ns.length ls.length)); rfl; rfl; rfl; exact ⟨rfl, inf_bok.trans (congrArg some (bok_size ..).symm), _, und_bok, rfl⟩; exact whole_of rfl) | (go_at_call 40; ((with_reducible refine (HB _ M.below).mono ?_); rintro e w1 ⟨rfl, hb⟩; have hsz := M.size; (try (have G9 := G.later hb; clear G; have G := G9; clear G9)); have M9 := M.later hb; clear M; (try clear C); have M := M9; clear M9; have C := M.ruleAll; simp only [Go.Proofs.Ytinjjaoikofkdaa.ruleAll] at C)) | (go_at_call 42; ((with_reducible refine (HN _).mono ?_); rintro e w1 ⟨rfl, hb⟩; have hsz := M.size; (try (have G9 := G.later hb; clear G; have G := G9; clear G9)); have M9 := M.later hb; clear M; (try clear C); have M := M9; clear M9; have C := M.ruleAll; simp only [Go.Proofs.Ytinjjaoikofkdaa.ruleAll] at C)) | (go_at_call 44; ((with_reducible refine (HI _ M.below).mono ?_); rintro e w1 ⟨rfl, hb⟩; have hsz := M.size; (try (have G9 := G.later hb; clear G; have G := G9; clear G9)); have M9 := M.later hb; clear M; (try clear C); have M := M9; clear M9; have C := M.ruleAll; simp only [Go.Proofs.Ytinjjaoikofkdaa.ruleAll] at C)))
        go_ret2
        exact ⟨by rw [HR.out]; rfl, M.below⟩
      · have HR := Hid2.mk (namedR_0 hb1 hb2 hb3)
        simp only [hb1] at HB
        simp only [hb2] at HN
        generalize placeOf (fun x : ByteArray => x.toList == s.toList) ns = p at hb3 HI HR
        clear hb1 hb2
        go_enter Try.func29, Try.ntmps29
        go_wp2_with (first | ((with_reducible apply wpM_box' M 29 (bkA g1 c1 g2 c2 ns.length ls.length)); rfl; exact ⟨rfl, rfl⟩; clear M; (try clear C); intro bb w9 h_bb M; have C := M.ruleAll; simp only [Go.Proofs.Ytinjjaoikofkdaa.ruleAll] at C) | ((with_reducible apply wpM_lda' M 0 29 0 (bkA g1 c1 g2 c2 ns.length ls.length)); rfl; rfl; rfl; exact ⟨rfl, inf_bok.trans (congrArg some (bok_size ..).symm), _, und_bok, rfl⟩; exact whole_of rfl) | (go_at_call 40; ((with_reducible refine (HB _ M.below).mono ?_); rintro e w1 ⟨rfl, hb⟩; have hsz := M.size; (try (have G9 := G.later hb; clear G; have G := G9; clear G9)); have M9 := M.later hb; clear M; (try clear C); have M := M9; clear M9; have C := M.ruleAll; simp only [Go.Proofs.Ytinjjaoikofkdaa.ruleAll] at C)) | (go_at_call 42; ((with_reducible refine (HN _).mono ?_); rintro e w1 ⟨rfl, hb⟩; have hsz := M.size; (try (have G9 := G.later hb; clear G; have G := G9; clear G9)); have M9 := M.later hb; clear M; (try clear C); have M := M9; clear M9; have C := M.ruleAll; simp only [Go.Proofs.Ytinjjaoikofkdaa.ruleAll] at C)) | (go_at_call 44; ((with_reducible refine (HI _ M.below).mono ?_); rintro e w1 ⟨rfl, hb⟩; have hsz := M.size; (try (have G9 := G.later hb; clear G; have G := G9; clear G9)); have M9 := M.later hb; clear M; (try clear C); have M := M9; clear M9; have C := M.ruleAll; simp only [Go.Proofs.Ytinjjaoikofkdaa.ruleAll] at C)))
        go_ret2
        exact ⟨by rw [HR.out]; rfl, M.below⟩
end Go.Proofs.Ytinjjaoikofkdaa
