/- The loop of a name: contracts, and the law's walk. -/
import Derived.Test.YtjdfjlgjpjgnhaaC44
namespace Go.Proofs.Ytjdfjlgjpjgnhaa
set_option linter.unusedSimpArgs false
set_option linter.unusedVariables false
open Go Go.RowKit

/-- The loop of a name, and a code. -/
noncomputable def loopR (ns : List ByteArray) (ls : List Sqr) (s : ByteArray) : Sqr × Int :=
  if (namedR ns ls s).2 = 0 then (ls.getD (namedR ns ls s).1.toNat sq00, 0) else (sq00, (namedR ns ls s).2)
theorem build_sqz (w : World) : (Instr.build 30 #[]).run Try.prog w = .ok (.agg (sqs 0 fun _ _ => 0)) w := by kernel_rfl

set_option maxRecDepth 100000 in
set_option maxHeartbeats 1000000 in
theorem implLoopNamed_any {ns : List ByteArray} {ls : List Sqr} (h : BkIn ns ls) (s : ByteArray) (hs : s.size ≤ 1048576) (w : World) {g1 g2 : Nat} (h1 : BkHere ns ls w g1 g2) (c1 c2 : Nat) (hc : ns.length ≤ c1) :
    Calls Try.prog 29 #[.agg (bkA g1 c1 g2 c2 ns.length ls.length), .string s] w fun e w' => e = .returned (.tuple #[.agg (sqs (loopR ns ls s).1.n (loopR ns ls s).1.t), .int .i64 (loopR ns ls s).2]) ∧ Below w.heap.size w w' := by
  have M := Mm.start no w
  have k1 : (bkA g1 c1 g2 c2 ns.length ls.length)[1]? = some (.slice (some ⟨g2, 0, none⟩) ls.length c2) := rfl
  have HP := fun w1 (hb : Below w.heap.size w w1) => placed_any h s hs w1 (h1.later hb) c1 c2 hc
  have hbd := build_sqz
  have hz := zero_sqs
  rcases namedR_ok (ns := ns) (ls := ls) (s := s) with ⟨hne, hp0⟩ | ⟨he, k, _, hk, hpk⟩
  · have HR := Hid2.mk (show loopR ns ls s = (sq00, (namedR ns ls s).2) from if_neg hne)
    generalize namedR ns ls s = r at hne hp0 HP HR
    obtain ⟨p, d⟩ := r
    have hd : (d == 0) = false := beq_eq_false_iff_ne.2 hne
    clear h h1 hc hne hp0
    go_enter Try.func29, Try.ntmps29
    go_wp2_with (first | ((with_reducible apply wpM_box' M 47 (bkA g1 c1 g2 c2 ns.length ls.length)); rfl; exact ⟨rfl, rfl⟩; clear M; (try clear C); intro bb w9 h_bb M; have C := M.ruleAll; simp only [Go.Proofs.Ytjdfjlgjpjgnhaa.ruleAll] at C) | ((with_reducible apply wpM_alloc' M 30 (sqs 0 fun _ _ => 0)); rfl; exact ⟨rfl, _, zero_sqs _, rfl⟩; clear M; (try clear C); intro b4 w9 h_b4 M; have C := M.ruleAll; simp only [Go.Proofs.Ytjdfjlgjpjgnhaa.ruleAll] at C) | ((with_reducible apply wpM_lda' M 1 47 0 (bkA g1 c1 g2 c2 ns.length ls.length)); rfl; rfl; rfl; exact ⟨rfl, inf_bok.trans (congrArg some (bok_size ..).symm), _, und_bok, rfl⟩; exact whole_of rfl) | (go_at_call 78; ((with_reducible refine (HP _ M.below).mono ?_); rintro e w1 ⟨rfl, hb⟩; have hsz := M.size; (try (have G9 := G.later hb; clear G; have G := G9; clear G9)); have M9 := M.later hb; clear M; (try clear C); have M := M9; clear M9; have C := M.ruleAll; simp only [Go.Proofs.Ytjdfjlgjpjgnhaa.ruleAll] at C)) | (refine wpList_build 30 _ rfl rfl [] rfl _ (build_sqz _) ?_) | ((with_reducible apply wpM_sta' M 0 30 (sqs 0 fun _ _ => 0)); rfl; rfl; rfl; rfl; (first | exact .inl (by assumption) | exact .inr rfl | exact .inr (by assumption)); exact ⟨rfl, inf_sqs.trans (congrArg some (sqs_size ..).symm), flat_sqs _ _⟩; (simp only [entCells, List.getElem?_cons_zero, List.getElem?_cons_succ, sqs_size, sqs_size]); clear M; (try clear C); intro w9 M; simp only [List.set_cons_zero, List.set_cons_succ, entBlk, entT, List.getElem?_cons_zero, List.getElem?_cons_succ] at M; have C := M.ruleAll; simp only [Go.Proofs.Ytjdfjlgjpjgnhaa.ruleAll] at C))
    refine bodyPost_ret (v := .tuple #[.agg (sqs 0 fun _ _ => 0), .int .i64 d]) (by exact results_part2 rfl _ _ _ _ (sqs 0 fun _ _ => 0) _ rfl und_sqs rfl inf_sqs (cells_of_blk0 (M.box 0 rfl)) _ rfl) rfl ?_
    exact ⟨by rw [HR.out]; rfl, M.below⟩
  · have HR := Hid2.mk (show loopR ns ls s = (ls[k], 0) by unfold loopR; rw [if_pos he, hpk, Int.toNat_natCast, getD_at hk])
    generalize namedR ns ls s = r at he hpk HP
    obtain ⟨p, d⟩ := r
    obtain rfl : d = 0 := he
    obtain rfl : p = (k : Int) := hpk
    have hk' : (k : Int) < (ls.length : Int) := by omega
    have hcell : ∀ w1, Below w.heap.size w w1 → ∀ j v, (sqs ls[k].n ls[k].t)[j]? = some v → w1.cell? ⟨g2, k * 101 + j, none⟩ = some v := fun w1 hb => sq_cells (h1.later hb).r2 hk
    have HC := Hid2.mk hcell
    generalize ls[k] = q at HR HC
    clear h h1 hc hcell
    go_enter Try.func29, Try.ntmps29
    go_wp2_with (first | ((with_reducible apply wpM_box' M 47 (bkA g1 c1 g2 c2 ns.length ls.length)); rfl; exact ⟨rfl, rfl⟩; clear M; (try clear C); intro bb w9 h_bb M; have C := M.ruleAll; simp only [Go.Proofs.Ytjdfjlgjpjgnhaa.ruleAll] at C) | ((with_reducible apply wpM_alloc' M 30 (sqs 0 fun _ _ => 0)); rfl; exact ⟨rfl, _, zero_sqs _, rfl⟩; clear M; (try clear C); intro b4 w9 h_b4 M; have C := M.ruleAll; simp only [Go.Proofs.Ytjdfjlgjpjgnhaa.ruleAll] at C) | ((with_reducible apply wpM_lda' M 1 47 0 (bkA g1 c1 g2 c2 ns.length ls.length)); rfl; rfl; rfl; exact ⟨rfl, inf_bok.trans (congrArg some (bok_size ..).symm), _, und_bok, rfl⟩; exact whole_of rfl) | (go_at_call 78; ((with_reducible refine (HP _ M.below).mono ?_); rintro e w1 ⟨rfl, hb⟩; have hsz := M.size; (try (have G9 := G.later hb; clear G; have G := G9; clear G9)); have M9 := M.later hb; clear M; (try clear C); have M := M9; clear M9; have C := M.ruleAll; simp only [Go.Proofs.Ytjdfjlgjpjgnhaa.ruleAll] at C)) | (refine wpList_load_part rfl 30 _ rfl (g2) (k * 101) rfl (sqs q.n q.t) _ und_sqs rfl inf_sqs (HC.out _ M.below) ?_) | ((with_reducible apply wpM_sta' M 0 30 (sqs q.n q.t)); rfl; rfl; rfl; rfl; (first | exact .inl (by assumption) | exact .inr rfl | exact .inr (by assumption)); exact ⟨rfl, inf_sqs.trans (congrArg some (sqs_size ..).symm), flat_sqs _ _⟩; (simp only [entCells, List.getElem?_cons_zero, List.getElem?_cons_succ, sqs_size, sqs_size]); clear M; (try clear C); intro w9 M; simp only [List.set_cons_zero, List.set_cons_succ, entBlk, entT, List.getElem?_cons_zero, List.getElem?_cons_succ] at M; have C := M.ruleAll; simp only [Go.Proofs.Ytjdfjlgjpjgnhaa.ruleAll] at C))
    refine bodyPost_ret (v := .tuple #[.agg (sqs q.n q.t), .int .i64 0]) (by exact results_part2 rfl _ _ _ _ (sqs q.n q.t) _ rfl und_sqs rfl inf_sqs (cells_of_blk0 (M.box 0 rfl)) _ rfl) rfl ?_
    exact ⟨by rw [HR.out], M.below⟩

set_option maxRecDepth 100000 in
set_option maxHeartbeats 1000000 in
theorem specLoopNamed_any {ns : List ByteArray} {ls : List Sqr} (h : BkIn ns ls) (s : ByteArray) (hs : s.size ≤ 1048576) (w : World) {g1 g2 : Nat} (h1 : BkHere ns ls w g1 g2) (c1 c2 : Nat) :
    Calls Try.prog 28 #[.agg (bkA g1 c1 g2 c2 ns.length ls.length), .string s] w fun e w' => e = .returned (.tuple #[.agg (sqs (loopR ns ls s).1.n (loopR ns ls s).1.t), .int .i64 (loopR ns ls s).2]) ∧ Below w.heap.size w w' := by
  have M := Mm.start no w
  have k1 : (bkA g1 c1 g2 c2 ns.length ls.length)[1]? = some (.slice (some ⟨g2, 0, none⟩) ls.length c2) := rfl
  have HP := fun w1 (hb : Below w.heap.size w w1) => l11Named_any h s hs w1 (h1.later hb) c1 c2
  have hbd := build_sqz
  have hz := zero_sqs
  rcases namedR_ok (ns := ns) (ls := ls) (s := s) with ⟨hne, hp0⟩ | ⟨he, k, _, hk, hpk⟩
  · have HR := Hid2.mk (show loopR ns ls s = (sq00, (namedR ns ls s).2) from if_neg hne)
    generalize namedR ns ls s = r at hne hp0 HP HR
    obtain ⟨p, d⟩ := r
    have hd : (d == 0) = false := beq_eq_false_iff_ne.2 hne
    clear h h1 hne hp0
    go_enter Try.func28, Try.ntmps28
    go_wp2_with (first | ((with_reducible apply wpM_box' M 47 (bkA g1 c1 g2 c2 ns.length ls.length)); rfl; exact ⟨rfl, rfl⟩; clear M; (try clear C); intro bb w9 h_bb M; have C := M.ruleAll; simp only [Go.Proofs.Ytjdfjlgjpjgnhaa.ruleAll] at C) | ((with_reducible apply wpM_alloc' M 30 (sqs 0 fun _ _ => 0)); rfl; exact ⟨rfl, _, zero_sqs _, rfl⟩; clear M; (try clear C); intro b4 w9 h_b4 M; have C := M.ruleAll; simp only [Go.Proofs.Ytjdfjlgjpjgnhaa.ruleAll] at C) | ((with_reducible apply wpM_lda' M 1 47 0 (bkA g1 c1 g2 c2 ns.length ls.length)); rfl; rfl; rfl; exact ⟨rfl, inf_bok.trans (congrArg some (bok_size ..).symm), _, und_bok, rfl⟩; exact whole_of rfl) | (go_at_call 77; ((with_reducible refine (HP _ M.below).mono ?_); rintro e w1 ⟨rfl, hb⟩; have hsz := M.size; (try (have G9 := G.later hb; clear G; have G := G9; clear G9)); have M9 := M.later hb; clear M; (try clear C); have M := M9; clear M9; have C := M.ruleAll; simp only [Go.Proofs.Ytjdfjlgjpjgnhaa.ruleAll] at C)) | (refine wpList_build 30 _ rfl rfl [] rfl _ (build_sqz _) ?_) | ((with_reducible apply wpM_sta' M 0 30 (sqs 0 fun _ _ => 0)); rfl; rfl; rfl; rfl; (first | exact .inl (by assumption) | exact .inr rfl | exact .inr (by assumption)); exact ⟨rfl, inf_sqs.trans (congrArg some (sqs_size ..).symm), flat_sqs _ _⟩; (simp only [entCells, List.getElem?_cons_zero, List.getElem?_cons_succ, sqs_size, sqs_size]); clear M; (try clear C); intro w9 M; simp only [List.set_cons_zero, List.set_cons_succ, entBlk, entT, List.getElem?_cons_zero, List.getElem?_cons_succ] at M; have C := M.ruleAll; simp only [Go.Proofs.Ytjdfjlgjpjgnhaa.ruleAll] at C))
    refine bodyPost_ret (v := .tuple #[.agg (sqs 0 fun _ _ => 0), .int .i64 d]) (by exact results_part2 rfl _ _ _ _ (sqs 0 fun _ _ => 0) _ rfl und_sqs rfl inf_sqs (cells_of_blk0 (M.box 0 rfl)) _ rfl) rfl ?_
    exact ⟨by rw [HR.out]; rfl, M.below⟩
  · have HR := Hid2.mk (show loopR ns ls s = (ls[k], 0) by unfold loopR; rw [if_pos he, hpk, Int.toNat_natCast, getD_at hk])
    generalize namedR ns ls s = r at he hpk HP
    obtain ⟨p, d⟩ := r
    obtain rfl : d = 0 := he
    obtain rfl : p = (k : Int) := hpk
    have hk' : (k : Int) < (ls.length : Int) := by omega
    have hcell : ∀ w1, Below w.heap.size w w1 → ∀ j v, (sqs ls[k].n ls[k].t)[j]? = some v → w1.cell? ⟨g2, k * 101 + j, none⟩ = some v := fun w1 hb => sq_cells (h1.later hb).r2 hk
    have HC := Hid2.mk hcell
    generalize ls[k] = q at HR HC
    clear h h1 hcell
    go_enter Try.func28, Try.ntmps28
    go_wp2_with (first | ((with_reducible apply wpM_box' M 47 (bkA g1 c1 g2 c2 ns.length ls.length)); rfl; exact ⟨rfl, rfl⟩; clear M; (try clear C); intro bb w9 h_bb M; have C := M.ruleAll; simp only [Go.Proofs.Ytjdfjlgjpjgnhaa.ruleAll] at C) | ((with_reducible apply wpM_alloc' M 30 (sqs 0 fun _ _ => 0)); rfl; exact ⟨rfl, _, zero_sqs _, rfl⟩; clear M; (try clear C); intro b4 w9 h_b4 M; have C := M.ruleAll; simp only [Go.Proofs.Ytjdfjlgjpjgnhaa.ruleAll] at C) | ((with_reducible apply wpM_lda' M 1 47 0 (bkA g1 c1 g2 c2 ns.length ls.length)); rfl; rfl; rfl; exact ⟨rfl, inf_bok.trans (congrArg some (bok_size ..).symm), _, und_bok, rfl⟩; exact whole_of rfl) | (go_at_call 77; ((with_reducible refine (HP _ M.below).mono ?_); rintro e w1 ⟨rfl, hb⟩; have hsz := M.size; (try (have G9 := G.later hb; clear G; have G := G9; clear G9)); have M9 := M.later hb; clear M; (try clear C); have M := M9; clear M9; have C := M.ruleAll; simp only [Go.Proofs.Ytjdfjlgjpjgnhaa.ruleAll] at C)) | (refine wpList_load_part rfl 30 _ rfl (g2) (k * 101) rfl (sqs q.n q.t) _ und_sqs rfl inf_sqs (HC.out _ M.below) ?_) | ((with_reducible apply wpM_sta' M 0 30 (sqs q.n q.t)); rfl; rfl; rfl; rfl; (first | exact .inl (by assumption) | exact .inr rfl | exact .inr (by assumption)); exact ⟨rfl, inf_sqs.trans (congrArg some (sqs_size ..).symm), flat_sqs _ _⟩; (simp only [entCells, List.getElem?_cons_zero, List.getElem?_cons_succ, sqs_size, sqs_size]); clear M; (try clear C); intro w9 M; simp only [List.set_cons_zero, List.set_cons_succ, entBlk, entT, List.getElem?_cons_zero, List.getElem?_cons_succ] at M; have C := M.ruleAll; simp only [Go.Proofs.Ytjdfjlgjpjgnhaa.ruleAll] at C))
    refine bodyPost_ret (v := .tuple #[.agg (sqs q.n q.t), .int .i64 0]) (by exact results_part2 rfl _ _ _ _ (sqs q.n q.t) _ rfl und_sqs rfl inf_sqs (cells_of_blk0 (M.box 0 rfl)) _ rfl) rfl ?_
    exact ⟨by rw [HR.out], M.below⟩

set_option maxRecDepth 100000 in
set_option maxHeartbeats 2000000 in
theorem lawLoopNamed_any (ns : List ByteArray) (ls : List Sqr) (s : ByteArray) (hn : ns.length ≤ maxLen) (hm : ls.length ≤ maxLen) (hs : ∀ x ∈ ns, x.size ≤ maxLen) (hby : ∀ q ∈ ls, Byt2 q.t) (w : World) (p1 p2 : Option Addr) (c1 c2 : Nat)
    (hr1 : rdp w p1 ns.length (nmF ns)) (hr2 : rdp w p2 (ls.length * 101) (fun j => (slC ls).getD j undef)) :
    Calls Try.prog 7 #[.agg (bkV p1 c1 p2 c2 ns.length ls.length), .string s] w fun e w' => e = .returned (.bool true) ∧ Below w.heap.size w w' := by
  have M := Mm.start no w
  have HS := fun w1 (hb : Below w.heap.size w w1) => szBook_any ns hn hs ls.length hm w1 p1 p2 c1 c2 1048576 (by omega) (by omega) (hr1.later hb)
  have R1 := Hid2.mk (fun w1 (hb : Below w.heap.size w w1) => hr1.later hb)
  have R2 := Hid2.mk (fun w1 (hb : Below w.heap.size w w1) => hr2.later hb)
  have HBY := Hid2.mk hby
  clear hr1 hr2 hs hby
  by_cases hlong : 1048576 < (s.size : Int)
  · go_enter Try.func7, Try.ntmps7
    go_wp2_with (first | ((with_reducible apply wpM_box' M 42 (bkV p1 c1 p2 c2 ns.length ls.length)); rfl; exact ⟨rfl, rfl⟩; clear M; (try clear C); intro bb w9 h_bb M; have C := M.ruleAll; simp only [Go.Proofs.Ytjdfjlgjpjgnhaa.ruleAll] at C))
    go_ret
    exact ⟨rfl, M.below⟩
  · go_enter Try.func7, Try.ntmps7
    go_wp2_with (first | ((with_reducible apply wpM_box' M 42 (bkV p1 c1 p2 c2 ns.length ls.length)); rfl; exact ⟨rfl, rfl⟩; clear M; (try clear C); intro bb w9 h_bb M; have C := M.ruleAll; simp only [Go.Proofs.Ytjdfjlgjpjgnhaa.ruleAll] at C) | ((with_reducible apply wpM_lda' M 0 42 0 (bkV p1 c1 p2 c2 ns.length ls.length)); rfl; rfl; rfl; exact ⟨rfl, inf_bk0.trans (congrArg some (bkv_size ..).symm), _, und_bk0, rfl⟩; exact whole_of rfl) | (go_at_call 20; fail))
    refine (HS _ M.below).mono ?_
    rintro e w1 ⟨r, rfl, hr, hb⟩
    have M9 := M.later hb
    clear M; (try clear C)
    have M := M9
    clear M9 hb
    have C := M.ruleAll; simp only [Go.Proofs.Ytjdfjlgjpjgnhaa.ruleAll] at C
    clear HS
    by_cases hneg : r < 0
    · go_wp2
      go_ret
      exact ⟨rfl, M.below⟩
    · obtain ⟨_, q1, q2, q3⟩ := hr (by omega)
      have HB : BkIn ns ls := ⟨by omega, by omega, fun x hx => by have := q2 x hx; omega, HBY.out⟩
      clear hr q2
      have HT := fun w1 (hb : Below w.heap.size w w1) => toBook_any ns ls HB.n HB.m w1 p1 p2 c1 c2 (R1.out w1 hb) (R2.out w1 hb)
      have HS := Hid2.mk (fun w1 g1 g2 (h : BkHere ns ls w1 g1 g2) => specLoopNamed_any HB s (by omega) w1 h ns.length ls.length)
      have HP := Hid2.mk (fun w1 g1 g2 (h : BkHere ns ls w1 g1 g2) => implLoopNamed_any HB s (by omega) w1 h ns.length ls.length (Nat.le_refl _))
      have HE := Hid2.mk (fun w1 g1 g2 g3 g4 (h : BkHere ns ls w1 g1 g2) (h' : BkHere ns ls w1 g3 g4) => eqBookA_any HB w1 h h' ns.length ls.length ns.length ls.length)
      generalize loopR ns ls s = lr at HS HP
      obtain ⟨q, d⟩ := lr
      have HQ := fun w1 => eqSquare_any q.n q.t w1
      have hdd : (d == d) = true := by simp
      have hz := zero_sqs
      go_wp2_with (first | ((with_reducible apply wpM_lda' M 0 42 0 (bkV p1 c1 p2 c2 ns.length ls.length)); rfl; rfl; rfl; exact ⟨rfl, inf_bk0.trans (congrArg some (bkv_size ..).symm), _, und_bk0, rfl⟩; exact whole_of rfl) | (go_at_call 22; fail))
      refine (HT _ M.below).mono ?_
      rintro e w1 ⟨g1, g2, cs1, cs2, rfl, hg1, hg2, hs1, hs2, M'⟩
      have M9 := M.join2 M' (new_box2 hg1 hg2)
      clear M; (try clear C)
      have M := M9
      clear M9 M'
      have C := M.ruleAll; simp only [Go.Proofs.Ytjdfjlgjpjgnhaa.ruleAll] at C
      go_wp2_with (first | ((with_reducible apply wpM_lda' M 3 42 0 (bkV p1 c1 p2 c2 ns.length ls.length)); rfl; rfl; rfl; exact ⟨rfl, inf_bk0.trans (congrArg some (bkv_size ..).symm), _, und_bk0, rfl⟩; exact whole_of rfl) | (go_at_call 28; ((with_reducible refine (HS.out _ _ _ (BkHere.of M 0 1 (by decide) rfl rfl hs1 hs2)).mono ?_); rintro e w1 ⟨rfl, hb⟩; have hsz := M.size; (try (have G9 := G.later hb; clear G; have G := G9; clear G9)); have M9 := M.later hb; clear M; (try clear C); have M := M9; clear M9; have C := M.ruleAll; simp only [Go.Proofs.Ytjdfjlgjpjgnhaa.ruleAll] at C)) | ((with_reducible apply wpM_alloc' M 30 (sqs 0 fun _ _ => 0)); rfl; exact ⟨rfl, _, zero_sqs _, rfl⟩; clear M; (try clear C); intro b6 w9 h_b6 M; have C := M.ruleAll; simp only [Go.Proofs.Ytjdfjlgjpjgnhaa.ruleAll] at C) | ((with_reducible apply wpM_sta' M 0 30 (sqs q.n q.t)); rfl; rfl; rfl; rfl; (first | exact .inl (by assumption) | exact .inr rfl | exact .inr (by assumption)); exact ⟨rfl, inf_sqs.trans (congrArg some (sqs_size ..).symm), flat_sqs _ _⟩; (simp only [entCells, List.getElem?_cons_zero, List.getElem?_cons_succ, sqs_size, sqs_size]); clear M; (try clear C); intro w9 M; simp only [List.set_cons_zero, List.set_cons_succ, entBlk, entT, List.getElem?_cons_zero, List.getElem?_cons_succ] at M; have C := M.ruleAll; simp only [Go.Proofs.Ytjdfjlgjpjgnhaa.ruleAll] at C) | (go_at_call 22; fail))
      refine (HT _ M.below).mono ?_
      rintro e w1 ⟨g3, g4, cs3, cs4, rfl, hg3, hg4, hs3, hs4, M'⟩
      have M9 := M.join2 M' (new_box2 hg3 hg4)
      clear M; (try clear C)
      have M := M9
      clear M9 M'
      have C := M.ruleAll; simp only [Go.Proofs.Ytjdfjlgjpjgnhaa.ruleAll] at C
      go_wp2_with (first | ((with_reducible apply wpM_alloc' M 47 (bkZ)); rfl; exact ⟨rfl, _, zero_bok _, rfl⟩; clear M; (try clear C); intro b8 w9 h_b8 M; have C := M.ruleAll; simp only [Go.Proofs.Ytjdfjlgjpjgnhaa.ruleAll] at C) | ((with_reducible apply wpM_sta' M 0 47 (bkA g3 ns.length g4 ls.length ns.length ls.length)); rfl; rfl; rfl; rfl; (first | exact .inl (by assumption) | exact .inr rfl | exact .inr (by assumption)); exact ⟨rfl, inf_bok.trans (congrArg some (bok_size ..).symm), flat_bok _ _ _ _ _ _⟩; (simp only [entCells, List.getElem?_cons_zero, List.getElem?_cons_succ, bok_size, bkz_size]); clear M; (try clear C); intro w9 M; simp only [List.set_cons_zero, List.set_cons_succ, entBlk, entT, List.getElem?_cons_zero, List.getElem?_cons_succ] at M; have C := M.ruleAll; simp only [Go.Proofs.Ytjdfjlgjpjgnhaa.ruleAll] at C) | ((with_reducible apply wpM_lda' M 0 47 0 (bkA g3 ns.length g4 ls.length ns.length ls.length)); rfl; rfl; rfl; exact ⟨rfl, inf_bok.trans (congrArg some (bok_size ..).symm), _, und_bok, rfl⟩; exact whole_of rfl) | (go_at_call 29; ((with_reducible refine (HP.out _ _ _ (BkHere.of M 1 2 (by decide) rfl rfl hs3 hs4)).mono ?_); rintro e w1 ⟨rfl, hb⟩; have hsz := M.size; (try (have G9 := G.later hb; clear G; have G := G9; clear G9)); have M9 := M.later hb; clear M; (try clear C); have M := M9; clear M9; have C := M.ruleAll; simp only [Go.Proofs.Ytjdfjlgjpjgnhaa.ruleAll] at C)) | ((with_reducible apply wpM_alloc' M 30 (sqs 0 fun _ _ => 0)); rfl; exact ⟨rfl, _, zero_sqs _, rfl⟩; clear M; (try clear C); intro b9 w9 h_b9 M; have C := M.ruleAll; simp only [Go.Proofs.Ytjdfjlgjpjgnhaa.ruleAll] at C) | ((with_reducible apply wpM_sta' M 0 30 (sqs q.n q.t)); rfl; rfl; rfl; rfl; (first | exact .inl (by assumption) | exact .inr rfl | exact .inr (by assumption)); exact ⟨rfl, inf_sqs.trans (congrArg some (sqs_size ..).symm), flat_sqs _ _⟩; (simp only [entCells, List.getElem?_cons_zero, List.getElem?_cons_succ, sqs_size, sqs_size]); clear M; (try clear C); intro w9 M; simp only [List.set_cons_zero, List.set_cons_succ, entBlk, entT, List.getElem?_cons_zero, List.getElem?_cons_succ] at M; have C := M.ruleAll; simp only [Go.Proofs.Ytjdfjlgjpjgnhaa.ruleAll] at C) | ((with_reducible apply wpM_lda' M 0 30 0 (sqs q.n q.t)); rfl; rfl; rfl; exact ⟨rfl, inf_sqs.trans (congrArg some (sqs_size ..).symm), _, und_sqs, rfl⟩; exact whole_of rfl) | ((with_reducible apply wpM_lda' M 4 30 0 (sqs q.n q.t)); rfl; rfl; rfl; exact ⟨rfl, inf_sqs.trans (congrArg some (sqs_size ..).symm), _, und_sqs, rfl⟩; exact whole_of rfl) | (go_at_call 30; ((with_reducible refine (HQ _).mono ?_); rintro e w1 ⟨rfl, hb⟩; have hsz := M.size; (try (have G9 := G.later hb; clear G; have G := G9; clear G9)); have M9 := M.later hb; clear M; (try clear C); have M := M9; clear M9; have C := M.ruleAll; simp only [Go.Proofs.Ytjdfjlgjpjgnhaa.ruleAll] at C)))
      apply wp_region_mmf1 M [0, 1] 2 3 _ (StBk ns ls) (by kernel_rfl) (by kernel_rfl) rfl rfl rfl
      case ht => (repeat (first | exact wpTextG_nil | (apply wpTextG_cons; (intro g9 w2 hG; obtain ⟨Lg9, hSt9, G⟩ := hG; have M := G.suffix; have C := M.ruleAll; simp only [Go.Proofs.Ytjdfjlgjpjgnhaa.ruleAll] at C; go_wp2_with (first | ((with_reducible apply wpM_lda' M 1 47 0 (bkA g3 ns.length g4 ls.length ns.length ls.length)); rfl; rfl; rfl; exact ⟨rfl, inf_bok.trans (congrArg some (bok_size ..).symm), _, und_bok, rfl⟩; exact whole_of rfl) | ((with_reducible apply wpM_lda' M 7 42 0 (bkV p1 c1 p2 c2 ns.length ls.length)); rfl; rfl; rfl; exact ⟨rfl, inf_bk0.trans (congrArg some (bkv_size ..).symm), _, und_bk0, rfl⟩; exact whole_of rfl)); exact ⟨rfl, rfl, Lg9, hSt9, G⟩); rfl)))
      case hA =>
        intro Lg w2 h M
        obtain rfl : Lg = [] := h
        refine yield_walk (ops := #[]) rfl rfl (by simp [Act.put]) ?_
        simp only [List.nil_append] at M
        go_wp2_with (first | (go_at_call 22; fail))
        refine (HT _ M.below).mono ?_
        rintro e w1 ⟨g5, g6, cs5, cs6, rfl, hg5, hg6, hs5, hs6, M'⟩
        have M9 := M.join2 M' (new_box2 hg5 hg6)
        go_wp2
        exact ⟨_, ⟨g5, g6, cs5, cs6, rfl, hs5, hs6, rfl⟩, M9⟩
      clear M; (try clear C)
      intro v Lg w2 h M
      obtain ⟨g5, g6, cs5, cs6, rfl, hs5, hs6, rfl⟩ := h
      simp only [List.drop_succ_cons, List.drop_zero, List.cons_append, List.nil_append] at M ⊢
      go_wp2_with (first | (go_at_call 24; ((with_reducible refine (HE.out _ _ _ _ _ (BkHere.of M 4 5 (by decide) rfl rfl hs3 hs4) (BkHere.of M 0 1 (by decide) rfl rfl hs5 hs6)).mono ?_); rintro e w1 ⟨rfl, hb⟩; have hsz := M.size; (try (have G9 := G.later hb; clear G; have G := G9; clear G9)); have M9 := M.later hb; clear M; (try clear C); have M := M9; clear M9; have C := M.ruleAll; simp only [Go.Proofs.Ytjdfjlgjpjgnhaa.ruleAll] at C)))
      go_ret
      exact ⟨rfl, M.below⟩
end Go.Proofs.Ytjdfjlgjpjgnhaa
