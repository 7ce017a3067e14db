/- An identity is read from its text, on both sides: contracts. -/
import Derived.Test.YtpmemoabkbmljaaDoorC86
import Derived.Test.YtpmemoabkbmljaaDoorK19
namespace Go.Proofs.YtpmemoabkbmljaaDoor
set_option linter.unusedSimpArgs false
set_option linter.unusedVariables false
open Go Go.RowKit

/-- What a reader of identities hands back. -/
def RdIPost (o : Option (List Nat × List Nat)) (w : World) (e : Ending) (w' : World) : Prop :=
  match o with
  | none => ∃ p1 c1 p2 c2 n m, e = .returned (.tuple #[.agg (idV p1 c1 p2 c2 n m), .bool false]) ∧ Below w.heap.size w w'
  | some (xs, ys) => ∃ p1 c1 p2 c2, e = .returned (.tuple #[.agg (idV p1 c1 p2 c2 xs.length ys.length), .bool true]) ∧ Mm no w w' [.row w.heap.size (.slice p1 xs.length c1) xs.length (u8s xs) 5 1, .row w.heap.size (.slice p2 ys.length c2) ys.length (u8s ys) 5 1]
/-- A call hands back two rows in new memory. -/
theorem Mm.joinRows {D : Nat → Prop} {w0 w w' : World} {L : List Ent} {v1 v2 : Value} {n1 n2 : Nat} {xs1 xs2 : List Value} {e1 e2 s1 s2 : Nat} (M : Mm D w0 w L) (M' : Mm no w w' [.row w.heap.size v1 n1 xs1 e1 s1, .row w.heap.size v2 n2 xs2 e2 s2]) : Mm D w0 w' (.row w.heap.size v1 n1 xs1 e1 s1 :: .row w.heap.size v2 n2 xs2 e2 s2 :: L) :=
  M.join M' fun x hx b hb => by
    simp only [List.mem_cons, List.not_mem_nil, or_false] at hx
    rcases hx with rfl | rfl
    · exact place_row (M'.row 0 rfl) b hb
    · exact place_row (M'.row 1 rfl) b hb
theorem build_id0 (w : World) : (Instr.build 49 #[]).run Tryd.prog w = .ok (.agg (idV none 0 none 0 0 0)) w := by kernel_rfl
theorem build_id2 (p1 : Option Addr) (c1 : Nat) (p2 : Option Addr) (c2 n m : Nat) (w : World) : (Instr.build 49 #[(0, .slice p1 n c1), (1, .slice p2 m c2)]).run Tryd.prog w = .ok (.agg (idV p1 c1 p2 c2 n m)) w := by kernel_rfl
theorem build_wd (s : ByteArray) (w : World) : (Instr.build 91 #[(0, .string s)]).run Tryd.prog w = .ok (.agg #[.string s, .int .i64 0]) w := by kernel_rfl
theorem wd_start (l : List Nat) : (#[.string (str l), .int .i64 0] : Array Value) = wdA l 0 := rfl

theorem idT_byts {xs ys : List Nat} (h : isId xs ys = true) : Byts (idT xs ys) := by
  obtain ⟨hx, hy⟩ := isId_iff.1 h
  intro c hc
  unfold idT at hc
  simp only [List.mem_append, List.mem_singleton] at hc
  rcases hc with (hc | rfl) | hc
  · exact (txB_ok hx).2 c hc
  · omega
  · exact (txB_ok hy).2 c hc

set_option maxRecDepth 100000 in
set_option maxHeartbeats 4000000 in
theorem parseIdentity_any (l : List Nat) (hlm : l.length ≤ maxLen) (hb : Byts l) (w : World) : Calls Tryd.prog 50 #[.string (str l)] w (RdIPost (rdI l) w) := by
  have M := Mm.start no w
  have hsz := str_size l
  have hm : l.length ≤ 9223372036854775807 := Nat.le_trans hlm (by decide)
  have HR := Hid2.mk (show rdI l = (if 240 < l.length then none else if l.getD (termOf l (partK l l.length) 0).2 0 ≠ 61 then none else if isId (termOf l (partK l l.length) 0).1 (termOf l (partK l l.length) ((termOf l (partK l l.length) 0).2 + 1)).1 = true ∧ idT (termOf l (partK l l.length) 0).1 (termOf l (partK l l.length) ((termOf l (partK l l.length) 0).2 + 1)).1 = l then some ((termOf l (partK l l.length) 0).1, (termOf l (partK l l.length) ((termOf l (partK l l.length) 0).2 + 1)).1) else none) from rfl)
  clear hlm
  generalize rdI l = res at HR ⊢
  by_cases hlen : 240 < l.length
  · have h1 : (240 : Int) < (l.length : Int) := by omega
    have hr := HR.out
    rw [if_pos hlen] at hr
    subst hr
    clear HR hb
    go_enter Tryd.func50, Tryd.ntmps50
    go_wp2_with (first | ((with_reducible apply wpM_alloc' M 49 (idV none 0 none 0 0 0)); rfl; exact ⟨rfl, _, zero_idn _, rfl⟩; clear M; (try clear C); intro bz w9 h_bz M; have C := M.ruleAll; simp only [Go.Proofs.YtpmemoabkbmljaaDoor.ruleAll] at C) | (refine wpList_build 49 _ rfl rfl [] rfl _ (build_id0 _) ?_) | ((with_reducible apply wpM_sta' M 0 49 (idV none 0 none 0 0 0)); rfl; rfl; rfl; rfl; (first | exact .inl (by assumption) | exact .inr rfl | exact .inr (by assumption)); exact ⟨rfl, inf_idn.trans (congrArg some (idv_size ..).symm), flat_idv _ _ _ _ _ _⟩; (simp only [entCells, List.getElem?_cons_zero, List.getElem?_cons_succ, idv_size, idv_size]); clear M; (try clear C); intro w9 M; simp only [List.set_cons_zero, List.set_cons_succ, entBlk, entT, List.getElem?_cons_zero, List.getElem?_cons_succ] at M; have C := M.ruleAll; simp only [Go.Proofs.YtpmemoabkbmljaaDoor.ruleAll] at C))
    refine bodyPost_ret (v := .tuple #[.agg (idV none 0 none 0 0 0), .bool false]) (by exact results_part2 rfl _ _ _ _ (idV none 0 none 0 0 0) _ rfl und_idn rfl inf_idn (cells_of_blk0 (M.box 0 rfl)) _ rfl) rfl ?_
    exact ⟨_, _, _, _, _, _, rfl, M.below⟩
  · have h1 : ¬ (240 : Int) < (l.length : Int) := by omega
    have hl : l.length ≤ 1000 := by omega
    have HT1 := Hid2.mk (fun bw w1 h => term_any l hl hb bw 0 (Nat.zero_le _) w1 h)
    have b1 := termOf_b l.length (fun k => partK_b l l.length k) (k := 0) (Nat.zero_le _) (by omega)
    have HR2 := Hid2.mk (show res = _ from HR.out.trans (if_neg hlen))
    have HB2 := Hid2.mk (fun (h : (termOf l (partK l l.length) 0).2 + 1 ≤ l.length) => termOf_b l.length (fun k => partK_b l l.length k) (k := (termOf l (partK l l.length) 0).2 + 1) h (by omega))
    have HT2 := Hid2.mk (fun (h : (termOf l (partK l l.length) 0).2 + 1 ≤ l.length) bw w1 hb' => term_any l hl hb bw ((termOf l (partK l l.length) 0).2 + 1) h w1 hb')
    clear HR hlen
    generalize termOf l (partK l l.length) ((termOf l (partK l l.length) 0).2 + 1) = r2 at HR2 HT2 HB2
    generalize termOf l (partK l l.length) 0 = r1 at HT1 b1 HR2 HT2 HB2
    obtain ⟨xs, k1⟩ := r1
    obtain ⟨ys, k2⟩ := r2
    simp only at HT1 b1 HR2 HT2 HB2
    have hk1 := b1.le
    have hxl := b1.len
    simp only at hk1 hxl
    have HN := Hid2.mk (fun bw w1 h => next_any l hl hb k1 hk1 bw w1 h)
    go_enter Tryd.func50, Tryd.ntmps50
    go_wp2_with (first | ((with_reducible apply wpM_alloc' M 49 (idV none 0 none 0 0 0)); rfl; exact ⟨rfl, _, zero_idn _, rfl⟩; clear M; (try clear C); intro bz w9 h_bz M; have C := M.ruleAll; simp only [Go.Proofs.YtpmemoabkbmljaaDoor.ruleAll] at C) | (refine wpList_build 91 _ rfl rfl [(0, .string (str l))] rfl _ (build_wd _ _) ?_) | ((with_reducible apply wpM_box' M 91 (wdA l 0)); rfl; exact ⟨rfl, rfl⟩; clear M; (try clear C); intro bw w9 h_bw M; have C := M.ruleAll; simp only [Go.Proofs.YtpmemoabkbmljaaDoor.ruleAll] at C) | (go_at_call 65; fail))
    refine (HT1.out bw _ (M.box 0 rfl)).mono ?_
    rintro e w1 ⟨v, rfl, M'⟩
    have M9 := M.callw 0 rfl (.inl (by assumption)) M'
    simp only [List.set_cons_zero] at M9
    obtain ⟨pp1, cap1, rfl⟩ := own_form (M9.row 0 rfl)
    clear M; (try clear C)
    have M := M9
    clear M9 M' HT1
    have C := M.ruleAll; simp only [Go.Proofs.YtpmemoabkbmljaaDoor.ruleAll] at C
    go_wp2_with (first | (go_at_call 66; fail))
    refine (HN.out bw _ (M.box 1 rfl)).mono ?_
    rintro e w3 ⟨rfl, M'⟩
    have M9 := M.wrote 1 rfl (.inl (by assumption)) M'.kept.grown (M'.box 0 rfl)
    simp only [List.set_cons_zero, List.set_cons_succ] at M9
    clear M; (try clear C)
    have M := M9
    clear M9 M' HN
    have C := M.ruleAll; simp only [Go.Proofs.YtpmemoabkbmljaaDoor.ruleAll] at C
    by_cases hc : l.getD k1 0 = 61
    · have hlt : k1 < l.length := getD_lt (by omega)
      have hnx : nxK l k1 = k1 + 1 := if_pos hlt
      have HT3 := Hid2.mk (fun bw w1 h => HT2.out (by omega) bw w1 h)
      have HR3 := Hid2.mk (show res = _ from HR2.out.trans (if_neg fun h => h hc))
      have b2 := (HB2.out (by omega)).len
      have b2' := (HB2.out (by omega)).le
      simp only at b2 b2'
      have hyl : ys.length ≤ 3000 := by omega
      rw [hc]
      rw [hnx] at M
      clear HR2 HT2 HB2 hc hnx b2 b2' b1
      have C := M.ruleAll; simp only [Go.Proofs.YtpmemoabkbmljaaDoor.ruleAll] at C
      go_wp2_with (first | (go_at_call 65; fail))
      refine (HT3.out bw _ (M.box 1 rfl)).mono ?_
      rintro e w4 ⟨v, rfl, M'⟩
      have M9 := M.callw 1 rfl (.inl (by assumption)) M'
      simp only [List.set_cons_zero, List.set_cons_succ] at M9
      obtain ⟨pp2, cap2, rfl⟩ := own_form (M9.row 0 rfl)
      clear M; (try clear C)
      have M := M9
      clear M9 M' HT3
      have C := M.ruleAll; simp only [Go.Proofs.YtpmemoabkbmljaaDoor.ruleAll] at C
      have HID := Hid2.mk (fun w1 r1 r2 => isIdentity_any xs ys (by omega) (by omega) w1 pp1 pp2 cap1 cap2 r1 r2)
      cases hid : isId xs ys with
      | false =>
        rw [hid] at HID
        have hr := HR3.out
        rw [if_neg (by rw [hid]; rintro ⟨h, _⟩; cases h)] at hr
        subst hr
        clear HR3 hid
        go_wp2_with (first | (refine wpList_build 49 _ rfl rfl [(0, .slice pp1 xs.length cap1), (1, .slice pp2 ys.length cap2)] rfl _ (build_id2 _ _ _ _ _ _ _) ?_) | (have hq := w4; clear hq; ((with_reducible apply wpM_alloc' M 49 (idV none 0 none 0 0 0)); rfl; exact ⟨rfl, _, zero_idn _, rfl⟩; clear M; (try clear C); intro bi w9 h_bi M; have C := M.ruleAll; simp only [Go.Proofs.YtpmemoabkbmljaaDoor.ruleAll] at C)) | ((with_reducible apply wpM_sta' M 0 49 (idV pp1 cap1 pp2 cap2 xs.length ys.length)); rfl; rfl; rfl; rfl; (first | exact .inl (by assumption) | exact .inr rfl | exact .inr (by assumption)); exact ⟨rfl, inf_idn.trans (congrArg some (idv_size ..).symm), flat_idv _ _ _ _ _ _⟩; (simp only [entCells, List.getElem?_cons_zero, List.getElem?_cons_succ, idv_size, idv_size]); clear M; (try clear C); intro w9 M; simp only [List.set_cons_zero, List.set_cons_succ, entBlk, entT, List.getElem?_cons_zero, List.getElem?_cons_succ] at M; have C := M.ruleAll; simp only [Go.Proofs.YtpmemoabkbmljaaDoor.ruleAll] at C) | ((with_reducible apply wpM_lda' M 0 49 0 (idV pp1 cap1 pp2 cap2 xs.length ys.length)); rfl; rfl; rfl; exact ⟨rfl, inf_idn.trans (congrArg some (idv_size ..).symm), _, und_idn, rfl⟩; exact whole_of rfl) | (go_at_call 67; ((with_reducible refine (HID.out _ (u8_rdq rfl (M.row 2 rfl)) (u8_rdq rfl (M.row 1 rfl))).mono ?_); rintro e w5 ⟨rfl, hb⟩; have hsz := M.size; (try (have G9 := G.later hb; clear G; have G := G9; clear G9)); have M9 := M.later hb; clear M; (try clear C); have M := M9; clear M9; have C := M.ruleAll; simp only [Go.Proofs.YtpmemoabkbmljaaDoor.ruleAll] at C)) | (refine wpList_build 49 _ rfl rfl [] rfl _ (build_id0 _) ?_) | ((with_reducible apply wpM_sta' M 4 49 (idV none 0 none 0 0 0)); rfl; rfl; rfl; rfl; (first | exact .inl (by assumption) | exact .inr rfl | exact .inr (by assumption)); exact ⟨rfl, inf_idn.trans (congrArg some (idv_size ..).symm), flat_idv _ _ _ _ _ _⟩; (simp only [entCells, List.getElem?_cons_zero, List.getElem?_cons_succ, idv_size, idv_size]); clear M; (try clear C); intro w9 M; simp only [List.set_cons_zero, List.set_cons_succ, entBlk, entT, List.getElem?_cons_zero, List.getElem?_cons_succ] at M; have C := M.ruleAll; simp only [Go.Proofs.YtpmemoabkbmljaaDoor.ruleAll] at C))
        refine bodyPost_ret (v := .tuple #[.agg (idV none 0 none 0 0 0), .bool false]) (by exact results_part2 rfl _ _ _ _ (idV none 0 none 0 0 0) _ rfl und_idn rfl inf_idn (cells_of_blk0 (M.box 4 rfl)) _ rfl) rfl ?_
        exact ⟨_, _, _, _, _, _, rfl, M.below⟩
      | true =>
        rw [hid] at HID
        obtain ⟨hX, hY⟩ := isId_iff.1 hid
        have HTX := Hid2.mk (fun w1 r1 r2 => identityText_any xs ys hX hY w1 pp1 pp2 cap1 cap2 r1 r2)
        have hse := str_eq (idT_byts hid) hb
        by_cases heq : idT xs ys = l
        · have hse' : ((str (idT xs ys)).toList == (str l).toList) = true := by rw [hse]; exact decide_eq_true heq
          have hr := HR3.out
          rw [if_pos ⟨hid, heq⟩] at hr
          subst hr
          clear HR3 hid hse heq hX hY
          generalize str (idT xs ys) = si at *
          go_wp2_with (first | (refine wpList_build 49 _ rfl rfl [(0, .slice pp1 xs.length cap1), (1, .slice pp2 ys.length cap2)] rfl _ (build_id2 _ _ _ _ _ _ _) ?_) | (have hq := w4; clear hq; ((with_reducible apply wpM_alloc' M 49 (idV none 0 none 0 0 0)); rfl; exact ⟨rfl, _, zero_idn _, rfl⟩; clear M; (try clear C); intro bi w9 h_bi M; have C := M.ruleAll; simp only [Go.Proofs.YtpmemoabkbmljaaDoor.ruleAll] at C)) | ((with_reducible apply wpM_sta' M 0 49 (idV pp1 cap1 pp2 cap2 xs.length ys.length)); rfl; rfl; rfl; rfl; (first | exact .inl (by assumption) | exact .inr rfl | exact .inr (by assumption)); exact ⟨rfl, inf_idn.trans (congrArg some (idv_size ..).symm), flat_idv _ _ _ _ _ _⟩; (simp only [entCells, List.getElem?_cons_zero, List.getElem?_cons_succ, idv_size, idv_size]); clear M; (try clear C); intro w9 M; simp only [List.set_cons_zero, List.set_cons_succ, entBlk, entT, List.getElem?_cons_zero, List.getElem?_cons_succ] at M; have C := M.ruleAll; simp only [Go.Proofs.YtpmemoabkbmljaaDoor.ruleAll] at C) | ((with_reducible apply wpM_lda' M 0 49 0 (idV pp1 cap1 pp2 cap2 xs.length ys.length)); rfl; rfl; rfl; exact ⟨rfl, inf_idn.trans (congrArg some (idv_size ..).symm), _, und_idn, rfl⟩; exact whole_of rfl) | (go_at_call 67; ((with_reducible refine (HID.out _ (u8_rdq rfl (M.row 2 rfl)) (u8_rdq rfl (M.row 1 rfl))).mono ?_); rintro e w5 ⟨rfl, hb⟩; have hsz := M.size; (try (have G9 := G.later hb; clear G; have G := G9; clear G9)); have M9 := M.later hb; clear M; (try clear C); have M := M9; clear M9; have C := M.ruleAll; simp only [Go.Proofs.YtpmemoabkbmljaaDoor.ruleAll] at C)) | (go_at_call 68; ((with_reducible refine (HTX.out _ (u8_rdq rfl (M.row 2 rfl)) (u8_rdq rfl (M.row 1 rfl))).mono ?_); rintro e w5 ⟨rfl, hb⟩; have hsz := M.size; (try (have G9 := G.later hb; clear G; have G := G9; clear G9)); have M9 := M.later hb; clear M; (try clear C); have M := M9; clear M9; have C := M.ruleAll; simp only [Go.Proofs.YtpmemoabkbmljaaDoor.ruleAll] at C)) | ((with_reducible apply wpM_sta' M 4 49 (idV pp1 cap1 pp2 cap2 xs.length ys.length)); rfl; rfl; rfl; rfl; (first | exact .inl (by assumption) | exact .inr rfl | exact .inr (by assumption)); exact ⟨rfl, inf_idn.trans (congrArg some (idv_size ..).symm), flat_idv _ _ _ _ _ _⟩; (simp only [entCells, List.getElem?_cons_zero, List.getElem?_cons_succ, idv_size, idv_size]); clear M; (try clear C); intro w9 M; simp only [List.set_cons_zero, List.set_cons_succ, entBlk, entT, List.getElem?_cons_zero, List.getElem?_cons_succ] at M; have C := M.ruleAll; simp only [Go.Proofs.YtpmemoabkbmljaaDoor.ruleAll] at C))
          refine bodyPost_ret (v := .tuple #[.agg (idV pp1 cap1 pp2 cap2 xs.length ys.length), .bool true]) (by exact results_part2 rfl _ _ _ _ (idV pp1 cap1 pp2 cap2 xs.length ys.length) _ rfl und_idn rfl inf_idn (cells_of_blk0 (M.box 4 rfl)) _ rfl) rfl ?_
          exact ⟨pp1, cap1, pp2, cap2, rfl, M.sub [2, 1] (by decide)⟩
        · have hse' : ((str (idT xs ys)).toList == (str l).toList) = false := by rw [hse]; exact decide_eq_false heq
          have hr := HR3.out
          rw [if_neg (fun h => heq h.2)] at hr
          subst hr
          clear HR3 hid hse heq hX hY
          generalize str (idT xs ys) = si at *
          go_wp2_with (first | (refine wpList_build 49 _ rfl rfl [(0, .slice pp1 xs.length cap1), (1, .slice pp2 ys.length cap2)] rfl _ (build_id2 _ _ _ _ _ _ _) ?_) | (have hq := w4; clear hq; ((with_reducible apply wpM_alloc' M 49 (idV none 0 none 0 0 0)); rfl; exact ⟨rfl, _, zero_idn _, rfl⟩; clear M; (try clear C); intro bi w9 h_bi M; have C := M.ruleAll; simp only [Go.Proofs.YtpmemoabkbmljaaDoor.ruleAll] at C)) | ((with_reducible apply wpM_sta' M 0 49 (idV pp1 cap1 pp2 cap2 xs.length ys.length)); rfl; rfl; rfl; rfl; (first | exact .inl (by assumption) | exact .inr rfl | exact .inr (by assumption)); exact ⟨rfl, inf_idn.trans (congrArg some (idv_size ..).symm), flat_idv _ _ _ _ _ _⟩; (simp only [entCells, List.getElem?_cons_zero, List.getElem?_cons_succ, idv_size, idv_size]); clear M; (try clear C); intro w9 M; simp only [List.set_cons_zero, List.set_cons_succ, entBlk, entT, List.getElem?_cons_zero, List.getElem?_cons_succ] at M; have C := M.ruleAll; simp only [Go.Proofs.YtpmemoabkbmljaaDoor.ruleAll] at C) | ((with_reducible apply wpM_lda' M 0 49 0 (idV pp1 cap1 pp2 cap2 xs.length ys.length)); rfl; rfl; rfl; exact ⟨rfl, inf_idn.trans (congrArg some (idv_size ..).symm), _, und_idn, rfl⟩; exact whole_of rfl) | (go_at_call 67; ((with_reducible refine (HID.out _ (u8_rdq rfl (M.row 2 rfl)) (u8_rdq rfl (M.row 1 rfl))).mono ?_); rintro e w5 ⟨rfl, hb⟩; have hsz := M.size; (try (have G9 := G.later hb; clear G; have G := G9; clear G9)); have M9 := M.later hb; clear M; (try clear C); have M := M9; clear M9; have C := M.ruleAll; simp only [Go.Proofs.YtpmemoabkbmljaaDoor.ruleAll] at C)) | (go_at_call 68; ((with_reducible refine (HTX.out _ (u8_rdq rfl (M.row 2 rfl)) (u8_rdq rfl (M.row 1 rfl))).mono ?_); rintro e w5 ⟨rfl, hb⟩; have hsz := M.size; (try (have G9 := G.later hb; clear G; have G := G9; clear G9)); have M9 := M.later hb; clear M; (try clear C); have M := M9; clear M9; have C := M.ruleAll; simp only [Go.Proofs.YtpmemoabkbmljaaDoor.ruleAll] at C)) | (refine wpList_build 49 _ rfl rfl [] rfl _ (build_id0 _) ?_) | ((with_reducible apply wpM_sta' M 4 49 (idV none 0 none 0 0 0)); rfl; rfl; rfl; rfl; (first | exact .inl (by assumption) | exact .inr rfl | exact .inr (by assumption)); exact ⟨rfl, inf_idn.trans (congrArg some (idv_size ..).symm), flat_idv _ _ _ _ _ _⟩; (simp only [entCells, List.getElem?_cons_zero, List.getElem?_cons_succ, idv_size, idv_size]); clear M; (try clear C); intro w9 M; simp only [List.set_cons_zero, List.set_cons_succ, entBlk, entT, List.getElem?_cons_zero, List.getElem?_cons_succ] at M; have C := M.ruleAll; simp only [Go.Proofs.YtpmemoabkbmljaaDoor.ruleAll] at C))
          refine bodyPost_ret (v := .tuple #[.agg (idV none 0 none 0 0 0), .bool false]) (by exact results_part2 rfl _ _ _ _ (idV none 0 none 0 0 0) _ rfl und_idn rfl inf_idn (cells_of_blk0 (M.box 4 rfl)) _ rfl) rfl ?_
          exact ⟨_, _, _, _, _, _, rfl, M.below⟩
    · have hr := HR2.out
      rw [if_pos hc] at hr
      subst hr
      have e4 : (((l.getD k1 0 : Nat) : Int) == (61 : Nat)) = false := neI hc
      have e5 : (((l.getD k1 0 : Nat) : Int) != (61 : Nat)) = true := by rw [bne, e4]; rfl
      have e6 : ((l.getD k1 0 : Nat) : Int) ≠ 61 := by have := hc; omega
      generalize l.getD k1 0 = b at *
      clear HR2 HT2 HB2 hc b1
      go_wp2_with (first | (refine wpList_build 49 _ rfl rfl [] rfl _ (build_id0 _) ?_) | ((with_reducible apply wpM_sta' M 2 49 (idV none 0 none 0 0 0)); rfl; rfl; rfl; rfl; (first | exact .inl (by assumption) | exact .inr rfl | exact .inr (by assumption)); exact ⟨rfl, inf_idn.trans (congrArg some (idv_size ..).symm), flat_idv _ _ _ _ _ _⟩; (simp only [entCells, List.getElem?_cons_zero, List.getElem?_cons_succ, idv_size, idv_size]); clear M; (try clear C); intro w9 M; simp only [List.set_cons_zero, List.set_cons_succ, entBlk, entT, List.getElem?_cons_zero, List.getElem?_cons_succ] at M; have C := M.ruleAll; simp only [Go.Proofs.YtpmemoabkbmljaaDoor.ruleAll] at C))
      refine bodyPost_ret (v := .tuple #[.agg (idV none 0 none 0 0 0), .bool false]) (by exact results_part2 rfl _ _ _ _ (idV none 0 none 0 0 0) _ rfl und_idn rfl inf_idn (cells_of_blk0 (M.box 2 rfl)) _ rfl) rfl ?_
      exact ⟨_, _, _, _, _, _, rfl, M.below⟩
end Go.Proofs.YtpmemoabkbmljaaDoor
