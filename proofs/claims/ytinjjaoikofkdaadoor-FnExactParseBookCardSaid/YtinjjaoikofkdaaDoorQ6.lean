/- The book of a text, for the program: contract. Printed by gen/p7.py. -/
import Derived.Test.YtinjjaoikofkdaaDoorQ5
import Derived.Test.YtinjjaoikofkdaaDoorQ4
namespace Go.Proofs.YtinjjaoikofkdaaDoor
set_option linter.unusedSimpArgs false
set_option linter.unusedVariables false
open Go Go.RowKit

/-- strings.Split: a new row of the pieces. -/
theorem splitP_any (l : List Nat) (hb : Byts l) (hl : l.length ≤ 1048576) (m : Int) (w : World) (hm : w.cell? ⟨Tryd.gML, 0, none⟩ = some (.int .i64 m)) :
    Calls Tryd.prog 12 #[.string (str l), .string ⟨#[59]⟩] w (SpPost (pcs 59 l) w) := by
  refine (split_any l hb hl m w hm).mono ?_
  rintro e w' ⟨rfl, rfl⟩
  have hle := pcs_le 59 l
  have M := ((Mm.start no w).alloc (txL (pcs 59 l)).toArray 9).asRow 0 rfl w.heap.size (pcs 59 l).length 1 (Nat.le_refl _) (by simp [txL]) (by unfold maxLen; omega)
  exact ⟨_, _, rfl, M⟩

def pkR : Nat → List Nat
  | 0 => []
  | 1 => [0]
  | 2 => []
  | 3 => [2]
  | 4 => [0, 1, 2, 3]
  | 5 => []
  | 6 => [5]
  | 7 => []
  | 8 => [7]
  | 9 => [0, 1, 2, 3, 4, 5, 6, 7, 8]
  | 10 => [0, 1, 2, 3, 4, 5, 6]
  | _ => []
def pkP (pp1 : Option Addr) (c1 : Nat) (pp2 : Option Addr) (c2 k : Nat) (NR SR : List Value) (s0 : ByteArray) (q : Sqr) (b4 B0 : Nat) : Nat → (Nat → Bool) → (Nat → Value) → List Ent → Prop
  | 0, _, g, E => g 0 = .pointer (some ⟨b4, 0, none⟩) ∧ E = []
  | 1, _, g, E => g 1 = .slice pp1 k c1 ∧ E = []
  | 2, _, g, E => g 2 = .string s0 ∧ E = []
  | 3, _, g, E => ∃ bi, g 3 = .slice (some ⟨bi, 0, none⟩) 1 1 ∧ E = [.box bi (#[.string s0]) 9]
  | 4, _, g, E => E = []
  | 5, _, g, E => g 5 = .pointer (some ⟨b4, 1, none⟩) ∧ E = []
  | 6, _, g, E => g 6 = .slice pp2 k c2 ∧ E = []
  | 7, _, g, E => g 7 = .agg (sqs q.n q.t) ∧ E = []
  | 8, _, g, E => ∃ bj, g 8 = .slice (some ⟨bj, 0, none⟩) 1 1 ∧ E = [.box bj (sqs q.n q.t) 36]
  | 9, _, g, E => E = []
  | 10, _, g, E => g 10 = .pointer (some ⟨b4, 0, none⟩) ∧ E = []
  | 11, D, g, E => E = [.row B0 (bif D 4 then g 4 else .slice pp1 k c1) (bif D 4 then k + 1 else k) (bif D 4 then NR ++ [Value.string s0] else NR) 9 1, .row B0 (bif D 9 then g 9 else .slice pp2 k c2) (bif D 9 then k + 1 else k) (bif D 9 then SR ++ (sqs q.n q.t).toList else SR) 36 101]
  | _, _, _, _ => False
def pkW (j : Nat) : List Nat := if j = 11 then [4, 9] else []
theorem pkS (pp1 : Option Addr) (c1 : Nat) (pp2 : Option Addr) (c2 k : Nat) (NR SR : List Value) (s0 : ByteArray) (q : Sqr) (b4 B0 : Nat) : Stable (pkP pp1 c1 pp2 c2 k NR SR s0 q b4 B0) pkR pkW := fun i k D g u E hki hkR hkW h => by
  match i with
  | 0 =>
    have e0 : updG g k u 0 = g 0 := updG_ne (g := g) (u := u) (Ne.symm hki)
    simp only [pkP, e0]; exact h
  | 1 =>
    have e1 : updG g k u 1 = g 1 := updG_ne (g := g) (u := u) (Ne.symm hki)
    simp only [pkP, e1]; exact h
  | 2 =>
    have e2 : updG g k u 2 = g 2 := updG_ne (g := g) (u := u) (Ne.symm hki)
    simp only [pkP, e2]; exact h
  | 3 =>
    have e3 : updG g k u 3 = g 3 := updG_ne (g := g) (u := u) (Ne.symm hki)
    simp only [pkP, e3]; exact h
  | 4 =>
    simp only [pkP, ]; exact h
  | 5 =>
    have e5 : updG g k u 5 = g 5 := updG_ne (g := g) (u := u) (Ne.symm hki)
    simp only [pkP, e5]; exact h
  | 6 =>
    have e6 : updG g k u 6 = g 6 := updG_ne (g := g) (u := u) (Ne.symm hki)
    simp only [pkP, e6]; exact h
  | 7 =>
    have e7 : updG g k u 7 = g 7 := updG_ne (g := g) (u := u) (Ne.symm hki)
    simp only [pkP, e7]; exact h
  | 8 =>
    have e8 : updG g k u 8 = g 8 := updG_ne (g := g) (u := u) (Ne.symm hki)
    simp only [pkP, e8]; exact h
  | 9 =>
    simp only [pkP, ]; exact h
  | 10 =>
    have e10 : updG g k u 10 = g 10 := updG_ne (g := g) (u := u) (Ne.symm hki)
    simp only [pkP, e10]; exact h
  | 11 =>
    have hkW' : k ∉ ([4, 9] : List Nat) := hkW
    simp only [List.mem_cons, List.not_mem_nil, or_false, not_or] at hkW'
    have e4 : updG g k u 4 = g 4 := updG_ne (by omega)
    have d4 : updD D k 4 = D 4 := updD_ne (by omega)
    have e9 : updG g k u 9 = g 9 := updG_ne (by omega)
    have d9 : updD D k 9 = D 9 := updD_ne (by omega)
    simp only [pkP, e4, d4, e9, d9]; exact h
  | n + 12 => exact h.elim

set_option maxRecDepth 100000 in
set_option maxHeartbeats 4000000 in
theorem implParseBook_any (l : List Nat) (hb : Byts l) (hl : l.length ≤ 1048576) (m : Int) (w : World) (hgl : Tryd.gML < w.heap.size) (hm : w.cell? ⟨Tryd.gML, 0, none⟩ = some (.int .i64 m)) : Calls Tryd.prog 5 #[.string (str l)] w fun e w' => BkNew (pbN l) (pbL l) (pbC l) w e w' := by
  have M := Mm.start no w
  have hcmp := str_eq hb (b := []) (fun x hx => by cases hx)
  have hbd := build_bkH
  by_cases h0 : l = []
  · subst h0
    have HR := Hid2.mk pb_nil
    clear hm hgl
    simp only [str_nil] at hcmp ⊢
    go_enter Tryd.func5, Tryd.ntmps5
    go_wp2_with (first | ((fail_if_success have := h_b2); ((with_reducible apply wpM_alloc' M 25 (bkV none 0 none 0 0 0)); rfl; exact ⟨rfl, _, zero_bkH _, rfl⟩; clear M; (try clear C); intro b2 w9 h_b2 M; have C := M.ruleAll; simp only [Go.Proofs.YtinjjaoikofkdaaDoor.ruleAll] at C)) | ((with_reducible apply wpM_alloc' M 25 (bkV none 0 none 0 0 0)); rfl; exact ⟨rfl, _, zero_bkH _, rfl⟩; clear M; (try clear C); intro b4 w9 h_b4 M; have C := M.ruleAll; simp only [Go.Proofs.YtinjjaoikofkdaaDoor.ruleAll] at C) | (refine wpList_build 25 _ rfl rfl [] rfl _ (build_bkH _) ?_) | ((with_reducible apply wpM_sta' M 0 25 (bkV none 0 none 0 0 0)); rfl; rfl; rfl; rfl; (first | exact .inl (by assumption) | exact .inr rfl | exact .inr (by assumption)); exact ⟨rfl, inf_bok.trans (congrArg some (bkv_size ..).symm), flat_bkv _ _ _ _ _ _⟩; (simp only [entCells, List.getElem?_cons_zero, List.getElem?_cons_succ, bkv_size, bkv_size]); clear M; (try clear C); intro w9 M; simp only [List.set_cons_zero, List.set_cons_succ, entBlk, entT, List.getElem?_cons_zero, List.getElem?_cons_succ] at M; have C := M.ruleAll; simp only [Go.Proofs.YtinjjaoikofkdaaDoor.ruleAll] at C) | ((with_reducible apply wpM_lda' M 0 25 0 (bkV none 0 none 0 0 0)); rfl; rfl; rfl; exact ⟨rfl, inf_bok.trans (congrArg some (bkv_size ..).symm), _, und_bok, rfl⟩; exact whole_of rfl) | ((with_reducible apply wpM_sta' M 1 25 (bkV none 0 none 0 0 0)); rfl; rfl; rfl; rfl; (first | exact .inl (by assumption) | exact .inr rfl | exact .inr (by assumption)); exact ⟨rfl, inf_bok.trans (congrArg some (bkv_size ..).symm), flat_bkv _ _ _ _ _ _⟩; (simp only [entCells, List.getElem?_cons_zero, List.getElem?_cons_succ, bkv_size, bkv_size]); clear M; (try clear C); intro w9 M; simp only [List.set_cons_zero, List.set_cons_succ, entBlk, entT, List.getElem?_cons_zero, List.getElem?_cons_succ] at M; have C := M.ruleAll; simp only [Go.Proofs.YtinjjaoikofkdaaDoor.ruleAll] at C))
    refine bodyPost_ret (v := .tuple #[.agg (bkV none 0 none 0 0 0), .int .i64 0]) (by exact results_part2 rfl _ _ _ _ (bkV none 0 none 0 0 0) _ rfl und_bok rfl inf_bok (cells_of_blk0 (M.box 1 rfl)) _ rfl) rfl ?_
    rw [HR.out.1, HR.out.2.1, HR.out.2.2]
    exact bkErrP M.below 0
  rw [decide_eq_false h0] at hcmp
  simp only [str_nil] at hcmp
  have hcmp : (str l).toList.isEmpty = false := by simpa using hcmp
  have HML := Hid2.mk (fun w1 (hb : Below w.heap.size w w1) => (hb.cell (p := ⟨Tryd.gML, 0, none⟩) hgl).trans hm)
  clear hm hgl
  have HS := Hid2.mk (fun w1 hb1 => splitP_any l hb hl m w1 (HML.out w1 hb1))
  have HNO0 := Hid2.mk (fun h => @pb_no l h0 h)
  have HYES0 := Hid2.mk (fun h => @pb_yes l h0 h)
  have HOKD := Hid2.mk (show PbOk l = ((pcs 59 l).length ≤ 20 ∧ (pcs 59 l).all okP = true ∧ isBk ((pcs 59 l).map nmP) ((pcs 59 l).map lpP) = true) from rfl)
  have HBK := Hid2.mk (fun h20 hall => @bkIn_parts l hl h20 hall)
  have HTX := Hid2.mk (fun hall => congrArg str (@bkT_parts l hb hall))
  have HB := Hid2.mk (fun i => pcs_getD_byt (c := 59) hb i)
  have HSZ := Hid2.mk (fun i => Nat.le_trans (@pcs_size 59 l i) hl)
  have hpos : 0 < (pcs 59 l).length := by rw [pcs_len]; omega
  have hle : (pcs 59 l).length ≤ 1048577 := Nat.le_trans (pcs_le 59 l) (by omega)
  generalize pcs 59 l = P at HS HOKD HBK HB HSZ hpos HYES0 HTX hle
  generalize str l = s at hcmp HS HTX
  clear hb h0
  go_enter Tryd.func5, Tryd.ntmps5
  go_wp2_with (first | ((fail_if_success have := h_b2); ((with_reducible apply wpM_alloc' M 25 (bkV none 0 none 0 0 0)); rfl; exact ⟨rfl, _, zero_bkH _, rfl⟩; clear M; (try clear C); intro b2 w9 h_b2 M; have C := M.ruleAll; simp only [Go.Proofs.YtinjjaoikofkdaaDoor.ruleAll] at C)) | ((with_reducible apply wpM_alloc' M 25 (bkV none 0 none 0 0 0)); rfl; exact ⟨rfl, _, zero_bkH _, rfl⟩; clear M; (try clear C); intro b4 w9 h_b4 M; have C := M.ruleAll; simp only [Go.Proofs.YtinjjaoikofkdaaDoor.ruleAll] at C) | (refine wpList_build 25 _ rfl rfl [] rfl _ (build_bkH _) ?_) | ((with_reducible apply wpM_sta' M 0 25 (bkV none 0 none 0 0 0)); rfl; rfl; rfl; rfl; (first | exact .inl (by assumption) | exact .inr rfl | exact .inr (by assumption)); exact ⟨rfl, inf_bok.trans (congrArg some (bkv_size ..).symm), flat_bkv _ _ _ _ _ _⟩; (simp only [entCells, List.getElem?_cons_zero, List.getElem?_cons_succ, bkv_size, bkv_size]); clear M; (try clear C); intro w9 M; simp only [List.set_cons_zero, List.set_cons_succ, entBlk, entT, List.getElem?_cons_zero, List.getElem?_cons_succ] at M; have C := M.ruleAll; simp only [Go.Proofs.YtinjjaoikofkdaaDoor.ruleAll] at C) | (go_at_call 12; fail))
  refine (HS.out _ M.below).mono ?_
  rintro e w1 ⟨pp, dd, rfl, M'⟩
  have M9 := M.joinRow M'
  obtain ⟨gq, cap, hv, M8⟩ := M9.rowRd 0 rfl hpos (txF P) (fun j hj => txL_get P hj)
  obtain ⟨rfl, rfl⟩ : pp = some ⟨gq, 0, none⟩ ∧ dd = cap := by cases hv; exact ⟨rfl, rfl⟩
  simp only [List.set_cons_zero] at M8
  have M7 := (M8.nilRow w.heap.size 36 101).nilRow w.heap.size 9 1
  clear M; (try clear C)
  have M := M7
  clear M7 M8 M9 M' HS hv hcmp
  have C := M.ruleAll; simp only [Go.Proofs.YtinjjaoikofkdaaDoor.ruleAll] at C
  go_wp2
  go_loopw [19] (fun i wr => ∃ (k : Nat) (pp1 : Option Addr) (c1 : Nat) (pp2 : Option Addr) (c2 : Nat), k ≤ P.length ∧ k ≤ 20 ∧ i = .int .i64 (k : Int) ∧ (P.take k).all okP = true ∧ Mm no w wr [.row w.heap.size (.slice pp1 k c1) k (nmR ((P.take k).map nmP)) 9 1, .row w.heap.size (.slice pp2 k c2) k (slC ((P.take k).map lpP)) 36 101, .rd gq P.length (txF P), .box b4 (bkV pp1 c1 pp2 c2 k k) 25, .box b2 (bkV none 0 none 0 0 0) 25]) (fun i _ => P.length - (intOf i).toNat)
  case atStart => exact ⟨0, none, 0, none, 0, by omega, by omega, rfl, rfl, M⟩
  case round =>
    obtain ⟨k, pp1, c1, pp2, c2, hk, hk2, rfl, hall, M9⟩ := hrel
    clear M; (try clear C)
    have M := M9
    clear M9
    have HALL := Hid2.mk hall
    clear hall
    by_cases hlt : k < P.length
    · have hlt' : (k : Int) < (P.length : Int) := by omega
      have dlt : decide ((k : Int) < (P.length : Int)) = true := decide_eq_true hlt'
      have hfx : txF P k = .string (str (P.getD k [])) := rfl
      have hgk : P.getD k [] = P[k] := by rw [List.getD_eq_getElem?_getD, List.getElem?_eq_getElem hlt]; rfl
      have HCT := Hid2.mk (fun w1 hb1 => cut_any (P.getD k []) (HB.out k) (HSZ.out k) m w1 (HML.out w1 hb1))
      have HRD := Hid2.mk (fun w1 => parseSquare_any (ctB 61 (P.getD k [])) (ct_byts 61 (HB.out k)).2 (Nat.le_trans (ct_len 61 _).2 (HSZ.out k)) w1)
      have HBAD := Hid2.mk (fun (h : okP P[k] = false) => HNO0.out fun h2 => by
        rw [HOKD.out] at h2
        have := List.all_eq_true.1 h2.2.1 P[k] (List.getElem_mem hlt)
        rw [h] at this; cases this)
      have HGOOD := Hid2.mk (fun (h : okP P[k] = true) => (show (P.take (k + 1)).all okP = true from by rw [all_take okP P hlt, HALL.out, h]; rfl))
      have HOKI := Hid2.mk (okP_cut P[k])
      have HBIG := Hid2.mk (fun (h : k = 20) => HNO0.out fun h2 => by rw [HOKD.out] at h2; omega)
      have HE1 := Hid2.mk (show nmR ((P.take (k + 1)).map nmP) = nmR ((P.take k).map nmP) ++ [.string (nmP P[k])] by
        rw [List.take_succ_eq_append_getElem hlt, List.map_append, List.map_singleton, nmR_snoc])
      have HE2 := Hid2.mk (show slC ((P.take (k + 1)).map lpP) = slC ((P.take k).map lpP) ++ (sqs (lpP P[k]).n (lpP P[k]).t).toList by
        rw [List.take_succ_eq_append_getElem hlt, List.map_append, List.map_singleton, slC_snocH])
      rw [hgk] at hfx HCT HRD
      generalize P[k] = p at *
      clear hgk
      generalize nmR ((P.take k).map nmP) = NR at *
      generalize slC ((P.take k).map lpP) = SR at *
      have HRD2 : Hid2 (∀ w1, Calls Tryd.prog 14 #[.string (str (ctB 61 p))] w1 fun e w' => ∃ mm u, e = .returned (.tuple #[.agg (sqs mm u), .int .i64 (if okP p = true then 0 else 6)]) ∧ (okP p = true → sqs mm u = sqs (lpP p).n (lpP p).t) ∧ Below w1.heap.size w1 w') := Hid2.mk (fun w1 => (HRD.out w1).mono (by
        rintro e w' ⟨mm, u, rfl, h2, h3⟩
        refine ⟨mm, u, by rw [HOKI.out.1], fun h => ?_, h3⟩
        have hq := (HOKI.out.2 h).2.1
        rw [HOKI.out.1] at h
        rw [hq]
        exact h2 h))
      have HNM := Hid2.mk (fun h => (HOKI.out.2 h).1)
      clear HRD HOKI
      have j0 : (bkV pp1 c1 pp2 c2 k k)[0]? = some (.slice pp1 k c1) := rfl
      have j1 : (bkV pp1 c1 pp2 c2 k k)[1]? = some (.slice pp2 k c2) := rfl
      generalize str (ctA 61 p) = s0 at *
      generalize str (ctB 61 p) = s1 at *
      generalize str p = sp at *
      have C := M.ruleAll; simp only [Go.Proofs.YtinjjaoikofkdaaDoor.ruleAll] at C
      cases hok : okP p with
      | false =>
        have HNO := Hid2.mk (HBAD.out hok)
        simp only [hok] at HRD2
        clear hok HGOOD HE1 HE2 HNM HBIG HBAD
        go_wp2_with (first | (go_at_call 13; ((with_reducible refine (HCT.out _ M.below).mono ?_); rintro e w1 ⟨rfl, hb⟩; have hsz := M.size; (try (have G9 := G.later hb; clear G; have G := G9; clear G9)); have M9 := M.later hb; clear M; (try clear C); have M := M9; clear M9; have C := M.ruleAll; simp only [Go.Proofs.YtinjjaoikofkdaaDoor.ruleAll] at C)) | (go_at_call 14; ((with_reducible refine (HRD2.out _).mono ?_); rintro e w1 ⟨mm, u, rfl, -, hb⟩; have hsz := M.size; (try (have G9 := G.later hb; clear G; have G := G9; clear G9)); have M9 := M.later hb; clear M; (try clear C); have M := M9; clear M9; have C := M.ruleAll; simp only [Go.Proofs.YtinjjaoikofkdaaDoor.ruleAll] at C)) | ((with_reducible apply wpM_alloc' M 36 (sqs 0 fun _ _ => 0)); rfl; exact ⟨rfl, _, zero_sqs _, rfl⟩; clear M; (try clear C); intro b10 w9 h_b10 M; have C := M.ruleAll; simp only [Go.Proofs.YtinjjaoikofkdaaDoor.ruleAll] at C) | ((with_reducible apply wpM_sta' M 0 36 (sqs mm u)); rfl; rfl; rfl; rfl; (first | exact .inl (by assumption) | exact .inr rfl | exact .inr (by assumption)); exact ⟨rfl, inf_sqs.trans (congrArg some (sqs_size ..).symm), flat_sqs _ _⟩; (simp only [entCells, List.getElem?_cons_zero, List.getElem?_cons_succ, sqs_size, sqs_size]); clear M; (try clear C); intro w9 M; simp only [List.set_cons_zero, List.set_cons_succ, entBlk, entT, List.getElem?_cons_zero, List.getElem?_cons_succ] at M; have C := M.ruleAll; simp only [Go.Proofs.YtinjjaoikofkdaaDoor.ruleAll] at C) | (refine wpList_build 25 _ rfl rfl [] rfl _ (build_bkH _) ?_) | ((with_reducible apply wpM_sta' M 5 25 (bkV none 0 none 0 0 0)); rfl; rfl; rfl; rfl; (first | exact .inl (by assumption) | exact .inr rfl | exact .inr (by assumption)); exact ⟨rfl, inf_bok.trans (congrArg some (bkv_size ..).symm), flat_bkv _ _ _ _ _ _⟩; (simp only [entCells, List.getElem?_cons_zero, List.getElem?_cons_succ, bkv_size, bkv_size]); clear M; (try clear C); intro w9 M; simp only [List.set_cons_zero, List.set_cons_succ, entBlk, entT, List.getElem?_cons_zero, List.getElem?_cons_succ] at M; have C := M.ruleAll; simp only [Go.Proofs.YtinjjaoikofkdaaDoor.ruleAll] at C))
        refine bodyPost_ret (v := .tuple #[.agg (bkV none 0 none 0 0 0), .int .i64 6]) (by exact results_part2 rfl _ _ _ _ (bkV none 0 none 0 0 0) _ rfl und_bok rfl inf_bok (cells_of_blk0 (M.box 5 rfl)) _ rfl) rfl ?_
        rw [HNO.out.1, HNO.out.2.1, HNO.out.2.2]
        exact bkErrP M.below 6
      | true =>
        simp only [hok] at HRD2
        have HOKT := Hid2.mk hok
        by_cases h20 : k = 20
        · have HNO := Hid2.mk (HBIG.out h20)
          have h20b : ((k : Int) == 20) = true := by simp [h20]
          clear hok HGOOD HE1 HE2 HNM HBIG HBAD h20
          go_wp2_with (first | (go_at_call 13; ((with_reducible refine (HCT.out _ M.below).mono ?_); rintro e w1 ⟨rfl, hb⟩; have hsz := M.size; (try (have G9 := G.later hb; clear G; have G := G9; clear G9)); have M9 := M.later hb; clear M; (try clear C); have M := M9; clear M9; have C := M.ruleAll; simp only [Go.Proofs.YtinjjaoikofkdaaDoor.ruleAll] at C)) | (go_at_call 14; ((with_reducible refine (HRD2.out _).mono ?_); rintro e w1 ⟨mm, u, rfl, -, hb⟩; have hsz := M.size; (try (have G9 := G.later hb; clear G; have G := G9; clear G9)); have M9 := M.later hb; clear M; (try clear C); have M := M9; clear M9; have C := M.ruleAll; simp only [Go.Proofs.YtinjjaoikofkdaaDoor.ruleAll] at C)) | ((with_reducible apply wpM_alloc' M 36 (sqs 0 fun _ _ => 0)); rfl; exact ⟨rfl, _, zero_sqs _, rfl⟩; clear M; (try clear C); intro b10 w9 h_b10 M; have C := M.ruleAll; simp only [Go.Proofs.YtinjjaoikofkdaaDoor.ruleAll] at C) | ((with_reducible apply wpM_sta' M 0 36 (sqs mm u)); rfl; rfl; rfl; rfl; (first | exact .inl (by assumption) | exact .inr rfl | exact .inr (by assumption)); exact ⟨rfl, inf_sqs.trans (congrArg some (sqs_size ..).symm), flat_sqs _ _⟩; (simp only [entCells, List.getElem?_cons_zero, List.getElem?_cons_succ, sqs_size, sqs_size]); clear M; (try clear C); intro w9 M; simp only [List.set_cons_zero, List.set_cons_succ, entBlk, entT, List.getElem?_cons_zero, List.getElem?_cons_succ] at M; have C := M.ruleAll; simp only [Go.Proofs.YtinjjaoikofkdaaDoor.ruleAll] at C) | (refine wpList_build 25 _ rfl rfl [] rfl _ (build_bkH _) ?_) | ((with_reducible apply wpM_sta' M 5 25 (bkV none 0 none 0 0 0)); rfl; rfl; rfl; rfl; (first | exact .inl (by assumption) | exact .inr rfl | exact .inr (by assumption)); exact ⟨rfl, inf_bok.trans (congrArg some (bkv_size ..).symm), flat_bkv _ _ _ _ _ _⟩; (simp only [entCells, List.getElem?_cons_zero, List.getElem?_cons_succ, bkv_size, bkv_size]); clear M; (try clear C); intro w9 M; simp only [List.set_cons_zero, List.set_cons_succ, entBlk, entT, List.getElem?_cons_zero, List.getElem?_cons_succ] at M; have C := M.ruleAll; simp only [Go.Proofs.YtinjjaoikofkdaaDoor.ruleAll] at C))
          refine bodyPost_ret (v := .tuple #[.agg (bkV none 0 none 0 0 0), .int .i64 6]) (by exact results_part2 rfl _ _ _ _ (bkV none 0 none 0 0 0) _ rfl und_bok rfl inf_bok (cells_of_blk0 (M.box 5 rfl)) _ rfl) rfl ?_
          rw [HNO.out.1, HNO.out.2.1, HNO.out.2.2]
          exact bkErrP M.below 6
        · have h20b : ((k : Int) == 20) = false := by rw [beq_eq_false_iff_ne]; omega
          have h20i : ¬ (k : Int) = 20 := by omega
          have HE1' := HE1.out
          rw [HNM.out hok] at HE1'
          have HE1 := Hid2.mk HE1'
          clear HE1' hok
          go_wp2_with (first | (go_at_call 13; ((with_reducible refine (HCT.out _ M.below).mono ?_); rintro e w1 ⟨rfl, hb⟩; have hsz := M.size; (try (have G9 := G.later hb; clear G; have G := G9; clear G9)); have M9 := M.later hb; clear M; (try clear C); have M := M9; clear M9; have C := M.ruleAll; simp only [Go.Proofs.YtinjjaoikofkdaaDoor.ruleAll] at C)) | (go_at_call 14; fail))
          refine (HRD2.out _).mono ?_
          rintro e w1 ⟨mm, u, rfl, hq, hb⟩
          have hq := hq trivial
          generalize lpP p = q at hq HE2 HRD2
          rw [hq]
          have M9 := M.later hb
          clear M; (try clear C)
          have M := M9
          clear M9 hb hq HRD2 HCT HNM
          have C := M.ruleAll; simp only [Go.Proofs.YtinjjaoikofkdaaDoor.ruleAll] at C
          go_wp2_with (first | ((with_reducible apply wpM_alloc' M 36 (sqs 0 fun _ _ => 0)); rfl; exact ⟨rfl, _, zero_sqs _, rfl⟩; clear M; (try clear C); intro b10 w9 h_b10 M; have C := M.ruleAll; simp only [Go.Proofs.YtinjjaoikofkdaaDoor.ruleAll] at C) | ((with_reducible apply wpM_sta' M 0 36 (sqs q.n q.t)); rfl; rfl; rfl; rfl; (first | exact .inl (by assumption) | exact .inr rfl | exact .inr (by assumption)); exact ⟨rfl, inf_sqs.trans (congrArg some (sqs_size ..).symm), flat_sqs _ _⟩; (simp only [entCells, List.getElem?_cons_zero, List.getElem?_cons_succ, sqs_size, sqs_size]); clear M; (try clear C); intro w9 M; simp only [List.set_cons_zero, List.set_cons_succ, entBlk, entT, List.getElem?_cons_zero, List.getElem?_cons_succ] at M; have C := M.ruleAll; simp only [Go.Proofs.YtinjjaoikofkdaaDoor.ruleAll] at C))
          have hk2' : k < 20 := by omega
          clear hfx
          refine wp_region_ownN 11 (fun D g w' => GrS 12 (pkP pp1 c1 pp2 c2 k NR SR s0 q b4 w.heap.size) pkR w [.rd gq P.length (txF P), .box b4 (bkV pp1 c1 pp2 c2 k k) 25, .box b2 (bkV none 0 none 0 0 0) 25, .box b10 (sqs q.n q.t) 36] (psD 11 D) g w') (fun kk g wr => ∃ p1 a1 p2 a2, (kk = 11 ∧ g 10 = .pointer (some ⟨b4, 0, none⟩) ∧ g 4 = .slice p1 (k + 1) a1 ∧ g 9 = .slice p2 (k + 1) a2 ∧ Mm no w wr [.row w.heap.size (.slice p1 (k + 1) a1) (k + 1) (NR ++ [Value.string s0]) 9 1, .row w.heap.size (.slice p2 (k + 1) a2) (k + 1) (SR ++ (sqs q.n q.t).toList) 36 101, .rd gq P.length (txF P), .box b4 (bkV pp1 c1 pp2 c2 k k) 25, .box b2 (bkV none 0 none 0 0 0) 25, .box b10 (sqs q.n q.t) 36]) ∨ (kk = 12 ∧ g 9 = .slice p2 (k + 1) a2 ∧ Mm no w wr [.row w.heap.size (.slice p1 (k + 1) a1) (k + 1) (NR ++ [Value.string s0]) 9 1, .row w.heap.size (.slice p2 (k + 1) a2) (k + 1) (SR ++ (sqs q.n q.t).toList) 36 101, .rd gq P.length (txF P), .box b4 (bkV p1 a1 pp2 c2 (k + 1) k) 25, .box b2 (bkV none 0 none 0 0 0) 25, .box b10 (sqs q.n q.t) 36]) ∨ (kk = 13 ∧ g 12 = .pointer (some ⟨b4, 1, none⟩) ∧ g 9 = .slice p2 (k + 1) a2 ∧ Mm no w wr [.row w.heap.size (.slice p1 (k + 1) a1) (k + 1) (NR ++ [Value.string s0]) 9 1, .row w.heap.size (.slice p2 (k + 1) a2) (k + 1) (SR ++ (sqs q.n q.t).toList) 36 101, .rd gq P.length (txF P), .box b4 (bkV p1 a1 pp2 c2 (k + 1) k) 25, .box b2 (bkV none 0 none 0 0 0) 25, .box b10 (sqs q.n q.t) 36]) ∨ (kk = 14 ∧ Mm no w wr [.row w.heap.size (.slice p1 (k + 1) a1) (k + 1) (NR ++ [Value.string s0]) 9 1, .row w.heap.size (.slice p2 (k + 1) a2) (k + 1) (SR ++ (sqs q.n q.t).toList) 36 101, .rd gq P.length (txF P), .box b4 (bkV p1 a1 p2 a2 (k + 1) (k + 1)) 25, .box b2 (bkV none 0 none 0 0 0) 25, .box b10 (sqs q.n q.t) 36])) (by kernel_rfl) (by kernel_rfl) (by kernel_rfl) (by decide) (GrS.start2 (p := 11) (n := 12) (E0 := [.row w.heap.size (.slice pp1 k c1) (k) (NR) 9 1, .row w.heap.size (.slice pp2 k c2) (k) (SR) 36 101]) (by decide) rfl (M.sub [1, 2, 3, 4, 5, 0] (by decide)) _ rfl) ?hstep ?hfirst ?htail ?hQ
          case hstep =>
            clear M
            try clear C
            intro i o hlt hi D g w2 hi0 hpre S
            obtain rfl | rfl | rfl | rfl | rfl | rfl | rfl | rfl | rfl | rfl | rfl : i = 0 ∨ i = 1 ∨ i = 2 ∨ i = 3 ∨ i = 4 ∨ i = 5 ∨ i = 6 ∨ i = 7 ∨ i = 8 ∨ i = 9 ∨ i = 10 := by omega
            · simp only [List.getElem?_cons_succ, List.getElem?_cons_zero, Option.some.injEq] at hi
              subst hi
              have M := S.base
              have HI0 : psD 11 D 0 = false := (psD_ne (by decide)).trans hi0
              clear hi0
              have hi0 := HI0
              have HR : ∀ j ∈ pkR 0, psD 11 D j = true := (fun _ h => by cases h)
              have HW : ∀ j, psD 11 D j = true → 0 ∉ pkW j := fun j _ h => by unfold pkW at h; split at h <;> simp at h
              have hst := pkS pp1 c1 pp2 c2 k NR SR s0 q b4 w.heap.size
              refine ⟨⟨#[undef, undef, undef, undef, .pointer (some ⟨b4, 0, none⟩), undef, undef, undef, undef, undef, undef, undef, undef, undef, undef, undef, undef, undef, undef, undef, undef, undef, undef, undef, undef, undef, undef, undef, undef, undef, undef, undef, undef, undef, undef, undef, undef, undef, undef, undef, undef, undef, undef, undef, undef, undef, undef, undef, undef, undef, undef, undef, undef, undef, undef, undef, undef, undef, undef, undef, undef, undef, undef, undef, undef, undef, undef], []⟩, ?_, ?_⟩
              · intro t ht
                have ht' : t ∈ ([4] : List Nat) := ht
                simp only [List.mem_cons, List.not_mem_nil, or_false] at ht'
                subst ht'
                exact rfl
              · skip
                simp only [psD_upd]
                have C := M.ruleAll; simp only [Go.Proofs.YtinjjaoikofkdaaDoor.ruleAll] at C
                refine yield_walk (ops := #[]) rfl rfl (show 43 < 67 by decide) ?_
                go_wp2
                exact S.val (i := 0) hst (by decide) hi0 HR HW (Below.refl _ _) ⟨updG_at .., rfl⟩
            · simp only [List.getElem?_cons_succ, List.getElem?_cons_zero, Option.some.injEq] at hi
              subst hi
              have d0 : psD 11 D 0 = true := psD_of (hpre _ (Array.mem_of_getElem? (i := 0) rfl) rfl)
              obtain ⟨E, P, M⟩ := S.get [0] (by decide) (by intro j hj; simp only [List.mem_cons, List.not_mem_nil, or_false] at hj; subst hj <;> assumption)
              obtain ⟨e0, E0⟩ : g 0 = .pointer (some ⟨b4, 0, none⟩) ∧ E 0 = [] := P 0 (by decide)
              simp only [List.flatMap_cons, List.flatMap_nil, List.append_nil, E0, List.cons_append, List.nil_append] at M
              clear P
              have HI0 : psD 11 D 1 = false := (psD_ne (by decide)).trans hi0
              clear hi0
              have hi0 := HI0
              have HR : ∀ j ∈ pkR 1, psD 11 D j = true := (by intro j hj; have hj' : j ∈ ([0] : List Nat) := hj; simp only [List.mem_cons, List.not_mem_nil, or_false] at hj'; subst hj' <;> assumption)
              have HW : ∀ j, psD 11 D j = true → 1 ∉ pkW j := fun j _ h => by unfold pkW at h; split at h <;> simp at h
              have hst := pkS pp1 c1 pp2 c2 k NR SR s0 q b4 w.heap.size
              refine ⟨⟨#[undef, undef, undef, undef, undef, undef, undef, undef, undef, undef, undef, undef, undef, undef, undef, undef, undef, undef, undef, undef, undef, undef, undef, undef, undef, undef, undef, undef, undef, undef, undef, undef, undef, undef, undef, undef, undef, undef, undef, undef, undef, undef, undef, .pointer (some ⟨b4, 0, none⟩), undef, undef, undef, undef, undef, undef, undef, undef, undef, undef, undef, undef, undef, undef, undef, undef, undef, undef, undef, undef, undef, undef, undef], []⟩, ?_, ?_⟩
              · intro t ht
                have ht' : t ∈ ([43] : List Nat) := ht
                simp only [List.mem_cons, List.not_mem_nil, or_false] at ht'
                subst ht'
                exact e0.symm
              · skip
                simp only [psD_upd]
                have C := M.ruleAll; simp only [Go.Proofs.YtinjjaoikofkdaaDoor.ruleAll] at C
                refine yield_walk (ops := #[]) rfl rfl (show 44 < 67 by decide) ?_
                go_wp2
                exact S.val (i := 1) hst (by decide) hi0 HR HW (Below.refl _ _) ⟨updG_at .., rfl⟩
            · simp only [List.getElem?_cons_succ, List.getElem?_cons_zero, Option.some.injEq] at hi
              subst hi
              have M := S.base
              have HI0 : psD 11 D 2 = false := (psD_ne (by decide)).trans hi0
              clear hi0
              have hi0 := HI0
              have HR : ∀ j ∈ pkR 2, psD 11 D j = true := (fun _ h => by cases h)
              have HW : ∀ j, psD 11 D j = true → 2 ∉ pkW j := fun j _ h => by unfold pkW at h; split at h <;> simp at h
              have hst := pkS pp1 c1 pp2 c2 k NR SR s0 q b4 w.heap.size
              refine ⟨⟨#[undef, undef, undef, undef, undef, undef, undef, .string s0, undef, undef, undef, undef, undef, undef, undef, undef, undef, undef, undef, undef, undef, undef, undef, undef, undef, undef, undef, undef, undef, undef, undef, undef, undef, undef, undef, undef, undef, undef, undef, undef, undef, undef, undef, undef, undef, undef, undef, undef, undef, undef, undef, undef, undef, undef, undef, undef, undef, undef, undef, undef, undef, undef, undef, undef, undef, undef, undef], []⟩, ?_, ?_⟩
              · intro t ht
                have ht' : t ∈ ([7] : List Nat) := ht
                simp only [List.mem_cons, List.not_mem_nil, or_false] at ht'
                subst ht'
                exact rfl
              · skip
                simp only [psD_upd]
                have C := M.ruleAll; simp only [Go.Proofs.YtinjjaoikofkdaaDoor.ruleAll] at C
                refine yield_walk (ops := #[]) rfl rfl (show 45 < 67 by decide) ?_
                go_wp2
                exact S.val (i := 2) hst (by decide) hi0 HR HW (Below.refl _ _) ⟨updG_at .., rfl⟩
            · simp only [List.getElem?_cons_succ, List.getElem?_cons_zero, Option.some.injEq] at hi
              subst hi
              have d2 : psD 11 D 2 = true := psD_of (hpre _ (Array.mem_of_getElem? (i := 0) rfl) rfl)
              obtain ⟨E, P, M⟩ := S.get [2] (by decide) (by intro j hj; simp only [List.mem_cons, List.not_mem_nil, or_false] at hj; subst hj <;> assumption)
              obtain ⟨e2, E2⟩ : g 2 = .string s0 ∧ E 2 = [] := P 2 (by decide)
              simp only [List.flatMap_cons, List.flatMap_nil, List.append_nil, E2, List.cons_append, List.nil_append] at M
              clear P
              have HI0 : psD 11 D 3 = false := (psD_ne (by decide)).trans hi0
              clear hi0
              have hi0 := HI0
              have HR : ∀ j ∈ pkR 3, psD 11 D j = true := (by intro j hj; have hj' : j ∈ ([2] : List Nat) := hj; simp only [List.mem_cons, List.not_mem_nil, or_false] at hj'; subst hj' <;> assumption)
              have HW : ∀ j, psD 11 D j = true → 3 ∉ pkW j := fun j _ h => by unfold pkW at h; split at h <;> simp at h
              have hst := pkS pp1 c1 pp2 c2 k NR SR s0 q b4 w.heap.size
              refine ⟨⟨#[undef, undef, undef, undef, undef, undef, undef, undef, undef, undef, undef, undef, undef, undef, undef, undef, undef, undef, undef, undef, undef, undef, undef, undef, undef, undef, undef, undef, undef, undef, undef, undef, undef, undef, undef, undef, undef, undef, undef, undef, undef, undef, undef, undef, undef, .string s0, undef, undef, undef, undef, undef, undef, undef, undef, undef, undef, undef, undef, undef, undef, undef, undef, undef, undef, undef, undef, undef], []⟩, ?_, ?_⟩
              · intro t ht
                have ht' : t ∈ ([45] : List Nat) := ht
                simp only [List.mem_cons, List.not_mem_nil, or_false] at ht'
                subst ht'
                exact e2.symm
              · skip
                simp only [psD_upd]
                clear M
                have M := Mm.start no w2
                have C := M.ruleAll; simp only [Go.Proofs.YtinjjaoikofkdaaDoor.ruleAll] at C
                refine yield_walk (ops := #[]) rfl rfl (show 46 < 67 by decide) ?_
                go_wp2_with (first | ((with_reducible apply wpM_bsl' M 22 1 9 ([(0, .string s0)]) (#[.string s0])); rfl; rfl; rfl; exact bsl_J1 _; clear M; (try clear C); intro bi w9 h_bi M; have C := M.ruleAll; simp only [Go.Proofs.YtinjjaoikofkdaaDoor.ruleAll] at C))
                exact S.add (i := 3) hst (by decide) hi0 HR HW M (new_box h_bi) ⟨bi, updG_at .., rfl⟩
            · simp only [List.getElem?_cons_succ, List.getElem?_cons_zero, Option.some.injEq] at hi
              subst hi
              have d1 : psD 11 D 1 = true := psD_of (hpre _ (Array.mem_of_getElem? (i := 0) rfl) rfl)
              have d3 : psD 11 D 3 = true := psD_of (hpre _ (Array.mem_of_getElem? (i := 1) rfl) rfl)
              have d2 : psD 11 D 2 = true := S.anc 3 d3 2 (show 2 ∈ pkR 3 by decide)
              have d0 : psD 11 D 0 = true := S.anc 1 d1 0 (show 0 ∈ pkR 1 by decide)
              obtain ⟨E, P, M⟩ := S.get [1] (by decide) (by intro j hj; simp only [List.mem_cons, List.not_mem_nil, or_false] at hj; subst hj <;> assumption)
              obtain ⟨e1, E1⟩ : g 1 = .slice pp1 k c1 ∧ E 1 = [] := P 1 (by decide)
              simp only [List.flatMap_cons, List.flatMap_nil, List.append_nil, E1, List.cons_append, List.nil_append] at M
              clear P
              have HI0 : psD 11 D 4 = false := (psD_ne (by decide)).trans hi0
              clear hi0
              have hi0 := HI0
              have HR : ∀ j ∈ pkR 4, psD 11 D j = true := (by intro j hj; have hj' : j ∈ ([0, 1, 2, 3] : List Nat) := hj; simp only [List.mem_cons, List.not_mem_nil, or_false] at hj'; rcases hj' with rfl | rfl | rfl | rfl <;> assumption)
              have HW : ∀ j, psD 11 D j = true → j ≠ 11 → 4 ∉ pkW j := fun j _ hne h => by unfold pkW at h; rw [if_neg hne] at h; cases h
              have hst := pkS pp1 c1 pp2 c2 k NR SR s0 q b4 w.heap.size
              clear M
              obtain ⟨E', X, P, M, FIN⟩ := S.writeK (i := 4) hst (by decide) hi0 HR HW (psD_at ..) [3] (by decide) (by intro j hj; simp only [List.mem_cons, List.not_mem_nil, or_false] at hj; subst hj; assumption)
              have P0 := P 11 (by decide)
              have E11 : E' 11 = [.row w.heap.size (.slice pp1 k c1) (k) (NR) 9 1, .row w.heap.size (bif (psD 11 D) 9 then g 9 else .slice pp2 k c2) (bif (psD 11 D) 9 then k + 1 else k) (bif (psD 11 D) 9 then SR ++ (sqs q.n q.t).toList else SR) 36 101] := by
                have h : E' 11 = [.row w.heap.size (bif (psD 11 D) 4 then g 4 else .slice pp1 k c1) (bif (psD 11 D) 4 then k + 1 else k) (bif (psD 11 D) 4 then NR ++ [Value.string s0] else NR) 9 1, .row w.heap.size (bif (psD 11 D) 9 then g 9 else .slice pp2 k c2) (bif (psD 11 D) 9 then k + 1 else k) (bif (psD 11 D) 9 then SR ++ (sqs q.n q.t).toList else SR) 36 101] := P0
                simp only [hi0, cond_false] at h
                exact h
              obtain ⟨bi, e3, E3⟩ : ∃ bi, g 3 = .slice (some ⟨bi, 0, none⟩) 1 1 ∧ E' 3 = [.box bi (#[.string s0]) 9] := P 3 (by decide)
              simp only [E11, E3, List.flatMap_cons, List.flatMap_nil, List.append_nil, List.cons_append, List.nil_append] at M
              clear P
              simp only [E3, List.flatMap_cons, List.flatMap_nil, List.append_nil, List.cons_append, List.nil_append] at FIN
              refine ⟨⟨#[undef, undef, undef, undef, undef, undef, undef, undef, undef, undef, undef, undef, undef, undef, undef, undef, undef, undef, undef, undef, undef, undef, undef, undef, undef, undef, undef, undef, undef, undef, undef, undef, undef, undef, undef, undef, undef, undef, undef, undef, undef, undef, undef, undef, .slice pp1 k c1, undef, .slice (some ⟨bi, 0, none⟩) 1 1, undef, undef, undef, undef, undef, undef, undef, undef, undef, undef, undef, undef, undef, undef, undef, undef, undef, undef, undef, undef], []⟩, ?_, ?_⟩
              · intro t ht
                have ht' : t ∈ ([44, 46] : List Nat) := ht
                simp only [List.mem_cons, List.not_mem_nil, or_false] at ht'
                rcases ht' with rfl | rfl
                · exact e1.symm
                · exact e3.symm
              · skip
                simp only [psD_upd]
                refine yield_walk (ops := #[]) rfl rfl (show 47 < 67 by decide) ?_
                have C := M.ruleAll; simp only [Go.Proofs.YtinjjaoikofkdaaDoor.ruleAll] at C
                go_wp2_with (first | ((with_reducible apply wpM_app' M 22 0 2 (w.heap.size) (.slice pp1 k c1) (k) (NR) 9 1 16); rfl; rfl; rfl; rfl; rfl; rfl; rfl; (first | exact .inl (Nat.le_refl _) | exact .inl (by assumption) | exact .inr (by assumption) | exact .inr HDv.out); (first | exact M.size | (have hq := M.size; omega)); exact und_slJ; exact inf_elJ; rfl; decide; decide; rfl; exact rfl; exact flat_J1 _; omega; clear M; (try clear C); intro v4 w9 far_v4 M; simp only [List.set_cons_zero, List.set_cons_succ, entBlk, entT, List.getElem?_cons_zero, List.getElem?_cons_succ] at M; obtain ⟨pp_v4, cap_v4, rfl⟩ := own_form (M.row 0 rfl); have C := M.ruleAll; simp only [Go.Proofs.YtinjjaoikofkdaaDoor.ruleAll] at C))
                refine FIN _ _ [.row w.heap.size (.slice pp_v4 (k + 1) cap_v4) (k + 1) (NR ++ [Value.string s0]) 9 1, .row w.heap.size (bif (psD 11 D) 9 then g 9 else .slice pp2 k c2) (bif (psD 11 D) 9 then k + 1 else k) (bif (psD 11 D) 9 then SR ++ (sqs q.n q.t).toList else SR) 36 101] M ?_ rfl
                show _ = ([.row w.heap.size (bif (updD (psD 11 D) 4) 4 then updG g 4 (.slice pp_v4 (k + 1) cap_v4) 4 else .slice pp1 k c1) (bif (updD (psD 11 D) 4) 4 then k + 1 else k) (bif (updD (psD 11 D) 4) 4 then NR ++ [Value.string s0] else NR) 9 1, .row w.heap.size (bif (updD (psD 11 D) 4) 9 then updG g 4 (.slice pp_v4 (k + 1) cap_v4) 9 else .slice pp2 k c2) (bif (updD (psD 11 D) 4) 9 then k + 1 else k) (bif (updD (psD 11 D) 4) 9 then SR ++ (sqs q.n q.t).toList else SR) 36 101] : List Ent)
                rw [updD_at, updG_at, updD_ne (by decide), updG_ne (by decide)]; rfl
            · simp only [List.getElem?_cons_succ, List.getElem?_cons_zero, Option.some.injEq] at hi
              subst hi
              have M := S.base
              have HI0 : psD 11 D 5 = false := (psD_ne (by decide)).trans hi0
              clear hi0
              have hi0 := HI0
              have HR : ∀ j ∈ pkR 5, psD 11 D j = true := (fun _ h => by cases h)
              have HW : ∀ j, psD 11 D j = true → 5 ∉ pkW j := fun j _ h => by unfold pkW at h; split at h <;> simp at h
              have hst := pkS pp1 c1 pp2 c2 k NR SR s0 q b4 w.heap.size
              refine ⟨⟨#[undef, undef, undef, undef, .pointer (some ⟨b4, 0, none⟩), undef, undef, undef, undef, undef, undef, undef, undef, undef, undef, undef, undef, undef, undef, undef, undef, undef, undef, undef, undef, undef, undef, undef, undef, undef, undef, undef, undef, undef, undef, undef, undef, undef, undef, undef, undef, undef, undef, undef, undef, undef, undef, undef, undef, undef, undef, undef, undef, undef, undef, undef, undef, undef, undef, undef, undef, undef, undef, undef, undef, undef, undef], []⟩, ?_, ?_⟩
              · intro t ht
                have ht' : t ∈ ([4] : List Nat) := ht
                simp only [List.mem_cons, List.not_mem_nil, or_false] at ht'
                subst ht'
                exact rfl
              · skip
                simp only [psD_upd]
                have C := M.ruleAll; simp only [Go.Proofs.YtinjjaoikofkdaaDoor.ruleAll] at C
                refine yield_walk (ops := #[]) rfl rfl (show 48 < 67 by decide) ?_
                go_wp2
                exact S.val (i := 5) hst (by decide) hi0 HR HW (Below.refl _ _) ⟨updG_at .., rfl⟩
            · simp only [List.getElem?_cons_succ, List.getElem?_cons_zero, Option.some.injEq] at hi
              subst hi
              have d5 : psD 11 D 5 = true := psD_of (hpre _ (Array.mem_of_getElem? (i := 0) rfl) rfl)
              obtain ⟨E, P, M⟩ := S.get [5] (by decide) (by intro j hj; simp only [List.mem_cons, List.not_mem_nil, or_false] at hj; subst hj <;> assumption)
              obtain ⟨e5, E5⟩ : g 5 = .pointer (some ⟨b4, 1, none⟩) ∧ E 5 = [] := P 5 (by decide)
              simp only [List.flatMap_cons, List.flatMap_nil, List.append_nil, E5, List.cons_append, List.nil_append] at M
              clear P
              have HI0 : psD 11 D 6 = false := (psD_ne (by decide)).trans hi0
              clear hi0
              have hi0 := HI0
              have HR : ∀ j ∈ pkR 6, psD 11 D j = true := (by intro j hj; have hj' : j ∈ ([5] : List Nat) := hj; simp only [List.mem_cons, List.not_mem_nil, or_false] at hj'; subst hj' <;> assumption)
              have HW : ∀ j, psD 11 D j = true → 6 ∉ pkW j := fun j _ h => by unfold pkW at h; split at h <;> simp at h
              have hst := pkS pp1 c1 pp2 c2 k NR SR s0 q b4 w.heap.size
              refine ⟨⟨#[undef, undef, undef, undef, undef, undef, undef, undef, undef, undef, undef, undef, undef, undef, undef, undef, undef, undef, undef, undef, undef, undef, undef, undef, undef, undef, undef, undef, undef, undef, undef, undef, undef, undef, undef, undef, undef, undef, undef, undef, undef, undef, undef, undef, undef, undef, undef, undef, .pointer (some ⟨b4, 1, none⟩), undef, undef, undef, undef, undef, undef, undef, undef, undef, undef, undef, undef, undef, undef, undef, undef, undef, undef], []⟩, ?_, ?_⟩
              · intro t ht
                have ht' : t ∈ ([48] : List Nat) := ht
                simp only [List.mem_cons, List.not_mem_nil, or_false] at ht'
                subst ht'
                exact e5.symm
              · skip
                simp only [psD_upd]
                have C := M.ruleAll; simp only [Go.Proofs.YtinjjaoikofkdaaDoor.ruleAll] at C
                refine yield_walk (ops := #[]) rfl rfl (show 49 < 67 by decide) ?_
                go_wp2
                exact S.val (i := 6) hst (by decide) hi0 HR HW (Below.refl _ _) ⟨updG_at .., rfl⟩
            · simp only [List.getElem?_cons_succ, List.getElem?_cons_zero, Option.some.injEq] at hi
              subst hi
              have M := S.base
              have HI0 : psD 11 D 7 = false := (psD_ne (by decide)).trans hi0
              clear hi0
              have hi0 := HI0
              have HR : ∀ j ∈ pkR 7, psD 11 D j = true := (fun _ h => by cases h)
              have HW : ∀ j, psD 11 D j = true → 7 ∉ pkW j := fun j _ h => by unfold pkW at h; split at h <;> simp at h
              have hst := pkS pp1 c1 pp2 c2 k NR SR s0 q b4 w.heap.size
              refine ⟨⟨#[undef, undef, undef, undef, undef, undef, undef, undef, undef, undef, .pointer (some ⟨b10, 0, none⟩), undef, undef, undef, undef, undef, undef, undef, undef, undef, undef, undef, undef, undef, undef, undef, undef, undef, undef, undef, undef, undef, undef, undef, undef, undef, undef, undef, undef, undef, undef, undef, undef, undef, undef, undef, undef, undef, undef, undef, undef, undef, undef, undef, undef, undef, undef, undef, undef, undef, undef, undef, undef, undef, undef, undef, undef], []⟩, ?_, ?_⟩
              · intro t ht
                have ht' : t ∈ ([10] : List Nat) := ht
                simp only [List.mem_cons, List.not_mem_nil, or_false] at ht'
                subst ht'
                exact rfl
              · skip
                simp only [psD_upd]
                have C := M.ruleAll; simp only [Go.Proofs.YtinjjaoikofkdaaDoor.ruleAll] at C
                refine yield_walk (ops := #[]) rfl rfl (show 50 < 67 by decide) ?_
                go_wp2_with (first | ((with_reducible apply wpM_lda' M 3 36 0 (sqs q.n q.t)); rfl; rfl; rfl; exact ⟨rfl, inf_sqs.trans (congrArg some (sqs_size ..).symm), _, und_sqs, rfl⟩; exact whole_of rfl))
                exact S.val (i := 7) hst (by decide) hi0 HR HW (Below.refl _ _) ⟨updG_at .., rfl⟩
            · simp only [List.getElem?_cons_succ, List.getElem?_cons_zero, Option.some.injEq] at hi
              subst hi
              have d7 : psD 11 D 7 = true := psD_of (hpre _ (Array.mem_of_getElem? (i := 0) rfl) rfl)
              obtain ⟨E, P, M⟩ := S.get [7] (by decide) (by intro j hj; simp only [List.mem_cons, List.not_mem_nil, or_false] at hj; subst hj <;> assumption)
              obtain ⟨e7, E7⟩ : g 7 = .agg (sqs q.n q.t) ∧ E 7 = [] := P 7 (by decide)
              simp only [List.flatMap_cons, List.flatMap_nil, List.append_nil, E7, List.cons_append, List.nil_append] at M
              clear P
              have HI0 : psD 11 D 8 = false := (psD_ne (by decide)).trans hi0
              clear hi0
              have hi0 := HI0
              have HR : ∀ j ∈ pkR 8, psD 11 D j = true := (by intro j hj; have hj' : j ∈ ([7] : List Nat) := hj; simp only [List.mem_cons, List.not_mem_nil, or_false] at hj'; subst hj' <;> assumption)
              have HW : ∀ j, psD 11 D j = true → 8 ∉ pkW j := fun j _ h => by unfold pkW at h; split at h <;> simp at h
              have hst := pkS pp1 c1 pp2 c2 k NR SR s0 q b4 w.heap.size
              refine ⟨⟨#[undef, undef, undef, undef, undef, undef, undef, undef, undef, undef, undef, undef, undef, undef, undef, undef, undef, undef, undef, undef, undef, undef, undef, undef, undef, undef, undef, undef, undef, undef, undef, undef, undef, undef, undef, undef, undef, undef, undef, undef, undef, undef, undef, undef, undef, undef, undef, undef, undef, undef, .agg (sqs q.n q.t), undef, undef, undef, undef, undef, undef, undef, undef, undef, undef, undef, undef, undef, undef, undef, undef], []⟩, ?_, ?_⟩
              · intro t ht
                have ht' : t ∈ ([50] : List Nat) := ht
                simp only [List.mem_cons, List.not_mem_nil, or_false] at ht'
                subst ht'
                exact e7.symm
              · skip
                simp only [psD_upd]
                clear M
                have M := Mm.start no w2
                have C := M.ruleAll; simp only [Go.Proofs.YtinjjaoikofkdaaDoor.ruleAll] at C
                refine yield_walk (ops := #[]) rfl rfl (show 51 < 67 by decide) ?_
                go_wp2_with (first | ((with_reducible apply wpM_bsl' M 23 1 36 ([(0, .agg (sqs q.n q.t))]) (sqs q.n q.t)); rfl; rfl; rfl; exact bsl_Q1 q; clear M; (try clear C); intro bj w9 h_bj M; have C := M.ruleAll; simp only [Go.Proofs.YtinjjaoikofkdaaDoor.ruleAll] at C))
                exact S.add (i := 8) hst (by decide) hi0 HR HW M (new_box h_bj) ⟨bj, updG_at .., rfl⟩
            · simp only [List.getElem?_cons_succ, List.getElem?_cons_zero, Option.some.injEq] at hi
              subst hi
              have d6 : psD 11 D 6 = true := psD_of (hpre _ (Array.mem_of_getElem? (i := 0) rfl) rfl)
              have d8 : psD 11 D 8 = true := psD_of (hpre _ (Array.mem_of_getElem? (i := 1) rfl) rfl)
              have d4 : psD 11 D 4 = true := psD_of (hpre _ (Array.mem_of_getElem? (i := 2) rfl) rfl)
              have d7 : psD 11 D 7 = true := S.anc 8 d8 7 (show 7 ∈ pkR 8 by decide)
              have d5 : psD 11 D 5 = true := S.anc 6 d6 5 (show 5 ∈ pkR 6 by decide)
              have d0 : psD 11 D 0 = true := S.anc 4 d4 0 (show 0 ∈ pkR 4 by decide)
              have d1 : psD 11 D 1 = true := S.anc 4 d4 1 (show 1 ∈ pkR 4 by decide)
              have d2 : psD 11 D 2 = true := S.anc 4 d4 2 (show 2 ∈ pkR 4 by decide)
              have d3 : psD 11 D 3 = true := S.anc 4 d4 3 (show 3 ∈ pkR 4 by decide)
              obtain ⟨E, P, M⟩ := S.get [6] (by decide) (by intro j hj; simp only [List.mem_cons, List.not_mem_nil, or_false] at hj; subst hj <;> assumption)
              obtain ⟨e6, E6⟩ : g 6 = .slice pp2 k c2 ∧ E 6 = [] := P 6 (by decide)
              simp only [List.flatMap_cons, List.flatMap_nil, List.append_nil, E6, List.cons_append, List.nil_append] at M
              clear P
              have HI0 : psD 11 D 9 = false := (psD_ne (by decide)).trans hi0
              clear hi0
              have hi0 := HI0
              have HR : ∀ j ∈ pkR 9, psD 11 D j = true := (by intro j hj; have hj' : j ∈ ([0, 1, 2, 3, 4, 5, 6, 7, 8] : List Nat) := hj; simp only [List.mem_cons, List.not_mem_nil, or_false] at hj'; rcases hj' with rfl | rfl | rfl | rfl | rfl | rfl | rfl | rfl | rfl <;> assumption)
              have HW : ∀ j, psD 11 D j = true → j ≠ 11 → 9 ∉ pkW j := fun j _ hne h => by unfold pkW at h; rw [if_neg hne] at h; cases h
              have hst := pkS pp1 c1 pp2 c2 k NR SR s0 q b4 w.heap.size
              clear M
              obtain ⟨E', X, P, M, FIN⟩ := S.writeK (i := 9) hst (by decide) hi0 HR HW (psD_at ..) [8] (by decide) (by intro j hj; simp only [List.mem_cons, List.not_mem_nil, or_false] at hj; subst hj; assumption)
              have P0 := P 11 (by decide)
              have E11 : E' 11 = [.row w.heap.size (bif (psD 11 D) 4 then g 4 else .slice pp1 k c1) (bif (psD 11 D) 4 then k + 1 else k) (bif (psD 11 D) 4 then NR ++ [Value.string s0] else NR) 9 1, .row w.heap.size (.slice pp2 k c2) (k) (SR) 36 101] := by
                have h : E' 11 = [.row w.heap.size (bif (psD 11 D) 4 then g 4 else .slice pp1 k c1) (bif (psD 11 D) 4 then k + 1 else k) (bif (psD 11 D) 4 then NR ++ [Value.string s0] else NR) 9 1, .row w.heap.size (bif (psD 11 D) 9 then g 9 else .slice pp2 k c2) (bif (psD 11 D) 9 then k + 1 else k) (bif (psD 11 D) 9 then SR ++ (sqs q.n q.t).toList else SR) 36 101] := P0
                simp only [hi0, cond_false] at h
                exact h
              obtain ⟨bj, e8, E8⟩ : ∃ bj, g 8 = .slice (some ⟨bj, 0, none⟩) 1 1 ∧ E' 8 = [.box bj (sqs q.n q.t) 36] := P 8 (by decide)
              simp only [E11, E8, List.flatMap_cons, List.flatMap_nil, List.append_nil, List.cons_append, List.nil_append] at M
              clear P
              simp only [E8, List.flatMap_cons, List.flatMap_nil, List.append_nil, List.cons_append, List.nil_append] at FIN
              refine ⟨⟨#[undef, undef, undef, undef, undef, undef, undef, undef, undef, undef, undef, undef, undef, undef, undef, undef, undef, undef, undef, undef, undef, undef, undef, undef, undef, undef, undef, undef, undef, undef, undef, undef, undef, undef, undef, undef, undef, undef, undef, undef, undef, undef, undef, undef, undef, undef, undef, undef, undef, .slice pp2 k c2, undef, .slice (some ⟨bj, 0, none⟩) 1 1, undef, undef, undef, undef, undef, undef, undef, undef, undef, undef, undef, undef, undef, undef, undef], []⟩, ?_, ?_⟩
              · intro t ht
                have ht' : t ∈ ([49, 51] : List Nat) := ht
                simp only [List.mem_cons, List.not_mem_nil, or_false] at ht'
                rcases ht' with rfl | rfl
                · exact e6.symm
                · exact e8.symm
              · skip
                simp only [psD_upd]
                refine yield_walk (ops := #[]) rfl rfl (show 52 < 67 by decide) ?_
                have C := M.ruleAll; simp only [Go.Proofs.YtinjjaoikofkdaaDoor.ruleAll] at C
                go_wp2_with (first | ((with_reducible apply wpM_app' M 23 1 2 (w.heap.size) (.slice pp2 k c2) (k) (SR) 36 101 112); rfl; rfl; rfl; rfl; rfl; rfl; rfl; (first | exact .inl (Nat.le_refl _) | exact .inl (by assumption) | exact .inr (by assumption) | exact .inr HDv.out); (first | exact M.size | (have hq := M.size; omega)); exact und_sqH; exact inf_sqH; rfl; decide; decide; rfl; exact sqs_size ..; exact flat_sqs _ _; omega; clear M; (try clear C); intro v5 w9 far_v5 M; simp only [List.set_cons_zero, List.set_cons_succ, entBlk, entT, List.getElem?_cons_zero, List.getElem?_cons_succ] at M; obtain ⟨pp_v5, cap_v5, rfl⟩ := own_form (M.row 1 rfl); have C := M.ruleAll; simp only [Go.Proofs.YtinjjaoikofkdaaDoor.ruleAll] at C))
                refine FIN _ _ [.row w.heap.size (bif (psD 11 D) 4 then g 4 else .slice pp1 k c1) (bif (psD 11 D) 4 then k + 1 else k) (bif (psD 11 D) 4 then NR ++ [Value.string s0] else NR) 9 1, .row w.heap.size (.slice pp_v5 (k + 1) cap_v5) (k + 1) (SR ++ (sqs q.n q.t).toList) 36 101] M ?_ rfl
                show _ = ([.row w.heap.size (bif (updD (psD 11 D) 9) 4 then updG g 9 (.slice pp_v5 (k + 1) cap_v5) 4 else .slice pp1 k c1) (bif (updD (psD 11 D) 9) 4 then k + 1 else k) (bif (updD (psD 11 D) 9) 4 then NR ++ [Value.string s0] else NR) 9 1, .row w.heap.size (bif (updD (psD 11 D) 9) 9 then updG g 9 (.slice pp_v5 (k + 1) cap_v5) 9 else .slice pp2 k c2) (bif (updD (psD 11 D) 9) 9 then k + 1 else k) (bif (updD (psD 11 D) 9) 9 then SR ++ (sqs q.n q.t).toList else SR) 36 101] : List Ent)
                rw [updD_at, updG_at, updD_ne (by decide), updG_ne (by decide)]; rfl
            · simp only [List.getElem?_cons_succ, List.getElem?_cons_zero, Option.some.injEq] at hi
              subst hi
              have d0 : psD 11 D 0 = true := psD_of (hpre _ (Array.mem_of_getElem? (i := 0) rfl) rfl)
              have d1 : psD 11 D 1 = true := psD_of (hpre _ (Array.mem_of_getElem? (i := 1) rfl) rfl)
              have d2 : psD 11 D 2 = true := psD_of (hpre _ (Array.mem_of_getElem? (i := 2) rfl) rfl)
              have d3 : psD 11 D 3 = true := psD_of (hpre _ (Array.mem_of_getElem? (i := 3) rfl) rfl)
              have d4 : psD 11 D 4 = true := psD_of (hpre _ (Array.mem_of_getElem? (i := 4) rfl) rfl)
              have d5 : psD 11 D 5 = true := psD_of (hpre _ (Array.mem_of_getElem? (i := 5) rfl) rfl)
              have d6 : psD 11 D 6 = true := psD_of (hpre _ (Array.mem_of_getElem? (i := 6) rfl) rfl)
              have M := S.base
              have HI0 : psD 11 D 10 = false := (psD_ne (by decide)).trans hi0
              clear hi0
              have hi0 := HI0
              have HR : ∀ j ∈ pkR 10, psD 11 D j = true := (by intro j hj; have hj' : j ∈ ([0, 1, 2, 3, 4, 5, 6] : List Nat) := hj; simp only [List.mem_cons, List.not_mem_nil, or_false] at hj'; rcases hj' with rfl | rfl | rfl | rfl | rfl | rfl | rfl <;> assumption)
              have HW : ∀ j, psD 11 D j = true → 10 ∉ pkW j := fun j _ h => by unfold pkW at h; split at h <;> simp at h
              have hst := pkS pp1 c1 pp2 c2 k NR SR s0 q b4 w.heap.size
              refine ⟨⟨#[undef, undef, undef, undef, .pointer (some ⟨b4, 0, none⟩), undef, undef, undef, undef, undef, undef, undef, undef, undef, undef, undef, undef, undef, undef, undef, undef, undef, undef, undef, undef, undef, undef, undef, undef, undef, undef, undef, undef, undef, undef, undef, undef, undef, undef, undef, undef, undef, undef, undef, undef, undef, undef, undef, undef, undef, undef, undef, undef, undef, undef, undef, undef, undef, undef, undef, undef, undef, undef, undef, undef, undef, undef], []⟩, ?_, ?_⟩
              · intro t ht
                have ht' : t ∈ ([4] : List Nat) := ht
                simp only [List.mem_cons, List.not_mem_nil, or_false] at ht'
                subst ht'
                exact rfl
              · skip
                simp only [psD_upd]
                have C := M.ruleAll; simp only [Go.Proofs.YtinjjaoikofkdaaDoor.ruleAll] at C
                refine yield_walk (ops := #[]) rfl rfl (show 53 < 67 by decide) ?_
                go_wp2
                exact S.val (i := 10) hst (by decide) hi0 HR HW (Below.refl _ _) ⟨updG_at .., rfl⟩
          case hfirst =>
            clear M
            try clear C
            intro o hi D g w2 hpre S
            simp only [List.getElem?_cons_succ, List.getElem?_cons_zero, Option.some.injEq] at hi
            subst hi
            have d9 : psD 11 D 9 = true := psD_of (hpre _ (Array.mem_of_getElem? (i := 2) rfl) rfl)
            have d4 : psD 11 D 4 = true := psD_of (hpre _ (Array.mem_of_getElem? (i := 1) rfl) rfl)
            have d10 : psD 11 D 10 = true := psD_of (hpre _ (Array.mem_of_getElem? (i := 0) rfl) rfl)
            have hd : ∀ i, i < 11 → psD 11 D i = true := fun i hi => by
              by_cases e : i = 10
              · rw [e]; exact d10
              · by_cases e2 : i = 9
                · rw [e2]; exact d9
                · rcases (by decide : ∀ i, i < 11 → i ≠ 10 → i ≠ 9 → i ∈ pkR 9 ∨ i ∈ pkR 10) i hi e e2 with h | h
                  · exact S.anc 9 d9 i h
                  · exact S.anc 10 d10 i h
            refine ⟨fun i hi => by have h := hd i hi; rwa [psD_ne (by omega)] at h, ?_⟩
            · obtain ⟨E, P, M⟩ := S.get [11, 10] (by decide) (by intro j hj; simp only [List.mem_cons, List.not_mem_nil, or_false] at hj; rcases hj with rfl | rfl; exact psD_at ..; assumption)
              have E11 : E 11 = [.row w.heap.size (bif (psD 11 D) 4 then g 4 else .slice pp1 k c1) (bif (psD 11 D) 4 then k + 1 else k) (bif (psD 11 D) 4 then NR ++ [Value.string s0] else NR) 9 1, .row w.heap.size (bif (psD 11 D) 9 then g 9 else .slice pp2 k c2) (bif (psD 11 D) 9 then k + 1 else k) (bif (psD 11 D) 9 then SR ++ (sqs q.n q.t).toList else SR) 36 101] := P 11 (by decide)
              obtain ⟨g10, E10⟩ : g 10 = .pointer (some ⟨b4, 0, none⟩) ∧ E 10 = [] := P 10 (by decide)
              simp only [d4, d9, cond_true] at E11
              simp only [List.flatMap_cons, List.flatMap_nil, List.append_nil, E11, E10, List.cons_append, List.nil_append] at M
              obtain ⟨p1, a1, h1⟩ := own_form (M.row 0 rfl)
              obtain ⟨p2, a2, h2⟩ := own_form (M.row 1 rfl)
              rw [h1, h2] at M
              exact ⟨p1, a1, p2, a2, .inl ⟨rfl, g10, h1, h2, M⟩⟩
          case htail =>
            clear M
            try clear C
            intro kk o hk hi g w2 hT
            obtain ⟨p1, a1, p2, a2, ⟨rfl, h10, h4, h9, M⟩ | ⟨rfl, h9, M⟩ | ⟨rfl, h12, h9, M⟩ | ⟨rfl, M⟩⟩ := hT
            · simp only [List.getElem?_cons_succ, List.getElem?_cons_zero, Option.some.injEq] at hi
              subst hi
              refine ⟨⟨#[undef, undef, undef, undef, undef, undef, undef, undef, undef, undef, undef, undef, undef, undef, undef, undef, undef, undef, undef, undef, undef, undef, undef, undef, undef, undef, undef, undef, undef, undef, undef, undef, undef, undef, undef, undef, undef, undef, undef, undef, undef, undef, undef, undef, undef, undef, undef, .slice p1 (k + 1) a1, undef, undef, undef, undef, undef, .pointer (some ⟨b4, 0, none⟩), undef, undef, undef, undef, undef, undef, undef, undef, undef, undef, undef, undef, undef], []⟩, ?_, ?_⟩
              · intro t ht
                have ht' : t ∈ ([53, 47] : List Nat) := ht
                simp only [List.mem_cons, List.not_mem_nil, or_false] at ht'
                rcases ht' with rfl | rfl
                · exact h10.symm
                · exact h4.symm
              · refine yield_store (ops := #[]) (by exact rfl) (by exact rfl) ?_
                have C := M.ruleAll; simp only [Go.Proofs.YtinjjaoikofkdaaDoor.ruleAll] at C
                go_wp2_with (first | ((with_reducible apply wpM_st' M 3 22 (0) (bkV p1 a1 pp2 c2 (k + 1) k)); rfl; rfl; rfl; (first | exact .inl (by assumption) | exact .inr rfl | exact .inr (by assumption)); exact ⟨rfl, rfl, by kernel_rfl⟩; (exact Nat.lt_of_lt_of_eq (by omega) (bkv_size ..).symm); exact rfl; clear M; (try clear C); intro w9 M; simp only [List.set_cons_zero, List.set_cons_succ, entBlk, entT, List.getElem?_cons_zero, List.getElem?_cons_succ] at M; have C := M.ruleAll; simp only [Go.Proofs.YtinjjaoikofkdaaDoor.ruleAll] at C))
                exact ⟨p1, a1, p2, a2, (updG_ne (by decide)).trans h9, M⟩
            · simp only [List.getElem?_cons_succ, List.getElem?_cons_zero, Option.some.injEq] at hi
              subst hi
              refine ⟨⟨#[undef, undef, undef, undef, .pointer (some ⟨b4, 0, none⟩), undef, undef, undef, undef, undef, undef, undef, undef, undef, undef, undef, undef, undef, undef, undef, undef, undef, undef, undef, undef, undef, undef, undef, undef, undef, undef, undef, undef, undef, undef, undef, undef, undef, undef, undef, undef, undef, undef, undef, undef, undef, undef, undef, undef, undef, undef, undef, undef, undef, undef, undef, undef, undef, undef, undef, undef, undef, undef, undef, undef, undef, undef], []⟩, ?_, ?_⟩
              · intro t ht
                have ht' : t ∈ ([4] : List Nat) := ht
                simp only [List.mem_cons, List.not_mem_nil, or_false] at ht'
                subst ht'
                rfl
              · refine yield_walk (ops := #[]) rfl rfl (show 54 < 67 by decide) ?_
                go_wp2
                exact ⟨updG_at .., p1, a1, p2, a2, (updG_ne (by decide)).trans h9, M⟩
            · simp only [List.getElem?_cons_succ, List.getElem?_cons_zero, Option.some.injEq] at hi
              subst hi
              refine ⟨⟨#[undef, undef, undef, undef, undef, undef, undef, undef, undef, undef, undef, undef, undef, undef, undef, undef, undef, undef, undef, undef, undef, undef, undef, undef, undef, undef, undef, undef, undef, undef, undef, undef, undef, undef, undef, undef, undef, undef, undef, undef, undef, undef, undef, undef, undef, undef, undef, undef, undef, undef, undef, undef, .slice p2 (k + 1) a2, undef, .pointer (some ⟨b4, 1, none⟩), undef, undef, undef, undef, undef, undef, undef, undef, undef, undef, undef, undef], []⟩, ?_, ?_⟩
              · intro t ht
                have ht' : t ∈ ([54, 52] : List Nat) := ht
                simp only [List.mem_cons, List.not_mem_nil, or_false] at ht'
                rcases ht' with rfl | rfl
                · exact h12.symm
                · exact h9.symm
              · refine yield_store (ops := #[]) (by exact rfl) (by exact rfl) ?_
                have C := M.ruleAll; simp only [Go.Proofs.YtinjjaoikofkdaaDoor.ruleAll] at C
                go_wp2_with (first | ((with_reducible apply wpM_st' M 3 23 (1) (bkV p1 a1 p2 a2 (k + 1) (k + 1))); rfl; rfl; rfl; (first | exact .inl (by assumption) | exact .inr rfl | exact .inr (by assumption)); exact ⟨rfl, rfl, by kernel_rfl⟩; (exact Nat.lt_of_lt_of_eq (by omega) (bkv_size ..).symm); exact rfl; clear M; (try clear C); intro w9 M; simp only [List.set_cons_zero, List.set_cons_succ, entBlk, entT, List.getElem?_cons_zero, List.getElem?_cons_succ] at M; have C := M.ruleAll; simp only [Go.Proofs.YtinjjaoikofkdaaDoor.ruleAll] at C))
                exact ⟨p1, a1, p2, a2, M⟩
            · cases hi
          case hQ =>
            clear M
            try clear C
            intro g w2 hT
            obtain ⟨p1, a1, p2, a2, ⟨h, _⟩ | ⟨h, _⟩ | ⟨h, _⟩ | ⟨_, M⟩⟩ := hT
            · cases h
            · cases h
            · cases h
            · simp only [fullAct, Act.put, List.setIfInBounds_toArray, List.set_cons_succ, List.set_cons_zero]
              have C := M.ruleAll; simp only [Go.Proofs.YtinjjaoikofkdaaDoor.ruleAll] at C
              go_wp2
              go_roundw
              case rel => exact ⟨k + 1, p1, a1, p2, a2, by omega, by omega, by go_num, HGOOD.out HOKT.out, by
                rw [HE1.out, HE2.out]
                exact (M.sub [0, 1, 2, 3, 4] (by decide)).eq rfl⟩
              case measure => simp [intOf]; omega
    · obtain rfl : k = P.length := by omega
      have hge : ¬ ((P.length : Int) < (P.length : Int)) := by omega
      have dge : decide ((P.length : Int) < (P.length : Int)) = false := decide_eq_false hge
      have HA2 := Hid2.mk (show P.all okP = true by have := HALL.out; rwa [List.take_length] at this)
      rw [List.take_length] at M
      have HIN := Hid2.mk (HBK.out hk2 HA2.out)
      have HY := Hid2.mk (fun (h : isBk (P.map nmP) (P.map lpP) = true) => HYES0.out (by rw [HOKD.out]; exact ⟨hk2, HA2.out, h⟩))
      have HN := Hid2.mk (fun (h : isBk (P.map nmP) (P.map lpP) = false) => HNO0.out (fun h2 => by rw [HOKD.out] at h2; rw [h2.2.2] at h; cases h))
      have M1 : Mm no w wr [.row w.heap.size (.slice pp1 (P.map nmP).length c1) (P.map nmP).length (nmR (P.map nmP)) 9 1, .row w.heap.size (.slice pp2 (P.map lpP).length c2) (P.map lpP).length (slC (P.map lpP)) 36 101] := by rw [List.length_map, List.length_map]; exact (M.sub [0, 1] (by decide)).eq rfl
      have hp1 : 0 < (P.map nmP).length := by rw [List.length_map]; exact hpos
      have hp2 : 0 < (P.map lpP).length := by rw [List.length_map]; exact hpos
      obtain ⟨g1, cap1, hv1, -, -, hr1⟩ := own_rds (M1.row 0 rfl) (by omega)
      obtain ⟨g2, cap2, hv2, -, -, hr2⟩ := own_rds (M1.row 1 rfl) (by omega)
      have hc : (P.map nmP).length ≤ c1 := by
        obtain ⟨_, h | ⟨g', cap', cur, e1, _, _, hn, hc, _⟩⟩ := M1.row 0 rfl
        · have := h.1; omega
        · cases e1; exact hn
      cases hv1
      cases hv2
      have HBH := Hid2.mk (show BkHere (P.map nmP) (P.map lpP) wr g1 g2 from ⟨by obtain ⟨gg, e, h⟩ := nmR_rdq (M1.row 0 rfl) hp1; cases e; exact h, hr2, fun e => M1.dist 0 1 _ _ rfl rfl (by decide) g1 rfl (by rw [e]; rfl)⟩)
      have HC := Hid2.mk (fun w1 (hb1 : Below wr.heap.size wr w1) => isBookP_any HIN.out w1 (HBH.out.later hb1) c1 c2 hc)
      have HT := Hid2.mk (fun hv w1 (hb1 : Below wr.heap.size wr w1) => bookText_any HIN.out hv w1 (HBH.out.later hb1) c1 c2)
      simp only [List.length_map] at HC HT
      have HTX2 := Hid2.mk (HTX.out HA2.out)
      rw [HTX2.out] at HT
      have HC : Hid2 (∀ w1, Below wr.heap.size wr w1 → Calls Tryd.prog 15 #[.agg (bkV (some ⟨g1, 0, none⟩) c1 (some ⟨g2, 0, none⟩) c2 P.length P.length)] w1 fun e w' => e = .returned (.bool (isBk (P.map nmP) (P.map lpP))) ∧ Below w1.heap.size w1 w') := Hid2.mk HC.out
      have HT : Hid2 (isBk (P.map nmP) (P.map lpP) = true → ∀ w1, Below wr.heap.size wr w1 → Calls Tryd.prog 16 #[.agg (bkV (some ⟨g1, 0, none⟩) c1 (some ⟨g2, 0, none⟩) c2 P.length P.length)] w1 fun e w' => e = .returned (.string s) ∧ Below w1.heap.size w1 w') := Hid2.mk HT.out
      clear hr1 hr2 M1 hp1 hp2 HALL HB HSZ HNO0 HYES0 HBK hc HTX HTX2
      cases hi : isBk (P.map nmP) (P.map lpP) with
      | true =>
        have HR := Hid2.mk (HY.out hi)
        have HT2 := Hid2.mk (HT.out hi)
        simp only [hi] at HC
        clear hi HN HY HBH HIN HT
        have C := M.ruleAll; simp only [Go.Proofs.YtinjjaoikofkdaaDoor.ruleAll] at C
        go_wp2_with (first | ((with_reducible apply wpM_lda' M 3 25 0 (bkV (some ⟨g1, 0, none⟩) c1 (some ⟨g2, 0, none⟩) c2 P.length P.length)); rfl; rfl; rfl; exact ⟨rfl, inf_bok.trans (congrArg some (bkv_size ..).symm), _, und_bok, rfl⟩; exact whole_of rfl) | (go_at_call 15; fail))
        refine (HC.out _ (Below.refl _ _)).mono ?_
        rintro e w1 ⟨rfl, hb⟩
        have HT3 := Hid2.mk (HT2.out w1 hb)
        have M9 := M.later hb
        clear M; (try clear C)
        have M := M9
        clear M9 hb HC HT2
        have C := M.ruleAll; simp only [Go.Proofs.YtinjjaoikofkdaaDoor.ruleAll] at C
        go_wp2_with (first | ((with_reducible apply wpM_lda' M 3 25 0 (bkV (some ⟨g1, 0, none⟩) c1 (some ⟨g2, 0, none⟩) c2 P.length P.length)); rfl; rfl; rfl; exact ⟨rfl, inf_bok.trans (congrArg some (bkv_size ..).symm), _, und_bok, rfl⟩; exact whole_of rfl) | (go_at_call 16; fail))
        refine HT3.out.mono ?_
        rintro e w2 ⟨rfl, hb⟩
        have M9 := M.later hb
        clear M; (try clear C)
        have M := M9
        clear M9 hb HT3
        have C := M.ruleAll; simp only [Go.Proofs.YtinjjaoikofkdaaDoor.ruleAll] at C
        go_wp2_with (first | ((with_reducible apply wpM_lda' M 3 25 0 (bkV (some ⟨g1, 0, none⟩) c1 (some ⟨g2, 0, none⟩) c2 P.length P.length)); rfl; rfl; rfl; exact ⟨rfl, inf_bok.trans (congrArg some (bkv_size ..).symm), _, und_bok, rfl⟩; exact whole_of rfl) | ((with_reducible apply wpM_sta' M 4 25 (bkV (some ⟨g1, 0, none⟩) c1 (some ⟨g2, 0, none⟩) c2 P.length P.length)); rfl; rfl; rfl; rfl; (first | exact .inl (by assumption) | exact .inr rfl | exact .inr (by assumption)); exact ⟨rfl, inf_bok.trans (congrArg some (bkv_size ..).symm), flat_bkv _ _ _ _ _ _⟩; (simp only [entCells, List.getElem?_cons_zero, List.getElem?_cons_succ, bkv_size, bkv_size]); clear M; (try clear C); intro w9 M; simp only [List.set_cons_zero, List.set_cons_succ, entBlk, entT, List.getElem?_cons_zero, List.getElem?_cons_succ] at M; have C := M.ruleAll; simp only [Go.Proofs.YtinjjaoikofkdaaDoor.ruleAll] at C))
        refine bodyPost_ret (v := .tuple #[.agg (bkV (some ⟨g1, 0, none⟩) c1 (some ⟨g2, 0, none⟩) c2 P.length P.length), .int .i64 0]) (by exact results_part2 rfl _ _ _ _ (bkV (some ⟨g1, 0, none⟩) c1 (some ⟨g2, 0, none⟩) c2 P.length P.length) _ rfl und_bok rfl inf_bok (cells_of_blk0 (M.box 4 rfl)) _ rfl) rfl ?_
        rw [HR.out.1, HR.out.2.1, HR.out.2.2]
        unfold BkNew
        rw [List.length_map, List.length_map]
        exact ⟨some ⟨g1, 0, none⟩, c1, some ⟨g2, 0, none⟩, c2, rfl, (M.sub [0, 1] (by decide)).eq rfl⟩
      | false =>
        have HR := Hid2.mk (HN.out hi)
        simp only [hi] at HC
        clear hi HN HY HBH HIN HT
        have C := M.ruleAll; simp only [Go.Proofs.YtinjjaoikofkdaaDoor.ruleAll] at C
        go_wp2_with (first | ((with_reducible apply wpM_lda' M 3 25 0 (bkV (some ⟨g1, 0, none⟩) c1 (some ⟨g2, 0, none⟩) c2 P.length P.length)); rfl; rfl; rfl; exact ⟨rfl, inf_bok.trans (congrArg some (bkv_size ..).symm), _, und_bok, rfl⟩; exact whole_of rfl) | (go_at_call 15; fail))
        refine (HC.out _ (Below.refl _ _)).mono ?_
        rintro e w1 ⟨rfl, hb⟩
        have M9 := M.later hb
        clear M; (try clear C)
        have M := M9
        clear M9 hb HC
        have C := M.ruleAll; simp only [Go.Proofs.YtinjjaoikofkdaaDoor.ruleAll] at C
        go_wp2_with (first | (refine wpList_build 25 _ rfl rfl [] rfl _ (build_bkH _) ?_) | ((with_reducible apply wpM_sta' M 4 25 (bkV none 0 none 0 0 0)); rfl; rfl; rfl; rfl; (first | exact .inl (by assumption) | exact .inr rfl | exact .inr (by assumption)); exact ⟨rfl, inf_bok.trans (congrArg some (bkv_size ..).symm), flat_bkv _ _ _ _ _ _⟩; (simp only [entCells, List.getElem?_cons_zero, List.getElem?_cons_succ, bkv_size, bkv_size]); clear M; (try clear C); intro w9 M; simp only [List.set_cons_zero, List.set_cons_succ, entBlk, entT, List.getElem?_cons_zero, List.getElem?_cons_succ] at M; have C := M.ruleAll; simp only [Go.Proofs.YtinjjaoikofkdaaDoor.ruleAll] at C))
        refine bodyPost_ret (v := .tuple #[.agg (bkV none 0 none 0 0 0), .int .i64 6]) (by exact results_part2 rfl _ _ _ _ (bkV none 0 none 0 0 0) _ rfl und_bok rfl inf_bok (cells_of_blk0 (M.box 4 rfl)) _ rfl) rfl ?_
        rw [HR.out.1, HR.out.2.1, HR.out.2.2]
        exact bkErrP M.below 6
end Go.Proofs.YtinjjaoikofkdaaDoor

/- The law on the book of a text. -/
namespace Go.Proofs.YtinjjaoikofkdaaDoor
set_option linter.unusedSimpArgs false
set_option linter.unusedVariables false
open Go Go.RowKit

theorem pb_len (l : List Nat) : (pbN l).length ≤ 20 ∧ (pbL l).length ≤ 20 := by
  unfold pbN pbL
  split
  · rename_i h
    have h2 := h.2.1
    rw [List.length_map, List.length_map]
    exact ⟨h2, h2⟩
  · exact ⟨Nat.zero_le _, Nat.zero_le _⟩
/-- A text is that of its bytes. -/
def bsP (s : ByteArray) : List Nat := s.data.toList.map UInt8.toNat
theorem bsP_str (s : ByteArray) : s = str (bsP s) := nmB_str [s] 0
theorem bsP_byts (s : ByteArray) : Byts (bsP s) := fun x hx => by
  obtain ⟨y, _, rfl⟩ := List.mem_map.1 hx
  exact y.toNat_lt
theorem bsP_len (s : ByteArray) : (bsP s).length = s.size := by
  conv => rhs; rw [bsP_str s]
  rw [str_size]

set_option maxRecDepth 100000 in
set_option maxHeartbeats 8000000 in
theorem lawParseBook_any (s : ByteArray) (m : Int) (w : World) (hgl : Tryd.gML < w.heap.size) (hm : w.cell? ⟨Tryd.gML, 0, none⟩ = some (.int .i64 m)) :
    Calls Tryd.prog 3 #[.string s] w fun e w' => e = .returned (.bool true) ∧ Below w.heap.size w w' := by
  have M := Mm.start no w
  by_cases hlong : 1048576 < (s.size : Int)
  · clear hgl hm
    go_enter Tryd.func3, Tryd.ntmps3
    go_wp2
    go_ret
    exact ⟨rfl, M.below⟩
  have HML := Hid2.mk (fun w1 (hb : Below w.heap.size w w1) => (hb.cell (p := ⟨Tryd.gML, 0, none⟩) hgl).trans hm)
  have HS : Hid2 (∀ w1, Calls Tryd.prog 4 #[.string s] w1 fun e w' => BkNew (pbN (bsP s)) (pbL (bsP s)) (pbC (bsP s)) w1 e w') := Hid2.mk (fun w1 => by
    have h := specParseBook_any (bsP s) (bsP_byts s) (by rw [bsP_len]; omega) w1
    rwa [← bsP_str] at h)
  have HP : Hid2 (∀ w1, Below w.heap.size w w1 → Calls Tryd.prog 5 #[.string s] w1 fun e w' => BkNew (pbN (bsP s)) (pbL (bsP s)) (pbC (bsP s)) w1 e w') := Hid2.mk (fun w1 hb => by
    have h := implParseBook_any (bsP s) (bsP_byts s) (by rw [bsP_len]; omega) m w1 (Nat.lt_of_lt_of_le hgl hb.size) (HML.out w1 hb)
    rwa [← bsP_str] at h)
  have hN := (pb_len (bsP s)).1
  have hQ := (pb_len (bsP s)).2
  clear hgl hm HML
  generalize pbN (bsP s) = N at *
  generalize pbL (bsP s) = Q at *
  generalize pbC (bsP s) = d at *
  have HEQ := Hid2.mk (fun w1 pa pb pc pd ca cb cc cd h1 h2 h3 h4 => eqBook_any N Q (by omega) (by omega) w1 pa pb pc pd ca cb cc cd h1 h2 h3 h4)
  have hdd : (d == d) = true := by simp
  go_enter Tryd.func3, Tryd.ntmps3
  go_wp2_with (first | (go_at_call 4; fail))
  refine (HS.out _).mono ?_
  rintro e w1 ⟨pAa, cAa, pAb, cAb, rfl, M'⟩
  have hbA := M.size
  have M9 := M.join M' (newRows M')
  simp only [List.cons_append, List.nil_append] at M9
  clear M; (try clear C)
  have M := M9
  clear M9 M'
  have C := M.ruleAll; simp only [Go.Proofs.YtinjjaoikofkdaaDoor.ruleAll] at C
  go_wp2_with (first | ((with_reducible apply wpM_alloc' M 25 (bkV none 0 none 0 0 0)); rfl; exact ⟨rfl, _, zero_bkH _, rfl⟩; clear M; (try clear C); intro b3 w9 h_b3 M; have C := M.ruleAll; simp only [Go.Proofs.YtinjjaoikofkdaaDoor.ruleAll] at C) | ((with_reducible apply wpM_sta' M 0 25 (bkV pAa cAa pAb cAb N.length Q.length)); rfl; rfl; rfl; rfl; (first | exact .inl (by assumption) | exact .inr rfl | exact .inr (by assumption)); exact ⟨rfl, inf_bok.trans (congrArg some (bkv_size ..).symm), flat_bkv _ _ _ _ _ _⟩; (simp only [entCells, List.getElem?_cons_zero, List.getElem?_cons_succ, bkv_size, bkv_size]); clear M; (try clear C); intro w9 M; simp only [List.set_cons_zero, List.set_cons_succ, entBlk, entT, List.getElem?_cons_zero, List.getElem?_cons_succ] at M; have C := M.ruleAll; simp only [Go.Proofs.YtinjjaoikofkdaaDoor.ruleAll] at C) | (go_at_call 5; fail))
  refine (HP.out _ M.below).mono ?_
  rintro e w1 ⟨pCa, cCa, pCb, cCb, rfl, M'⟩
  have hbC := M.size
  have M9 := M.join M' (newRows M')
  simp only [List.cons_append, List.nil_append] at M9
  clear M; (try clear C)
  have M := M9
  clear M9 M'
  have C := M.ruleAll; simp only [Go.Proofs.YtinjjaoikofkdaaDoor.ruleAll] at C
  go_wp2_with (first | ((with_reducible apply wpM_alloc' M 25 (bkV none 0 none 0 0 0)); rfl; exact ⟨rfl, _, zero_bkH _, rfl⟩; clear M; (try clear C); intro b5 w9 h_b5 M; have C := M.ruleAll; simp only [Go.Proofs.YtinjjaoikofkdaaDoor.ruleAll] at C) | ((with_reducible apply wpM_sta' M 0 25 (bkV pCa cCa pCb cCb N.length Q.length)); rfl; rfl; rfl; rfl; (first | exact .inl (by assumption) | exact .inr rfl | exact .inr (by assumption)); exact ⟨rfl, inf_bok.trans (congrArg some (bkv_size ..).symm), flat_bkv _ _ _ _ _ _⟩; (simp only [entCells, List.getElem?_cons_zero, List.getElem?_cons_succ, bkv_size, bkv_size]); clear M; (try clear C); intro w9 M; simp only [List.set_cons_zero, List.set_cons_succ, entBlk, entT, List.getElem?_cons_zero, List.getElem?_cons_succ] at M; have C := M.ruleAll; simp only [Go.Proofs.YtinjjaoikofkdaaDoor.ruleAll] at C) | ((with_reducible apply wpM_lda' M 0 25 0 (bkV pCa cCa pCb cCb N.length Q.length)); rfl; rfl; rfl; exact ⟨rfl, inf_bok.trans (congrArg some (bkv_size ..).symm), _, und_bok, rfl⟩; exact whole_of rfl) | ((with_reducible apply wpM_lda' M 3 25 0 (bkV pAa cAa pAb cAb N.length Q.length)); rfl; rfl; rfl; exact ⟨rfl, inf_bok.trans (congrArg some (bkv_size ..).symm), _, und_bok, rfl⟩; exact whole_of rfl) | (go_at_call 6; ((with_reducible refine (HEQ.out _ _ _ _ _ _ _ _ _ (nmR_rdq (M.row 1 rfl)) (slR_rdq (M.row 2 rfl)) (nmR_rdq (M.row 4 rfl)) (slR_rdq (M.row 5 rfl))).mono ?_); rintro e w1 ⟨rfl, hb⟩; have hsz := M.size; (try (have G9 := G.later hb; clear G; have G := G9; clear G9)); have M9 := M.later hb; clear M; (try clear C); have M := M9; clear M9; have C := M.ruleAll; simp only [Go.Proofs.YtinjjaoikofkdaaDoor.ruleAll] at C)) | (go_at_call 7; fail))
  refine (markBook_any _ N.length Q.length _ _ _ _ (nmR N) (slC Q) 1 (by omega) (by omega) (by omega) _ (M.sub [1, 2] (by decide)).anew).mono ?_
  rintro e w3 ⟨rfl, ys3, ys4, hy3, hy4, M'⟩
  have M8 := M.sub [1, 2, 0, 3, 4, 5] (by decide)
  simp only [List.filterMap_cons, List.filterMap_nil, List.getElem?_cons_succ, List.getElem?_cons_zero] at M8
  have M9 := M8.markd hbC M'
  clear M; (try clear C)
  have M := M9
  clear M8 M9 M'
  have C := M.ruleAll; simp only [Go.Proofs.YtinjjaoikofkdaaDoor.ruleAll] at C
  have HHB := Hid2.mk (fun w1 h1 h2 => heldBook1_any N.length Q.length cCa cCb pCa pCb (by omega) (by omega) w1 (fun j => ys4.getD j undef) h1 h2 (fun j hj => by rw [List.getD_eq_getElem?_getD, hy4.2 j hj]; rfl))
  have HY3 := Hid2.mk hy3
  clear hy3 hy4
  have hk2 : ¬ ((1 + N.length + Q.length : Nat) : Int) < 0 := by omega
  generalize ((1 + N.length + Q.length : Nat) : Int) = kk2 at hk2 HHB ⊢
  have hkk : (kk2 == kk2) = true := by simp
  go_wp2_with (first | ((with_reducible apply wpM_lda' M 2 25 0 (bkV pCa cCa pCb cCb N.length Q.length)); rfl; rfl; rfl; exact ⟨rfl, inf_bok.trans (congrArg some (bkv_size ..).symm), _, und_bok, rfl⟩; exact whole_of rfl) | (go_at_call 8; ((with_reducible refine (HHB.out _ (mkdS_rdq HY3.out (M.row 0 rfl)) (rdq_of_own (M.row 1 rfl))).mono ?_); rintro e w1 ⟨rfl, hb⟩; have hsz := M.size; (try (have G9 := G.later hb; clear G; have G := G9; clear G9)); have M9 := M.later hb; clear M; (try clear C); have M := M9; clear M9; have C := M.ruleAll; simp only [Go.Proofs.YtinjjaoikofkdaaDoor.ruleAll] at C)) | (go_at_call 5; fail))
  refine (HP.out _ M.below).mono ?_
  rintro e w1 ⟨pEa, cEa, pEb, cEb, rfl, M'⟩
  have M9 := M.join M' (newRows M')
  simp only [List.cons_append, List.nil_append] at M9
  clear M; (try clear C)
  have M := M9
  clear M9 M'
  have C := M.ruleAll; simp only [Go.Proofs.YtinjjaoikofkdaaDoor.ruleAll] at C
  go_wp2_with (first | ((with_reducible apply wpM_alloc' M 25 (bkV none 0 none 0 0 0)); rfl; exact ⟨rfl, _, zero_bkH _, rfl⟩; clear M; (try clear C); intro b9 w9 h_b9 M; have C := M.ruleAll; simp only [Go.Proofs.YtinjjaoikofkdaaDoor.ruleAll] at C) | ((with_reducible apply wpM_sta' M 0 25 (bkV pEa cEa pEb cEb N.length Q.length)); rfl; rfl; rfl; rfl; (first | exact .inl (by assumption) | exact .inr rfl | exact .inr (by assumption)); exact ⟨rfl, inf_bok.trans (congrArg some (bkv_size ..).symm), flat_bkv _ _ _ _ _ _⟩; (simp only [entCells, List.getElem?_cons_zero, List.getElem?_cons_succ, bkv_size, bkv_size]); clear M; (try clear C); intro w9 M; simp only [List.set_cons_zero, List.set_cons_succ, entBlk, entT, List.getElem?_cons_zero, List.getElem?_cons_succ] at M; have C := M.ruleAll; simp only [Go.Proofs.YtinjjaoikofkdaaDoor.ruleAll] at C) | ((with_reducible apply wpM_lda' M 0 25 0 (bkV pEa cEa pEb cEb N.length Q.length)); rfl; rfl; rfl; exact ⟨rfl, inf_bok.trans (congrArg some (bkv_size ..).symm), _, und_bok, rfl⟩; exact whole_of rfl) | ((with_reducible apply wpM_lda' M 6 25 0 (bkV pAa cAa pAb cAb N.length Q.length)); rfl; rfl; rfl; exact ⟨rfl, inf_bok.trans (congrArg some (bkv_size ..).symm), _, und_bok, rfl⟩; exact whole_of rfl) | (go_at_call 6; ((with_reducible refine (HEQ.out _ _ _ _ _ _ _ _ _ (nmR_rdq (M.row 1 rfl)) (slR_rdq (M.row 2 rfl)) (nmR_rdq (M.row 7 rfl)) (slR_rdq (M.row 8 rfl))).mono ?_); rintro e w1 ⟨rfl, hb⟩; have hsz := M.size; (try (have G9 := G.later hb; clear G; have G := G9; clear G9)); have M9 := M.later hb; clear M; (try clear C); have M := M9; clear M9; have C := M.ruleAll; simp only [Go.Proofs.YtinjjaoikofkdaaDoor.ruleAll] at C)) | ((with_reducible apply wpM_lda' M 5 25 0 (bkV pCa cCa pCb cCb N.length Q.length)); rfl; rfl; rfl; exact ⟨rfl, inf_bok.trans (congrArg some (bkv_size ..).symm), _, und_bok, rfl⟩; exact whole_of rfl) | (go_at_call 8; ((with_reducible refine (HHB.out _ (mkdS_rdq HY3.out (M.row 3 rfl)) (rdq_of_own (M.row 4 rfl))).mono ?_); rintro e w1 ⟨rfl, hb⟩; have hsz := M.size; (try (have G9 := G.later hb; clear G; have G := G9; clear G9)); have M9 := M.later hb; clear M; (try clear C); have M := M9; clear M9; have C := M.ruleAll; simp only [Go.Proofs.YtinjjaoikofkdaaDoor.ruleAll] at C)))
  go_ret
  exact ⟨rfl, M.below⟩
end Go.Proofs.YtinjjaoikofkdaaDoor

