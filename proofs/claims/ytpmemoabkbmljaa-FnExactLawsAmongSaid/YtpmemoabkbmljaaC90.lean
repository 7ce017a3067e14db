/- Which of some texts of identities hold everywhere, on both sides: contracts. -/
import Derived.Test.YtpmemoabkbmljaaC89
import Derived.Test.YtpmemoabkbmljaaC68
import Derived.Test.YtpmemoabkbmljaaK20
namespace Go.Proofs.Ytpmemoabkbmljaa
set_option linter.unusedSimpArgs false
set_option linter.unusedVariables false
open Go Go.RowKit

noncomputable def holdsB (n : Nat) (t : Nat → Nat → Nat) (xs ys : List Nat) : Bool := (fst3 (neB t (elB xs) xs.length (elB ys) ys.length) n n n).isNone
set_option maxRecDepth 100000 in
set_option maxHeartbeats 1000000 in
theorem l03Holds_any (n : Nat) (t : Nat → Nat → Nat) (hs : IsSq (n : Int) t) (xs ys : List Nat) (hX : isTm (elB xs) xs.length = true) (hY : isTm (elB ys) ys.length = true) (w : World) (p1 p2 : Option Addr) (c1 c2 : Nat) (r1 : rdq w p1 xs.length (bytF xs)) (r2 : rdq w p2 ys.length (bytF ys)) :
    Calls Try.prog 32 #[.agg (sqs n t), .agg (idV p1 c1 p2 c2 xs.length ys.length)] w fun e w' => e = .returned (.bool (holdsB n t xs ys)) ∧ Below w.heap.size w w' := by
  have M := Mm.start no w
  have HF := fun w1 (hb : Below w.heap.size w w1) => l03Fails_any n t hs xs ys hX hY w1 p1 p2 c1 c2 (r1.later hb) (r2.later hb)
  have HH := Hid2.mk (show holdsB n t xs ys = (fst3 (neB t (elB xs) xs.length (elB ys) ys.length) n n n).isNone from rfl)
  generalize holdsB n t xs ys = b at HH ⊢
  generalize fst3 (neB t (elB xs) xs.length (elB ys) ys.length) n n n = o at HF HH
  clear hs hX hY r1 r2
  rcases o with _ | ⟨x, y, z⟩
  · have hb : b = true := HH.out
    subst hb
    go_enter Try.func32, Try.ntmps32
    go_wp2_with (first | ((with_reducible apply wpM_box' M 37 (idV p1 c1 p2 c2 xs.length ys.length)); rfl; exact ⟨rfl, rfl⟩; clear M; (try clear C); intro bi w9 h_bi M; have C := M.ruleAll; simp only [Go.Proofs.Ytpmemoabkbmljaa.ruleAll] at C) | ((with_reducible apply wpM_box' M 35 (sqs (n : Int) t)); rfl; exact ⟨rfl, rfl⟩; clear M; (try clear C); intro bq w9 h_bq M; have C := M.ruleAll; simp only [Go.Proofs.Ytpmemoabkbmljaa.ruleAll] at C) | ((with_reducible apply wpM_lda' M 1 35 0 (sqs (n : Int) t)); rfl; rfl; rfl; exact ⟨rfl, inf_sqs.trans (congrArg some (sqs_size ..).symm), _, und_sqs, rfl⟩; exact whole_of rfl) | ((with_reducible apply wpM_lda' M 0 37 0 (idV p1 c1 p2 c2 xs.length ys.length)); rfl; rfl; rfl; exact ⟨rfl, inf_idn.trans (congrArg some (idv_size ..).symm), _, und_idn, rfl⟩; exact whole_of rfl) | (go_at_call 23; ((with_reducible refine (HF _ M.below).mono ?_); rintro e w1 ⟨rfl, hb⟩; have hsz := M.size; (try (have G9 := G.later hb; clear G; have G := G9; clear G9)); have M9 := M.later hb; clear M; (try clear C); have M := M9; clear M9; have C := M.ruleAll; simp only [Go.Proofs.Ytpmemoabkbmljaa.ruleAll] at C)))
    go_ret
    exact ⟨rfl, M.below⟩
  · have hb : b = false := HH.out
    subst hb
    go_enter Try.func32, Try.ntmps32
    go_wp2_with (first | ((with_reducible apply wpM_box' M 37 (idV p1 c1 p2 c2 xs.length ys.length)); rfl; exact ⟨rfl, rfl⟩; clear M; (try clear C); intro bi w9 h_bi M; have C := M.ruleAll; simp only [Go.Proofs.Ytpmemoabkbmljaa.ruleAll] at C) | ((with_reducible apply wpM_box' M 35 (sqs (n : Int) t)); rfl; exact ⟨rfl, rfl⟩; clear M; (try clear C); intro bq w9 h_bq M; have C := M.ruleAll; simp only [Go.Proofs.Ytpmemoabkbmljaa.ruleAll] at C) | ((with_reducible apply wpM_lda' M 1 35 0 (sqs (n : Int) t)); rfl; rfl; rfl; exact ⟨rfl, inf_sqs.trans (congrArg some (sqs_size ..).symm), _, und_sqs, rfl⟩; exact whole_of rfl) | ((with_reducible apply wpM_lda' M 0 37 0 (idV p1 c1 p2 c2 xs.length ys.length)); rfl; rfl; rfl; exact ⟨rfl, inf_idn.trans (congrArg some (idv_size ..).symm), _, und_idn, rfl⟩; exact whole_of rfl) | (go_at_call 23; fail))
    refine (HF _ M.below).mono ?_
    rintro e w4 ⟨g, rfl, hg, M'⟩
    have M9 := M.later M'.below
    clear M; (try clear C)
    have M := M9
    clear M9 M' hg
    go_wp2
    go_ret
    exact ⟨rfl, M.below⟩

/-- What is known of one text: no identity, or whether it holds. -/
noncomputable def laAt (n : Nat) (t : Nat → Nat → Nat) (l : List Nat) : Option Bool := match rdI l with | none => none | some (xs, ys) => some (holdsB n t xs ys)
noncomputable def laTo (at_ : Nat → Option Bool) : Nat → Option (List Int)
  | 0 => some []
  | k + 1 => match laTo at_ k with
    | none => none
    | some out => match at_ k with | none => none | some b => some (if b = true then out ++ [(k : Int)] else out)
theorem laTo_none {f : Nat → Option Bool} {k : Nat} (h : laTo f k = none) : ∀ m, k ≤ m → laTo f m = none := by
  intro m hm
  induction m with
  | zero => obtain rfl : k = 0 := by omega
            exact h
  | succ m ih =>
    by_cases e : k = m + 1
    · subst e; exact h
    · rw [laTo, ih (by omega)]
theorem laTo_len {f : Nat → Option Bool} : ∀ {k : Nat} {out : List Int}, laTo f k = some out → out.length ≤ k
  | 0, out, h => by cases h; exact Nat.le_refl _
  | k + 1, out, h => by
    rw [laTo] at h
    split at h
    · cases h
    · rename_i o ho
      have := laTo_len ho
      split at h
      · cases h
      · cases h
        split
        · simp only [List.length_append, List.length_singleton]; omega
        · omega
noncomputable def laRes (n : Int) (t : Nat → Nat → Nat) (ls : List (List Nat)) : List Int × Int :=
  if isSq n t = true then (if 30 < ls.length then ([], 2) else match laTo (fun k => laAt n.toNat t (ls.getD k [])) ls.length with | none => ([], 6) | some out => (out, 0)) else ([], 1)
/-- Texts as cells. -/
def txF (ls : List (List Nat)) (j : Nat) : Value := .string (str (ls.getD j []))
theorem bsl_i640 (w : World) : (Instr.buildSlice 30 0 [].toArray).run Try.prog w = .ok (.slice (some ⟨w.heap.size, 0, none⟩) 0 0) (w.alloc (.cells #[] 2)) := by kernel_rfl
theorem bsl_i641 (x : Int) (w : World) : (Instr.buildSlice 30 1 [(0, Value.int .i64 x)].toArray).run Try.prog w = .ok (.slice (some ⟨w.heap.size, 0, none⟩) 1 1) (w.alloc (.cells #[.int .i64 x] 2)) := by kernel_rfl
theorem flat_i1 (x : Int) : flat #[.int .i64 x] := fun u hu => by
  have : u = .int .i64 x := by simpa using hu
  subst this; rfl

theorem isSq_nat {n : Int} {t : Nat → Nat → Nat} (h : isSq n t = true) : ∃ N : Nat, n = N ∧ IsSq (N : Int) t := by
  have hs := isSq_true.1 h
  exact ⟨n.toNat, by have := hs.lo; omega, by rw [show ((n.toNat : Nat) : Int) = n by have := hs.lo; omega]; exact hs⟩
set_option maxRecDepth 100000 in
set_option maxHeartbeats 8000000 in
theorem specLawsAmong_any (n : Int) (t : Nat → Nat → Nat) (hby : Byt2 t) (ls : List (List Nat)) (hn : ls.length ≤ maxLen) (hls : ∀ l ∈ ls, l.length ≤ maxLen ∧ Byts l) (w : World) (p : Option Addr) (cap : Nat) (hr : rdq w p ls.length (txF ls)) :
    Calls Try.prog 16 #[.agg (sqs n t), .slice p ls.length cap] w (FaPost (laRes n t ls).1 (laRes n t ls).2 w) := by
  have M := Mm.start no w
  have HS := Hid2.mk (fun w1 => l01Is_any n t w1 hby)
  have hn2 : ls.length ≤ 9223372036854775807 := Nat.le_trans hn (by decide)
  cases hsq : isSq n t with
  | false =>
    have hres : laRes n t ls = ([], 1) := if_neg (by rw [hsq]; exact Bool.false_ne_true)
    rw [hres]
    rw [hsq] at HS
    clear hby hr hls hres
    go_enter Try.func16, Try.ntmps16
    go_wp2_with (first | ((with_reducible apply wpM_box' M 35 (sqs n t)); rfl; exact ⟨rfl, rfl⟩; clear M; (try clear C); intro bq w9 h_bq M; have C := M.ruleAll; simp only [Go.Proofs.Ytpmemoabkbmljaa.ruleAll] at C) | ((with_reducible apply wpM_lda' M 0 35 0 (sqs n t)); rfl; rfl; rfl; exact ⟨rfl, inf_sqs.trans (congrArg some (sqs_size ..).symm), _, und_sqs, rfl⟩; exact whole_of rfl) | (go_at_call 30; ((with_reducible refine (HS.out _).mono ?_); rintro e w1 ⟨rfl, hb⟩; have hsz := M.size; (try (have G9 := G.later hb; clear G; have G := G9; clear G9)); have M9 := M.later hb; clear M; (try clear C); have M := M9; clear M9; have C := M.ruleAll; simp only [Go.Proofs.Ytpmemoabkbmljaa.ruleAll] at C)))
    go_ret2
    exact FaPost.nil2 M.below 1
  | true =>
    rw [hsq] at HS
    obtain ⟨N, rfl, hs⟩ := isSq_nat hsq
    by_cases h30 : 30 < ls.length
    · have hres : laRes N t ls = ([], 2) := (if_pos hsq).trans (if_pos h30)
      have h1 : (30 : Int) < (ls.length : Int) := by omega
      rw [hres]
      clear hby hr hls hres
      go_enter Try.func16, Try.ntmps16
      go_wp2_with (first | ((with_reducible apply wpM_box' M 35 (sqs (N : Int) t)); rfl; exact ⟨rfl, rfl⟩; clear M; (try clear C); intro bq w9 h_bq M; have C := M.ruleAll; simp only [Go.Proofs.Ytpmemoabkbmljaa.ruleAll] at C) | ((with_reducible apply wpM_lda' M 0 35 0 (sqs (N : Int) t)); rfl; rfl; rfl; exact ⟨rfl, inf_sqs.trans (congrArg some (sqs_size ..).symm), _, und_sqs, rfl⟩; exact whole_of rfl) | (go_at_call 30; ((with_reducible refine (HS.out _).mono ?_); rintro e w1 ⟨rfl, hb⟩; have hsz := M.size; (try (have G9 := G.later hb; clear G; have G := G9; clear G9)); have M9 := M.later hb; clear M; (try clear C); have M := M9; clear M9; have C := M.ruleAll; simp only [Go.Proofs.Ytpmemoabkbmljaa.ruleAll] at C)))
      go_ret2
      exact FaPost.nil2 M.below 2
    · have h1 : ¬ (30 : Int) < (ls.length : Int) := by omega
      have h30' : ls.length ≤ 30 := by omega
      have HRES := Hid2.mk (show laRes N t ls = (match laTo (fun k => laAt N t (ls.getD k [])) ls.length with | none => ([], 6) | some out => (out, 0)) from (if_pos hsq).trans (if_neg h30))
      have F1 := Hid2.mk (fun w1 (hb : Below w.heap.size w w1) => hr.later hb)
      have HLS := Hid2.mk (show ∀ k, k < ls.length → (ls.getD k []).length ≤ maxLen ∧ Byts (ls.getD k []) from fun k hk => hls _ (by rw [List.getD_eq_getElem?_getD, List.getElem?_eq_getElem hk]; exact List.getElem_mem hk))
      have HP := Hid2.mk (fun k (hk : k < ls.length) w1 => rd_same (ls.getD k []) ▸ l03Read_any (ls.getD k []) (HLS.out k hk).1 (HLS.out k hk).2 w1)
      generalize hf : (fun k => laAt N t (ls.getD k [])) = f at HRES
      have HF := Hid2.mk (show ∀ k, f k = laAt N t (ls.getD k []) from fun k => by rw [← hf])
      generalize laRes N t ls = res at HRES ⊢
      clear hby hr hls hf h30 hsq
      go_enter Try.func16, Try.ntmps16
      go_wp2_with (first | ((with_reducible apply wpM_box' M 35 (sqs (N : Int) t)); rfl; exact ⟨rfl, rfl⟩; clear M; (try clear C); intro bq w9 h_bq M; have C := M.ruleAll; simp only [Go.Proofs.Ytpmemoabkbmljaa.ruleAll] at C) | ((with_reducible apply wpM_lda' M 0 35 0 (sqs (N : Int) t)); rfl; rfl; rfl; exact ⟨rfl, inf_sqs.trans (congrArg some (sqs_size ..).symm), _, und_sqs, rfl⟩; exact whole_of rfl) | (go_at_call 30; ((with_reducible refine (HS.out _).mono ?_); rintro e w1 ⟨rfl, hb⟩; have hsz := M.size; (try (have G9 := G.later hb; clear G; have G := G9; clear G9)); have M9 := M.later hb; clear M; (try clear C); have M := M9; clear M9; have C := M.ruleAll; simp only [Go.Proofs.Ytpmemoabkbmljaa.ruleAll] at C)) | ((with_reducible apply wpM_bsl' M 30 0 2 ([]) (#[])); rfl; rfl; rfl; exact bsl_i640; clear M; (try clear C); intro bo w9 h_bo M; have C := M.ruleAll; simp only [Go.Proofs.Ytpmemoabkbmljaa.ruleAll] at C))
      have M9 := M.asRow 0 rfl w.heap.size 0 1 h_bo rfl (Nat.zero_le _)
      simp only [List.set_cons_zero] at M9
      clear M; (try clear C)
      have M := M9
      clear M9
      have C := M.ruleAll; simp only [Go.Proofs.Ytpmemoabkbmljaa.ruleAll] at C
      go_loopw [7, 6, 8, 9] (fun i v _ _ wr => ∃ (k : Nat) (out : List Int) (v' : Value), k ≤ ls.length ∧ i = .int .i64 (k : Int) ∧ v = v' ∧ laTo f k = some out ∧ Mm no w wr [.row w.heap.size v' out.length (i64s out) 2 1, .box bq (sqs (N : Int) t) 35]) (fun i _ _ _ _ => ls.length - (intOf i).toNat)
      case atStart => exact ⟨0, [], _, by omega, rfl, rfl, rfl, M⟩
      case round =>
        obtain ⟨k, out, v, hk, rfl, rfl, ht, M9⟩ := hrel
        obtain ⟨pp, cc, rfl⟩ := own_form (M9.row 0 rfl)
        clear M; (try clear C)
        have M := M9
        clear M9
        have C := M.ruleAll; simp only [Go.Proofs.Ytpmemoabkbmljaa.ruleAll] at C
        have HT := Hid2.mk ht
        have hol := laTo_len ht
        clear ht
        by_cases hlt : k < ls.length
        · have hlt' : (k : Int) < (ls.length : Int) := by omega
          obtain ⟨gx, rfl, hrr⟩ := F1.out _ M.below (by omega)
          have hc0 : wr.cell? ⟨gx, k, none⟩ = some (txF ls k) := hrr.at_ k hlt
          have hc1 : wr.cell? ⟨gx, k, none⟩ = some (.string (str (ls.getD k []))) := hc0
          clear hrr hc0
          have HPK := Hid2.mk (HP.out k hlt)
          have HFK := HF.out k
          unfold laAt at HFK
          generalize str (ls.getD k []) = s at hc1 HPK
          generalize ho : rdI (ls.getD k []) = o at HPK HFK
          have HO := Hid2.mk ho
          clear ho
          rcases o with _ | ⟨xs, ys⟩
          · have hno : laTo f (k + 1) = none := by rw [laTo, HT.out, HFK]
            have hr : res = ([], 6) := by rw [HRES.out, laTo_none hno _ (by omega)]
            subst hr
            clear HFK HRES hno
            go_wp2_with (first | (go_at_call 31; fail))
            refine (HPK.out _).mono ?_
            rintro e w1 ⟨p1, c1, p2, c2, n1, m1, rfl, hb⟩
            have M9 := M.later hb
            clear M; (try clear C)
            have M := M9
            clear M9 hb hc1
            go_wp2_with (first | ((with_reducible apply wpM_alloc' M 37 (idV none 0 none 0 0 0)); rfl; exact ⟨rfl, _, zero_idn _, rfl⟩; clear M; (try clear C); intro bi w9 h_bi M; have C := M.ruleAll; simp only [Go.Proofs.Ytpmemoabkbmljaa.ruleAll] at C) | ((with_reducible apply wpM_sta' M 0 37 (idV p1 c1 p2 c2 n1 m1)); rfl; rfl; rfl; rfl; (first | exact .inl (by assumption) | exact .inr rfl | exact .inr (by assumption)); exact ⟨rfl, inf_idn.trans (congrArg some (idv_size ..).symm), flat_idv _ _ _ _ _ _⟩; (simp only [entCells, List.getElem?_cons_zero, List.getElem?_cons_succ, idv_size, idv_size]); clear M; (try clear C); intro w9 M; simp only [List.set_cons_zero, List.set_cons_succ, entBlk, entT, List.getElem?_cons_zero, List.getElem?_cons_succ] at M; have C := M.ruleAll; simp only [Go.Proofs.Ytpmemoabkbmljaa.ruleAll] at C))
            go_ret2
            exact FaPost.nil2 M.below 6
          · have HID := Hid2.mk (isId_iff.1 (rdI_iff.1 HO.out).1)
            have HH := Hid2.mk (fun w1 p1 c1 p2 c2 r1 r2 => l03Holds_any N t hs xs ys HID.out.1 HID.out.2 w1 p1 p2 c1 c2 r1 r2)
            have HNX := Hid2.mk (show laTo f (k + 1) = some (if holdsB N t xs ys = true then out ++ [(k : Int)] else out) by rw [laTo, HT.out, HFK])
            generalize holdsB N t xs ys = hb at HH HNX
            clear HFK HO
            go_wp2_with (first | (go_at_call 31; fail))
            refine (HPK.out _).mono ?_
            rintro e w1 ⟨p1, c1, p2, c2, rfl, M'⟩
            have M9 := M.joinRows M'
            clear M; (try clear C)
            have M := M9
            clear M9 M' hc1
            have C := M.ruleAll; simp only [Go.Proofs.Ytpmemoabkbmljaa.ruleAll] at C
            cases hb with
            | false =>
              go_wp2_with (first | ((with_reducible apply wpM_alloc' M 37 (idV none 0 none 0 0 0)); rfl; exact ⟨rfl, _, zero_idn _, rfl⟩; clear M; (try clear C); intro bi w9 h_bi M; have C := M.ruleAll; simp only [Go.Proofs.Ytpmemoabkbmljaa.ruleAll] at C) | ((with_reducible apply wpM_sta' M 0 37 (idV p1 c1 p2 c2 xs.length ys.length)); rfl; rfl; rfl; rfl; (first | exact .inl (by assumption) | exact .inr rfl | exact .inr (by assumption)); exact ⟨rfl, inf_idn.trans (congrArg some (idv_size ..).symm), flat_idv _ _ _ _ _ _⟩; (simp only [entCells, List.getElem?_cons_zero, List.getElem?_cons_succ, idv_size, idv_size]); clear M; (try clear C); intro w9 M; simp only [List.set_cons_zero, List.set_cons_succ, entBlk, entT, List.getElem?_cons_zero, List.getElem?_cons_succ] at M; have C := M.ruleAll; simp only [Go.Proofs.Ytpmemoabkbmljaa.ruleAll] at C) | ((with_reducible apply wpM_lda' M 4 35 0 (sqs (N : Int) t)); rfl; rfl; rfl; exact ⟨rfl, inf_sqs.trans (congrArg some (sqs_size ..).symm), _, und_sqs, rfl⟩; exact whole_of rfl) | ((with_reducible apply wpM_lda' M 0 37 0 (idV p1 c1 p2 c2 xs.length ys.length)); rfl; rfl; rfl; exact ⟨rfl, inf_idn.trans (congrArg some (idv_size ..).symm), _, und_idn, rfl⟩; exact whole_of rfl) | (go_at_call 32; ((with_reducible refine (HH.out _ _ _ _ _ (u8_rdq rfl (M.row 1 rfl)) (u8_rdq rfl (M.row 2 rfl))).mono ?_); rintro e w5 ⟨rfl, hb⟩; have hsz := M.size; (try (have G9 := G.later hb; clear G; have G := G9; clear G9)); have M9 := M.later hb; clear M; (try clear C); have M := M9; clear M9; have C := M.ruleAll; simp only [Go.Proofs.Ytpmemoabkbmljaa.ruleAll] at C)))
              go_roundw
              case rel => exact ⟨k + 1, out, _, by omega, by go_num, rfl, HNX.out, M.sub [3, 4] (by decide)⟩
              case measure => simp [intOf]; omega
            | true =>
              go_wp2_with (first | ((with_reducible apply wpM_alloc' M 37 (idV none 0 none 0 0 0)); rfl; exact ⟨rfl, _, zero_idn _, rfl⟩; clear M; (try clear C); intro bi w9 h_bi M; have C := M.ruleAll; simp only [Go.Proofs.Ytpmemoabkbmljaa.ruleAll] at C) | ((with_reducible apply wpM_sta' M 0 37 (idV p1 c1 p2 c2 xs.length ys.length)); rfl; rfl; rfl; rfl; (first | exact .inl (by assumption) | exact .inr rfl | exact .inr (by assumption)); exact ⟨rfl, inf_idn.trans (congrArg some (idv_size ..).symm), flat_idv _ _ _ _ _ _⟩; (simp only [entCells, List.getElem?_cons_zero, List.getElem?_cons_succ, idv_size, idv_size]); clear M; (try clear C); intro w9 M; simp only [List.set_cons_zero, List.set_cons_succ, entBlk, entT, List.getElem?_cons_zero, List.getElem?_cons_succ] at M; have C := M.ruleAll; simp only [Go.Proofs.Ytpmemoabkbmljaa.ruleAll] at C) | ((with_reducible apply wpM_lda' M 4 35 0 (sqs (N : Int) t)); rfl; rfl; rfl; exact ⟨rfl, inf_sqs.trans (congrArg some (sqs_size ..).symm), _, und_sqs, rfl⟩; exact whole_of rfl) | ((with_reducible apply wpM_lda' M 0 37 0 (idV p1 c1 p2 c2 xs.length ys.length)); rfl; rfl; rfl; exact ⟨rfl, inf_idn.trans (congrArg some (idv_size ..).symm), _, und_idn, rfl⟩; exact whole_of rfl) | (go_at_call 32; ((with_reducible refine (HH.out _ _ _ _ _ (u8_rdq rfl (M.row 1 rfl)) (u8_rdq rfl (M.row 2 rfl))).mono ?_); rintro e w5 ⟨rfl, hb⟩; have hsz := M.size; (try (have G9 := G.later hb; clear G; have G := G9; clear G9)); have M9 := M.later hb; clear M; (try clear C); have M := M9; clear M9; have C := M.ruleAll; simp only [Go.Proofs.Ytpmemoabkbmljaa.ruleAll] at C)) | ((with_reducible apply wpM_bsl' M 30 1 2 ([(0, .int .i64 (k : Int))]) (#[.int .i64 (k : Int)])); rfl; rfl; rfl; exact bsl_i641 _; clear M; (try clear C); intro bb w9 h_bb M; have C := M.ruleAll; simp only [Go.Proofs.Ytpmemoabkbmljaa.ruleAll] at C) | ((with_reducible apply wpM_app' M 30 4 0 (w.heap.size) (.slice pp out.length cc) (out.length) (i64s out) 2 1 8); rfl; rfl; rfl; rfl; rfl; rfl; rfl; (first | exact .inl (Nat.le_refl _) | exact .inl (by assumption) | exact .inr (by assumption) | exact .inr HDv.out); (first | exact M.size | (have hq := M.size; omega)); exact und_sl64; exact inf_el64; rfl; decide; decide; rfl; exact rfl; exact flat_i1 _; omega; clear M; (try clear C); intro v2 w9 far_v2 M; simp only [List.set_cons_zero, List.set_cons_succ, entBlk, entT, List.getElem?_cons_zero, List.getElem?_cons_succ] at M; obtain ⟨pp_v2, cap_v2, rfl⟩ := own_form (M.row 4 rfl); have C := M.ruleAll; simp only [Go.Proofs.Ytpmemoabkbmljaa.ruleAll] at C))
              go_roundw
              case rel => exact ⟨k + 1, out ++ [(k : Int)], _, by omega, by go_num, rfl, HNX.out, (M.sub [4, 5] (by decide)).eq (by rw [i64s_app]; simp only [List.length_append, List.length_singleton]; rfl)⟩
              case measure => simp [intOf]; omega
        · obtain rfl : k = ls.length := by omega
          have hge : ¬ ((ls.length : Int) < (ls.length : Int)) := by omega
          have hr : res = (out, 0) := by rw [HRES.out, HT.out]
          subst hr
          clear HRES
          go_wp2
          go_ret2
          exact ⟨_, rfl, M.sub [0] (by decide)⟩
set_option maxRecDepth 100000 in
set_option maxHeartbeats 8000000 in
theorem implLawsAmong_any (n : Int) (t : Nat → Nat → Nat) (hby : Byt2 t) (ls : List (List Nat)) (hn : ls.length ≤ maxLen) (hls : ∀ l ∈ ls, l.length ≤ maxLen ∧ Byts l) (w : World) (p : Option Addr) (cap : Nat) (hr : rdq w p ls.length (txF ls)) :
    Calls Try.prog 18 #[.agg (sqs n t), .slice p ls.length cap] w (FaPost (laRes n t ls).1 (laRes n t ls).2 w) := by
  have M := Mm.start no w
  have HS := Hid2.mk (fun w1 => isSquare_any n t w1 hby)
  have hn2 : ls.length ≤ 9223372036854775807 := Nat.le_trans hn (by decide)
  cases hsq : isSq n t with
  | false =>
    have hres : laRes n t ls = ([], 1) := if_neg (by rw [hsq]; exact Bool.false_ne_true)
    rw [hres]
    rw [hsq] at HS
    clear hby hr hls hres
    go_enter Try.func18, Try.ntmps18
    go_wp2_with (first | ((with_reducible apply wpM_box' M 35 (sqs n t)); rfl; exact ⟨rfl, rfl⟩; clear M; (try clear C); intro bq w9 h_bq M; have C := M.ruleAll; simp only [Go.Proofs.Ytpmemoabkbmljaa.ruleAll] at C) | ((with_reducible apply wpM_lda' M 0 35 0 (sqs n t)); rfl; rfl; rfl; exact ⟨rfl, inf_sqs.trans (congrArg some (sqs_size ..).symm), _, und_sqs, rfl⟩; exact whole_of rfl) | (go_at_call 33; ((with_reducible refine (HS.out _).mono ?_); rintro e w1 ⟨rfl, hb⟩; have hsz := M.size; (try (have G9 := G.later hb; clear G; have G := G9; clear G9)); have M9 := M.later hb; clear M; (try clear C); have M := M9; clear M9; have C := M.ruleAll; simp only [Go.Proofs.Ytpmemoabkbmljaa.ruleAll] at C)))
    go_ret2
    exact FaPost.nil2 M.below 1
  | true =>
    rw [hsq] at HS
    obtain ⟨N, rfl, hs⟩ := isSq_nat hsq
    by_cases h30 : 30 < ls.length
    · have hres : laRes N t ls = ([], 2) := (if_pos hsq).trans (if_pos h30)
      have h1 : (30 : Int) < (ls.length : Int) := by omega
      rw [hres]
      clear hby hr hls hres
      go_enter Try.func18, Try.ntmps18
      go_wp2_with (first | ((with_reducible apply wpM_box' M 35 (sqs (N : Int) t)); rfl; exact ⟨rfl, rfl⟩; clear M; (try clear C); intro bq w9 h_bq M; have C := M.ruleAll; simp only [Go.Proofs.Ytpmemoabkbmljaa.ruleAll] at C) | ((with_reducible apply wpM_lda' M 0 35 0 (sqs (N : Int) t)); rfl; rfl; rfl; exact ⟨rfl, inf_sqs.trans (congrArg some (sqs_size ..).symm), _, und_sqs, rfl⟩; exact whole_of rfl) | (go_at_call 33; ((with_reducible refine (HS.out _).mono ?_); rintro e w1 ⟨rfl, hb⟩; have hsz := M.size; (try (have G9 := G.later hb; clear G; have G := G9; clear G9)); have M9 := M.later hb; clear M; (try clear C); have M := M9; clear M9; have C := M.ruleAll; simp only [Go.Proofs.Ytpmemoabkbmljaa.ruleAll] at C)))
      go_ret2
      exact FaPost.nil2 M.below 2
    · have h1 : ¬ (30 : Int) < (ls.length : Int) := by omega
      have h30' : ls.length ≤ 30 := by omega
      have HRES := Hid2.mk (show laRes N t ls = (match laTo (fun k => laAt N t (ls.getD k [])) ls.length with | none => ([], 6) | some out => (out, 0)) from (if_pos hsq).trans (if_neg h30))
      have F1 := Hid2.mk (fun w1 (hb : Below w.heap.size w w1) => hr.later hb)
      have HLS := Hid2.mk (show ∀ k, k < ls.length → (ls.getD k []).length ≤ maxLen ∧ Byts (ls.getD k []) from fun k hk => hls _ (by rw [List.getD_eq_getElem?_getD, List.getElem?_eq_getElem hk]; exact List.getElem_mem hk))
      have HP := Hid2.mk (fun k (hk : k < ls.length) w1 => parseIdentity_any (ls.getD k []) (HLS.out k hk).1 (HLS.out k hk).2 w1)
      generalize hf : (fun k => laAt N t (ls.getD k [])) = f at HRES
      have HF := Hid2.mk (show ∀ k, f k = laAt N t (ls.getD k []) from fun k => by rw [← hf])
      generalize laRes N t ls = res at HRES ⊢
      clear hby hr hls hf h30 hsq
      go_enter Try.func18, Try.ntmps18
      go_wp2_with (first | ((with_reducible apply wpM_box' M 35 (sqs (N : Int) t)); rfl; exact ⟨rfl, rfl⟩; clear M; (try clear C); intro bq w9 h_bq M; have C := M.ruleAll; simp only [Go.Proofs.Ytpmemoabkbmljaa.ruleAll] at C) | ((with_reducible apply wpM_lda' M 0 35 0 (sqs (N : Int) t)); rfl; rfl; rfl; exact ⟨rfl, inf_sqs.trans (congrArg some (sqs_size ..).symm), _, und_sqs, rfl⟩; exact whole_of rfl) | (go_at_call 33; ((with_reducible refine (HS.out _).mono ?_); rintro e w1 ⟨rfl, hb⟩; have hsz := M.size; (try (have G9 := G.later hb; clear G; have G := G9; clear G9)); have M9 := M.later hb; clear M; (try clear C); have M := M9; clear M9; have C := M.ruleAll; simp only [Go.Proofs.Ytpmemoabkbmljaa.ruleAll] at C)) | ((with_reducible apply wpM_bsl' M 30 0 2 ([]) (#[])); rfl; rfl; rfl; exact bsl_i640; clear M; (try clear C); intro bo w9 h_bo M; have C := M.ruleAll; simp only [Go.Proofs.Ytpmemoabkbmljaa.ruleAll] at C))
      have M9 := M.asRow 0 rfl w.heap.size 0 1 h_bo rfl (Nat.zero_le _)
      simp only [List.set_cons_zero] at M9
      clear M; (try clear C)
      have M := M9
      clear M9
      have C := M.ruleAll; simp only [Go.Proofs.Ytpmemoabkbmljaa.ruleAll] at C
      go_loopw [24, 6, 7, 8, 9, 10, 11, 12] (fun i v _ _ _ _ _ _ wr => ∃ (k : Nat) (out : List Int) (v' : Value), k ≤ ls.length ∧ i = .int .i64 (k : Int) ∧ v = v' ∧ laTo f k = some out ∧ Mm no w wr [.row w.heap.size v' out.length (i64s out) 2 1, .box bq (sqs (N : Int) t) 35]) (fun i _ _ _ _ _ _ _ _ => ls.length - (intOf i).toNat)
      case atStart => exact ⟨0, [], _, by omega, rfl, rfl, rfl, M⟩
      case round =>
        obtain ⟨k, out, v, hk, rfl, rfl, ht, M9⟩ := hrel
        obtain ⟨pp, cc, rfl⟩ := own_form (M9.row 0 rfl)
        clear M; (try clear C)
        have M := M9
        clear M9
        have C := M.ruleAll; simp only [Go.Proofs.Ytpmemoabkbmljaa.ruleAll] at C
        have HT := Hid2.mk ht
        have hol := laTo_len ht
        clear ht
        by_cases hlt : k < ls.length
        · have hlt' : (k : Int) < (ls.length : Int) := by omega
          obtain ⟨gx, rfl, hrr⟩ := F1.out _ M.below (by omega)
          have hc0 : wr.cell? ⟨gx, k, none⟩ = some (txF ls k) := hrr.at_ k hlt
          have hc1 : wr.cell? ⟨gx, k, none⟩ = some (.string (str (ls.getD k []))) := hc0
          clear hrr hc0
          have HPK := Hid2.mk (HP.out k hlt)
          have HFK := HF.out k
          unfold laAt at HFK
          generalize str (ls.getD k []) = s at hc1 HPK
          generalize ho : rdI (ls.getD k []) = o at HPK HFK
          have HO := Hid2.mk ho
          clear ho
          rcases o with _ | ⟨xs, ys⟩
          · have hno : laTo f (k + 1) = none := by rw [laTo, HT.out, HFK]
            have hr : res = ([], 6) := by rw [HRES.out, laTo_none hno _ (by omega)]
            subst hr
            clear HFK HRES hno
            go_wp2_with (first | (go_at_call 34; fail))
            refine (HPK.out _).mono ?_
            rintro e w1 ⟨p1, c1, p2, c2, n1, m1, rfl, hb⟩
            have M9 := M.later hb
            clear M; (try clear C)
            have M := M9
            clear M9 hb hc1
            go_wp2_with (first | ((with_reducible apply wpM_alloc' M 37 (idV none 0 none 0 0 0)); rfl; exact ⟨rfl, _, zero_idn _, rfl⟩; clear M; (try clear C); intro bi w9 h_bi M; have C := M.ruleAll; simp only [Go.Proofs.Ytpmemoabkbmljaa.ruleAll] at C) | ((with_reducible apply wpM_sta' M 0 37 (idV p1 c1 p2 c2 n1 m1)); rfl; rfl; rfl; rfl; (first | exact .inl (by assumption) | exact .inr rfl | exact .inr (by assumption)); exact ⟨rfl, inf_idn.trans (congrArg some (idv_size ..).symm), flat_idv _ _ _ _ _ _⟩; (simp only [entCells, List.getElem?_cons_zero, List.getElem?_cons_succ, idv_size, idv_size]); clear M; (try clear C); intro w9 M; simp only [List.set_cons_zero, List.set_cons_succ, entBlk, entT, List.getElem?_cons_zero, List.getElem?_cons_succ] at M; have C := M.ruleAll; simp only [Go.Proofs.Ytpmemoabkbmljaa.ruleAll] at C))
            go_ret2
            exact FaPost.nil2 M.below 6
          · have HID := Hid2.mk (isId_iff.1 (rdI_iff.1 HO.out).1)
            have HH := Hid2.mk (fun w1 p1 c1 p2 c2 r1 r2 => fails_any N t hs xs ys HID.out.1 HID.out.2 w1 p1 p2 c1 c2 r1 r2)
            have HNX := Hid2.mk (show laTo f (k + 1) = some (if (fst3 (neB t (elB xs) xs.length (elB ys) ys.length) N N N).isNone = true then out ++ [(k : Int)] else out) by rw [laTo, HT.out, HFK]; rfl)
            generalize fst3 (neB t (elB xs) xs.length (elB ys) ys.length) N N N = o3 at HH HNX
            clear HFK HO
            go_wp2_with (first | (go_at_call 34; fail))
            refine (HPK.out _).mono ?_
            rintro e w1 ⟨p1, c1, p2, c2, rfl, M'⟩
            have M9 := M.joinRows M'
            clear M; (try clear C)
            have M := M9
            clear M9 M' hc1
            have C := M.ruleAll; simp only [Go.Proofs.Ytpmemoabkbmljaa.ruleAll] at C
            go_wp2_with (first | ((with_reducible apply wpM_alloc' M 37 (idV none 0 none 0 0 0)); rfl; exact ⟨rfl, _, zero_idn _, rfl⟩; clear M; (try clear C); intro bi w9 h_bi M; have C := M.ruleAll; simp only [Go.Proofs.Ytpmemoabkbmljaa.ruleAll] at C) | ((with_reducible apply wpM_sta' M 0 37 (idV p1 c1 p2 c2 xs.length ys.length)); rfl; rfl; rfl; rfl; (first | exact .inl (by assumption) | exact .inr rfl | exact .inr (by assumption)); exact ⟨rfl, inf_idn.trans (congrArg some (idv_size ..).symm), flat_idv _ _ _ _ _ _⟩; (simp only [entCells, List.getElem?_cons_zero, List.getElem?_cons_succ, idv_size, idv_size]); clear M; (try clear C); intro w9 M; simp only [List.set_cons_zero, List.set_cons_succ, entBlk, entT, List.getElem?_cons_zero, List.getElem?_cons_succ] at M; have C := M.ruleAll; simp only [Go.Proofs.Ytpmemoabkbmljaa.ruleAll] at C) | ((with_reducible apply wpM_lda' M 4 35 0 (sqs (N : Int) t)); rfl; rfl; rfl; exact ⟨rfl, inf_sqs.trans (congrArg some (sqs_size ..).symm), _, und_sqs, rfl⟩; exact whole_of rfl) | ((with_reducible apply wpM_lda' M 0 37 0 (idV p1 c1 p2 c2 xs.length ys.length)); rfl; rfl; rfl; exact ⟨rfl, inf_idn.trans (congrArg some (idv_size ..).symm), _, und_idn, rfl⟩; exact whole_of rfl) | (go_at_call 27; fail))
            refine (HH.out _ _ _ _ _ (u8_rdq rfl (M.row 1 rfl)) (u8_rdq rfl (M.row 2 rfl))).mono ?_
            rcases o3 with _ | ⟨x, y, z⟩
            · rintro e w5 ⟨rfl, hb⟩
              have M9 := M.later hb
              clear M; (try clear C)
              have M := M9
              clear M9 hb
              go_wp2_with (first | ((with_reducible apply wpM_bsl' M 30 1 2 ([(0, .int .i64 (k : Int))]) (#[.int .i64 (k : Int)])); rfl; rfl; rfl; exact bsl_i641 _; clear M; (try clear C); intro bb w9 h_bb M; have C := M.ruleAll; simp only [Go.Proofs.Ytpmemoabkbmljaa.ruleAll] at C) | ((with_reducible apply wpM_app' M 30 4 0 (w.heap.size) (.slice pp out.length cc) (out.length) (i64s out) 2 1 8); rfl; rfl; rfl; rfl; rfl; rfl; rfl; (first | exact .inl (Nat.le_refl _) | exact .inl (by assumption) | exact .inr (by assumption) | exact .inr HDv.out); (first | exact M.size | (have hq := M.size; omega)); exact und_sl64; exact inf_el64; rfl; decide; decide; rfl; exact rfl; exact flat_i1 _; omega; clear M; (try clear C); intro v2 w9 far_v2 M; simp only [List.set_cons_zero, List.set_cons_succ, entBlk, entT, List.getElem?_cons_zero, List.getElem?_cons_succ] at M; obtain ⟨pp_v2, cap_v2, rfl⟩ := own_form (M.row 4 rfl); have C := M.ruleAll; simp only [Go.Proofs.Ytpmemoabkbmljaa.ruleAll] at C))
              go_roundw
              case rel => exact ⟨k + 1, out ++ [(k : Int)], _, by omega, by go_num, rfl, HNX.out, (M.sub [4, 5] (by decide)).eq (by rw [i64s_app]; simp only [List.length_append, List.length_singleton]; rfl)⟩
              case measure => simp [intOf]; omega
            · rintro e w5 ⟨g5, rfl, hg5, M'⟩
              have M9 := M.later M'.below
              clear M; (try clear C)
              have M := M9
              clear M9 M' hg5
              go_wp2
              go_roundw
              case rel => exact ⟨k + 1, out, _, by omega, by go_num, rfl, HNX.out, M.sub [3, 4] (by decide)⟩
              case measure => simp [intOf]; omega
        · obtain rfl : k = ls.length := by omega
          have hge : ¬ ((ls.length : Int) < (ls.length : Int)) := by omega
          have hr : res = (out, 0) := by rw [HRES.out, HT.out]
          subst hr
          clear HRES
          go_wp2
          go_ret2
          exact ⟨_, rfl, M.sub [0] (by decide)⟩
end Go.Proofs.Ytpmemoabkbmljaa
