/- The square of a text, for the reference: contract. -/
import Derived.Test.YtinjjaoikofkdaaDoorQ4
import Derived.Test.YtinjjaoikofkdaaDoorQ3
import Derived.Test.YtinjjaoikofkdaaDoorQ2
import Derived.Shelf.Abstract
import Derived.Shelf.Lay
import Derived.Shelf.Strings.Split
import Derived.Shelf.Strings.Cut
import Derived.Lib.SplitLaws
import Derived.Lib.CutLaws
import Derived.Test.YtinjjaoikofkdaaDoorQ1
namespace Go.Proofs.YtinjjaoikofkdaaDoor
set_option linter.unusedSimpArgs false
set_option linter.unusedVariables false
open Go Go.RowKit

theorem pst_byt (c : Nat) : ∀ (l : List Nat) (s : List (List Nat) × List Nat), (∀ p ∈ s.1, Byts p) → Byts s.2 → Byts l → (∀ p ∈ (l.foldl (pstep c) s).1, Byts p) ∧ Byts (l.foldl (pstep c) s).2
  | [], s, h1, h2, _ => ⟨h1, h2⟩
  | x :: l, s, h1, h2, h3 => by
    rw [List.foldl_cons]
    have hx : x < 256 := h3 x (List.mem_cons_self ..)
    refine pst_byt c l _ ?_ ?_ fun y hy => h3 y (List.mem_cons_of_mem _ hy)
    · unfold pstep
      split
      · intro p hp
        rcases List.mem_append.1 hp with h | h
        · exact h1 p h
        · rw [List.mem_singleton.1 h]; exact h2
      · exact h1
    · unfold pstep
      split
      · intro y hy; cases hy
      · intro y hy
        rcases List.mem_append.1 hy with h | h
        · exact h2 y h
        · rw [List.mem_singleton.1 h]; exact hx
theorem pcs_byt {c : Nat} {l : List Nat} (h : Byts l) : ∀ p ∈ pcs c l, Byts p := fun p hp => by
  have hk := pst_byt c l ([], []) (fun p hp => by cases hp) (fun y hy => by cases hy) h
  unfold pcs at hp
  rcases List.mem_append.1 hp with h1 | h1
  · exact hk.1 p h1
  · rw [List.mem_singleton.1 h1]; exact hk.2
theorem pcs_getD_byt {c : Nat} {l : List Nat} (h : Byts l) (i : Nat) : Byts ((pcs c l).getD i []) := by
  rw [List.getD_eq_getElem?_getD]
  cases e : (pcs c l)[i]? with
  | none => intro y hy; cases hy
  | some p => exact pcs_byt h p (List.mem_of_getElem? e)
theorem byts_getD {p : List Nat} (h : Byts p) (j : Nat) : p.getD j 0 < 256 := by
  rw [List.getD_eq_getElem?_getD]
  cases e : p[j]? with
  | none => decide
  | some x => exact h x (List.mem_of_getElem? e)
def txF (L : List (List Nat)) (j : Nat) : Value := .string (str (L.getD j []))
theorem txL_get (L : List (List Nat)) {j : Nat} (hj : j < L.length) : (txL L).getD j undef = txF L j := by
  unfold txL txF
  rw [List.getD_eq_getElem?_getD, List.getElem?_map, List.getD_eq_getElem?_getD, List.getElem?_eq_getElem hj]; rfl
/-- The table as far as a place. -/
def tbP (L : List (List Nat)) (n x y : Nat) : Nat → Nat → Nat := fun i j => if i < x ∨ (i = x ∧ j < y) then tbR L n i j else 0
theorem tbP_row (L : List (List Nat)) (n x : Nat) : sqs (n : Int) (tbP L n x n) = sqs (n : Int) (tbP L n (x + 1) 0) := sqs_ext rfl fun i j _ _ => by
  unfold tbP
  by_cases h1 : i < x
  · rw [if_pos (.inl h1), if_pos (.inl (by omega))]
  · by_cases h2 : i = x
    · rw [if_pos (show i < x + 1 ∨ _ from .inl (by omega))]
      by_cases h3 : j < n
      · rw [if_pos (.inr ⟨h2, h3⟩)]
      · rw [if_neg (by omega)]
        unfold tbR
        rw [if_neg (by omega)]
    · rw [if_neg (by omega), if_neg (by omega)]
theorem tbP_all (L : List (List Nat)) (n : Nat) : sqs (n : Int) (tbP L n n 0) = sqs (n : Int) (tbR L n) := sqs_ext rfl fun i j _ _ => by
  unfold tbP
  by_cases h1 : i < n
  · rw [if_pos (.inl h1)]
  · rw [if_neg (by omega)]
    unfold tbR
    rw [if_neg (by omega)]
theorem tbP_0 (L : List (List Nat)) (n : Nat) : sqs (n : Int) (tbP L n 0 0) = sqs (n : Int) fun _ _ => 0 := sqs_ext rfl fun i j _ _ => by unfold tbP; rw [if_neg (by omega)]
theorem tbP_set {L : List (List Nat)} {n x y : Nat} (hx : x < n) (hy : y < n) (h10 : n ≤ 10) (hb : 48 ≤ (L.getD x []).getD y 0) : (sqs (n : Int) (tbP L n x y)).setIfInBounds (1 + x * 10 + y) (.int .u8 (((L.getD x []).getD y 0 : Nat) - 48 : Int)) = sqs (n : Int) (tbP L n x (y + 1)) := by
  have e : (((L.getD x []).getD y 0 : Nat) - 48 : Int) = (((L.getD x []).getD y 0 - 48 : Nat) : Int) := by omega
  rw [e, sqs_set (by omega) (by omega)]
  refine sqs_ext rfl fun i j _ _ => ?_
  unfold tbP
  by_cases h : i = x ∧ j = y
  · rw [if_pos h, if_pos (.inr ⟨h.1, by omega⟩)]
    unfold tbR
    rw [if_pos (by omega), h.1, h.2]
  · rw [if_neg h]
    by_cases h1 : i < x ∨ (i = x ∧ j < y)
    · rw [if_pos h1, if_pos (by omega)]
    · rw [if_neg h1, if_neg (by omega)]
theorem tbR_byt {L : List (List Nat)} (h : ∀ i, Byts (L.getD i [])) (n : Nat) : Byt2 (tbR L n) := ⟨fun x y _ _ => by
  unfold tbR
  split
  · have := byts_getD (h x) y; omega
  · decide⟩
theorem rd_no_len {l : List Nat} (h : 10 < (pcs 47 l).length) : rdB l = false := rdB_no fun q R => by
  obtain ⟨n, hn, n1, n2⟩ := R.pos
  have := R.full.1
  omega
theorem rd_no_row {l : List Nat} {n x : Nat} (hn : (pcs 47 l).length = n) (hx : x < n) (h : ((pcs 47 l).getD x []).length ≠ n) : rdB l = false := rdB_no fun q R => by
  have h1 := R.full.1
  have h2 := R.full.2.1 x (by omega)
  omega
theorem rd_no_dig {l : List Nat} {n x y : Nat} (hn : (pcs 47 l).length = n) (hx : x < n) (hy : y < n) (h : ((pcs 47 l).getD x []).getD y 0 < 48 ∨ 57 < ((pcs 47 l).getD x []).getD y 0) : rdB l = false := rdB_no fun q R => by
  have h1 := R.full.1
  have h2 := R.full.2.2 x y (by omega) (by omega)
  have h3 := R.dig (x := x) (y := y) (by omega) (by omega)
  omega
/-- What is handed back. -/
def RdPost (l : List Nat) (w : World) (e : Ending) (w' : World) : Prop := ∃ (m : Int) (u : Nat → Nat → Nat), e = .returned (.tuple #[.agg (sqs m u), .bool (rdB l)]) ∧ (rdB l = true → sqs m u = sqs (rdQ l).n (rdQ l).t) ∧ Below w.heap.size w w'
theorem RdPost.no {l : List Nat} {w w' : World} (h : rdB l = false) (hb : Below w.heap.size w w') : RdPost l w (.returned (.tuple #[.agg (sqs 0 fun _ _ => 0), .bool false])) w' := ⟨0, fun _ _ => 0, by rw [h], (fun h' => by rw [h] at h'; cases h'), hb⟩
theorem build_sqP (n : Int) (w : World) : (Instr.build 36 #[(0, .int .i64 n)]).run Tryd.prog w = .ok (.agg (sqs n fun _ _ => 0)) w := by kernel_rfl
theorem build_sq0P (w : World) : (Instr.build 36 #[]).run Tryd.prog w = .ok (.agg (sqs 0 fun _ _ => 0)) w := by kernel_rfl

set_option maxRecDepth 100000 in
set_option maxHeartbeats 4000000 in
theorem l01Read_any (l : List Nat) (hb : Byts l) (hl : l.length ≤ 1048576) (w : World) : Calls Tryd.prog 10 #[.string (str l)] w (RdPost l w) := by
  have M := Mm.start no w
  have HS := Hid2.mk (fun w1 => l01Split_any l hb hl 47 (by decide) w1)
  have HB := Hid2.mk (fun i => pcs_getD_byt (c := 47) hb i)
  have hpos : 0 < (pcs 47 l).length := by rw [pcs_len]; omega
  have hle := pcs_le 47 l
  have H1 := Hid2.mk (@rd_no_len l)
  have H2 := Hid2.mk (@rd_no_row l)
  have H3 := Hid2.mk (@rd_no_dig l)
  have H4 := Hid2.mk (fun n h10 hn hr hd => @rd_tbR l n h10 hn hr hd)
  generalize pcs 47 l = L at HS HB hpos hle H1 H2 H3 H4
  have hz := zero_sqs
  generalize str l = s at HS
  clear hb
  go_enter Tryd.func10, Tryd.ntmps10
  go_wp2_with (first | ((fail_if_success have := h_b2); ((with_reducible apply wpM_alloc' M 36 (sqs 0 fun _ _ => 0)); rfl; exact ⟨rfl, _, zero_sqs _, rfl⟩; clear M; (try clear C); intro b2 w9 h_b2 M; have C := M.ruleAll; simp only [Go.Proofs.YtinjjaoikofkdaaDoor.ruleAll] at C)) | (go_at_call 9; fail))
  refine (HS.out _).mono ?_
  rintro e w1 ⟨pp, dd, rfl, M'⟩
  have M9 := M.joinRow M'
  obtain ⟨g, cap, hv, M8⟩ := M9.rowRd 0 rfl hpos (txF L) (fun j hj => txL_get L hj)
  obtain ⟨rfl, rfl⟩ : pp = some ⟨g, 0, none⟩ ∧ dd = cap := by cases hv; exact ⟨rfl, rfl⟩
  simp only [List.set_cons_zero] at M8
  clear M; (try clear C)
  have M : Mm no w w1 [.rd g L.length (txF L), .box b2 (sqs 0 fun _ _ => 0) 36] := M8
  clear M8 M9 M' HS hv
  have C := M.ruleAll; simp only [Go.Proofs.YtinjjaoikofkdaaDoor.ruleAll] at C
  by_cases h10 : 10 < L.length
  · have h10' : (10 : Int) < (L.length : Int) := by omega
    have hno := H1.out h10
    have HNO := Hid2.mk hno
    clear hno
    go_wp2_with (first | (refine wpList_build 36 _ rfl rfl [] rfl _ (build_sq0P _) ?_) | ((with_reducible apply wpM_sta' M 1 36 (sqs 0 fun _ _ => 0)); rfl; rfl; rfl; rfl; (first | exact .inl (by assumption) | exact .inr rfl | exact .inr (by assumption)); exact ⟨rfl, inf_sqs.trans (congrArg some (sqs_size ..).symm), flat_sqs _ _⟩; (simp only [entCells, List.getElem?_cons_zero, List.getElem?_cons_succ, sqs_size, sqs_size]); clear M; (try clear C); intro w9 M; simp only [List.set_cons_zero, List.set_cons_succ, entBlk, entT, List.getElem?_cons_zero, List.getElem?_cons_succ] at M; have C := M.ruleAll; simp only [Go.Proofs.YtinjjaoikofkdaaDoor.ruleAll] at C))
    refine bodyPost_ret (v := .tuple #[.agg (sqs 0 fun _ _ => 0), .bool false]) (by exact results_part2 rfl _ _ _ _ (sqs 0 fun _ _ => 0) _ rfl und_sqs rfl inf_sqs (cells_of_blk0 (M.box 1 rfl)) _ rfl) rfl ?_
    exact RdPost.no HNO.out M.below
  have h10' : ¬ (10 : Int) < (L.length : Int) := by omega
  have h10n : L.length ≤ 10 := by omega
  obtain ⟨n, hn⟩ : ∃ n, n = L.length := ⟨_, rfl⟩
  rw [← hn] at M h10' h10n hpos C ⊢
  have HN := Hid2.mk hn.symm
  clear hn h10 hle
  go_wp2_with (first | (refine wpList_build 36 _ rfl rfl [(0, .int .i64 (n : Int))] rfl _ (build_sqP _ _) ?_) | ((fail_if_success have := h_b6); ((with_reducible apply wpM_alloc' M 36 (sqs 0 fun _ _ => 0)); rfl; exact ⟨rfl, _, zero_sqs _, rfl⟩; clear M; (try clear C); intro b6 w9 h_b6 M; have C := M.ruleAll; simp only [Go.Proofs.YtinjjaoikofkdaaDoor.ruleAll] at C)) | ((with_reducible apply wpM_sta' M 0 36 (sqs (n : Int) fun _ _ => 0)); rfl; rfl; rfl; rfl; (first | exact .inl (by assumption) | exact .inr rfl | exact .inr (by assumption)); exact ⟨rfl, inf_sqs.trans (congrArg some (sqs_size ..).symm), flat_sqs _ _⟩; (simp only [entCells, List.getElem?_cons_zero, List.getElem?_cons_succ, sqs_size, sqs_size]); clear M; (try clear C); intro w9 M; simp only [List.set_cons_zero, List.set_cons_succ, entBlk, entT, List.getElem?_cons_zero, List.getElem?_cons_succ] at M; have C := M.ruleAll; simp only [Go.Proofs.YtinjjaoikofkdaaDoor.ruleAll] at C))
  have M9 : Mm no w _ [.box b6 (sqs (n : Int) (tbP L n 0 0)) 36, .rd g n (txF L), .box b2 (sqs 0 fun _ _ => 0) 36] := M.eq (by rw [tbP_0])
  clear M; (try clear C)
  have M := M9
  clear M9 H1
  go_loopw [7] (fun i wr => ∃ x : Nat, x ≤ n ∧ i = .int .i64 (x : Int) ∧ (∀ i, i < x → (L.getD i []).length = n ∧ ∀ j, j < n → 48 ≤ (L.getD i []).getD j 0) ∧ Mm no w wr [.box b6 (sqs (n : Int) (tbP L n x 0)) 36, .rd g n (txF L), .box b2 (sqs 0 fun _ _ => 0) 36]) (fun i _ => n - (intOf i).toNat)
  case atStart => exact ⟨0, by omega, rfl, fun i h => by omega, M⟩
  case round =>
    obtain ⟨x, hxn, rfl, hall, M9⟩ := hrel
    clear M; (try clear C)
    have M := M9
    clear M9
    have HALL := Hid2.mk hall
    clear hall
    have C := M.ruleAll; simp only [Go.Proofs.YtinjjaoikofkdaaDoor.ruleAll] at C
    by_cases hx : x < n
    · have hx' : (x : Int) < (n : Int) := by omega
      have hx10 : (x : Int) < 10 := by omega
      have dlt : decide ((x : Int) < (n : Int)) = true := decide_eq_true hx'
      have hfx : txF L x = .string (str (L.getD x [])) := rfl
      have hsz := str_size (L.getD x [])
      have HIX := Hid2.mk (fun y (hy : y < (L.getD x []).length) w1 => ix_str (HB.out x) y hy w1)
      have HBY := Hid2.mk (fun y => byts_getD (HB.out x) y)
      have HROW := Hid2.mk (tbP_row L n x)
      have HSET := Hid2.mk (fun y (hy : y < n) hb => @tbP_set L n x y hx hy h10n hb)
      have H2x := Hid2.mk (fun h => @H2.out n x HN.out hx h)
      have H3x := Hid2.mk (fun y hy h => @H3.out n x y HN.out hx hy h)
      generalize hrow : L.getD x [] = row at hfx hsz HIX HBY HSET H2x H3x
      have HRW := Hid2.mk hrow
      clear hrow
      generalize str row = sx at hfx hsz HIX
      by_cases hlen : row.length = n
      · have hlen1 : ((row.length : Int) != (n : Int)) = false := by rw [hlen]; simp
        have hlen2 : (row.length : Int) = (n : Int) := by rw [hlen]
        go_wp2
        obtain ⟨wo, rfl⟩ : ∃ wo : World, wo = wr := ⟨_, rfl⟩
        go_loopw [8] (fun j wr => ∃ y : Nat, y ≤ n ∧ j = .int .i64 (y : Int) ∧ (∀ j, j < y → 48 ≤ row.getD j 0) ∧ Mm no w wr [.box b6 (sqs (n : Int) (tbP L n x y)) 36, .rd g n (txF L), .box b2 (sqs 0 fun _ _ => 0) 36]) (fun j _ => n - (intOf j).toNat)
        case atStart => exact ⟨0, by omega, rfl, fun j h => by omega, M⟩
        case round =>
          obtain ⟨y, hyn, rfl, hdig, M9⟩ := hrel
          clear M; (try clear C)
          have M := M9
          clear M9
          have HDIG := Hid2.mk hdig
          clear hdig
          have C := M.ruleAll; simp only [Go.Proofs.YtinjjaoikofkdaaDoor.ruleAll] at C
          by_cases hy : y < n
          · have hy' : (y : Int) < (n : Int) := by omega
            have hy10 : (y : Int) < 10 := by omega
            have hyl : (y : Int) < (row.length : Int) := by omega
            have hix := HIX.out y (by omega)
            have hb256 := HBY.out y
            have HSETy := Hid2.mk (fun hb => HSET.out y hy hb)
            have H3y := Hid2.mk (fun h => H3x.out y hy h)
            have HD2 := Hid2.mk (fun j (hj : j < y + 1) (hbb : 48 ≤ row.getD y 0) => (show 48 ≤ row.getD j 0 from by
              rcases Nat.lt_or_eq_of_le (Nat.lt_succ_iff.1 hj) with h | h
              · exact HDIG.out j h
              · rw [h]; exact hbb))
            generalize row.getD y 0 = b at hix hb256 HSETy H3y HD2
            have hbi : (b : Int) < 256 := by omega
            by_cases hb1 : b < 48
            · have hb1' : (b : Int) < 48 := by omega
              have HNO := Hid2.mk (H3y.out (.inl hb1))
              go_wp2_with (first | (refine wpList_build 36 _ rfl rfl [] rfl _ (build_sq0P _) ?_) | ((with_reducible apply wpM_sta' M 2 36 (sqs 0 fun _ _ => 0)); rfl; rfl; rfl; rfl; (first | exact .inl (by assumption) | exact .inr rfl | exact .inr (by assumption)); exact ⟨rfl, inf_sqs.trans (congrArg some (sqs_size ..).symm), flat_sqs _ _⟩; (simp only [entCells, List.getElem?_cons_zero, List.getElem?_cons_succ, sqs_size, sqs_size]); clear M; (try clear C); intro w9 M; simp only [List.set_cons_zero, List.set_cons_succ, entBlk, entT, List.getElem?_cons_zero, List.getElem?_cons_succ] at M; have C := M.ruleAll; simp only [Go.Proofs.YtinjjaoikofkdaaDoor.ruleAll] at C))
              refine bodyPost_ret (v := .tuple #[.agg (sqs 0 fun _ _ => 0), .bool false]) (by exact results_part2 rfl _ _ _ _ (sqs 0 fun _ _ => 0) _ rfl und_sqs rfl inf_sqs (cells_of_blk0 (M.box 2 rfl)) _ rfl) rfl ?_
              exact RdPost.no HNO.out M.below
            · have hb1' : ¬ (b : Int) < 48 := by omega
              by_cases hb2 : 57 < b
              · have hb2' : (57 : Int) < (b : Int) := by omega
                have HNO := Hid2.mk (H3y.out (.inr hb2))
                go_wp2_with (first | (refine wpList_build 36 _ rfl rfl [] rfl _ (build_sq0P _) ?_) | ((with_reducible apply wpM_sta' M 2 36 (sqs 0 fun _ _ => 0)); rfl; rfl; rfl; rfl; (first | exact .inl (by assumption) | exact .inr rfl | exact .inr (by assumption)); exact ⟨rfl, inf_sqs.trans (congrArg some (sqs_size ..).symm), flat_sqs _ _⟩; (simp only [entCells, List.getElem?_cons_zero, List.getElem?_cons_succ, sqs_size, sqs_size]); clear M; (try clear C); intro w9 M; simp only [List.set_cons_zero, List.set_cons_succ, entBlk, entT, List.getElem?_cons_zero, List.getElem?_cons_succ] at M; have C := M.ruleAll; simp only [Go.Proofs.YtinjjaoikofkdaaDoor.ruleAll] at C))
                refine bodyPost_ret (v := .tuple #[.agg (sqs 0 fun _ _ => 0), .bool false]) (by exact results_part2 rfl _ _ _ _ (sqs 0 fun _ _ => 0) _ rfl und_sqs rfl inf_sqs (cells_of_blk0 (M.box 2 rfl)) _ rfl) rfl ?_
                exact RdPost.no HNO.out M.below
              · have hb2' : ¬ (57 : Int) < (b : Int) := by omega
                have HST := Hid2.mk (HSETy.out (by omega))
                go_wp2
                apply wp_region_mm M 12 (by kernel_rfl) (by kernel_rfl); (simp only [List.take_succ_cons, List.take_zero]; repeat (first | exact wpText_nil | (apply wpText_cons; (intro w2 M; have C := M.ruleAll; simp only [Go.Proofs.YtinjjaoikofkdaaDoor.ruleAll] at C; go_wp2; exact ⟨rfl, rfl, M⟩); rfl))); (clear M; (try clear C); intro w2 M; simp only [List.drop_succ_cons, List.drop_zero]; have C := M.ruleAll; simp only [Go.Proofs.YtinjjaoikofkdaaDoor.ruleAll] at C)
                go_wp2_with (first | ((with_reducible apply wpM_st' M 0 5 (1 + x * 10 + y) (sqs (n : Int) (tbP L n x (y + 1)))); rfl; rfl; rfl; (first | exact .inl (by assumption) | exact .inr rfl | exact .inr (by assumption)); exact ⟨rfl, rfl, by kernel_rfl⟩; (exact Nat.lt_of_lt_of_eq (by omega) (sqs_size _ _).symm); exact HST.out; clear M; (try clear C); intro w9 M; simp only [List.set_cons_zero, List.set_cons_succ, entBlk, entT, List.getElem?_cons_zero, List.getElem?_cons_succ] at M; have C := M.ruleAll; simp only [Go.Proofs.YtinjjaoikofkdaaDoor.ruleAll] at C))
                go_roundw
                case rel => exact ⟨y + 1, by omega, by go_num, fun j hj => HD2.out j hj (by omega), M⟩
                case measure => simp [intOf]; omega
          · obtain rfl : y = n := by omega
            have hge : ¬ ((y : Int) < (y : Int)) := by omega
            go_wp2
            go_roundw
            case rel => exact ⟨x + 1, by omega, by go_num, fun i hi => by
              rcases Nat.lt_or_eq_of_le (Nat.lt_succ_iff.1 hi) with h | h
              · exact HALL.out i h
              · rw [h, HRW.out]; exact ⟨hlen, HDIG.out⟩, by rw [← HROW.out]; exact M⟩
            case measure => simp [intOf]; omega
      · have hlen1 : ((row.length : Int) != (n : Int)) = true := by simp; omega
        have hlen2 : ¬ (row.length : Int) = (n : Int) := by omega
        have HNO := Hid2.mk (H2x.out hlen)
        go_wp2_with (first | (refine wpList_build 36 _ rfl rfl [] rfl _ (build_sq0P _) ?_) | ((with_reducible apply wpM_sta' M 2 36 (sqs 0 fun _ _ => 0)); rfl; rfl; rfl; rfl; (first | exact .inl (by assumption) | exact .inr rfl | exact .inr (by assumption)); exact ⟨rfl, inf_sqs.trans (congrArg some (sqs_size ..).symm), flat_sqs _ _⟩; (simp only [entCells, List.getElem?_cons_zero, List.getElem?_cons_succ, sqs_size, sqs_size]); clear M; (try clear C); intro w9 M; simp only [List.set_cons_zero, List.set_cons_succ, entBlk, entT, List.getElem?_cons_zero, List.getElem?_cons_succ] at M; have C := M.ruleAll; simp only [Go.Proofs.YtinjjaoikofkdaaDoor.ruleAll] at C))
        refine bodyPost_ret (v := .tuple #[.agg (sqs 0 fun _ _ => 0), .bool false]) (by exact results_part2 rfl _ _ _ _ (sqs 0 fun _ _ => 0) _ rfl und_sqs rfl inf_sqs (cells_of_blk0 (M.box 2 rfl)) _ rfl) rfl ?_
        exact RdPost.no HNO.out M.below
    · obtain rfl : x = n := by omega
      have hge : ¬ ((x : Int) < (x : Int)) := by omega
      have hF := H4.out x h10n HN.out (fun i hi => (HALL.out i hi).1) fun i j hi hj => (HALL.out i hi).2 j hj
      have hI := fun w1 => l01Is_any (x : Int) (tbR L x) w1 (tbR_byt HB.out x)
      have M9 : Mm no w _ [.box b6 (sqs (x : Int) (tbR L x)) 36, .rd g x (txF L), .box b2 (sqs 0 fun _ _ => 0) 36] := M.eq (by rw [tbP_all])
      rw [← hF.1] at hI
      have HF := Hid2.mk hF.2
      clear M; (try clear C)
      have M := M9
      clear M9 hF
      generalize tbR L x = T at M hI HF
      generalize hrb : rdB l = r at hI HF
      have HRB := Hid2.mk hrb
      clear hrb
      have C := M.ruleAll; simp only [Go.Proofs.YtinjjaoikofkdaaDoor.ruleAll] at C
      go_wp2
      apply wp_region_mm M 3 (by kernel_rfl) (by kernel_rfl); (simp only [List.take_succ_cons, List.take_zero]; repeat (first | exact wpText_nil | (apply wpText_cons; (intro w2 M; have C := M.ruleAll; simp only [Go.Proofs.YtinjjaoikofkdaaDoor.ruleAll] at C; go_wp2_with (first | ((with_reducible apply wpM_lda' M 0 36 0 (sqs (x : Int) T)); rfl; rfl; rfl; exact ⟨rfl, inf_sqs.trans (congrArg some (sqs_size ..).symm), _, und_sqs, rfl⟩; exact whole_of rfl) | (go_at_call 23; ((with_reducible refine (hI _).mono ?_); rintro e w1 ⟨rfl, hb⟩; have hsz := M.size; (try (have G9 := G.later hb; clear G; have G := G9; clear G9)); have M9 := M.later hb; clear M; (try clear C); have M := M9; clear M9; have C := M.ruleAll; simp only [Go.Proofs.YtinjjaoikofkdaaDoor.ruleAll] at C))); exact ⟨rfl, rfl, M⟩); rfl))); (clear M; (try clear C); intro w2 M; simp only [List.drop_succ_cons, List.drop_zero]; have C := M.ruleAll; simp only [Go.Proofs.YtinjjaoikofkdaaDoor.ruleAll] at C)
      go_wp2_with (first | ((with_reducible apply wpM_sta' M 2 36 (sqs (x : Int) T)); rfl; rfl; rfl; rfl; (first | exact .inl (by assumption) | exact .inr rfl | exact .inr (by assumption)); exact ⟨rfl, inf_sqs.trans (congrArg some (sqs_size ..).symm), flat_sqs _ _⟩; (simp only [entCells, List.getElem?_cons_zero, List.getElem?_cons_succ, sqs_size, sqs_size]); clear M; (try clear C); intro w9 M; simp only [List.set_cons_zero, List.set_cons_succ, entBlk, entT, List.getElem?_cons_zero, List.getElem?_cons_succ] at M; have C := M.ruleAll; simp only [Go.Proofs.YtinjjaoikofkdaaDoor.ruleAll] at C))
      refine bodyPost_ret (v := .tuple #[.agg (sqs (x : Int) T), .bool r]) (by exact results_part2 rfl _ _ _ _ (sqs (x : Int) T) _ rfl und_sqs rfl inf_sqs (cells_of_blk0 (M.box 2 rfl)) _ rfl) rfl ?_
      exact ⟨x, T, by rw [HRB.out], by rw [HRB.out]; exact HF.out, M.below⟩
end Go.Proofs.YtinjjaoikofkdaaDoor

/- The square of a text, for the program: contract. Printed by gen/p4.py. -/
namespace Go.Proofs.YtinjjaoikofkdaaDoor
set_option linter.unusedSimpArgs false
set_option linter.unusedVariables false
open Go Go.RowKit

/-- A table, filled row by row: m products are there. -/
def filT (N : Nat) (T : Nat → Nat → Nat) (m : Nat) : Nat → Nat → Nat := fun i j => if j < N ∧ i * N + j < m then T i j else 0
theorem filT_zero (N : Nat) (T : Nat → Nat → Nat) : filT N T 0 = fun _ _ => 0 := by funext i j; unfold filT; rw [if_neg (by omega)]
theorem filT_set {n : Int} {N : Nat} {T : Nat → Nat → Nat} {k l : Nat} (hl : l < N) (hk : k < 10) (hl10 : l < 10) :
    (sqs n (filT N T (k * N + l))).setIfInBounds (1 + k * 10 + l) (.int .u8 (T k l : Nat)) = sqs n (filT N T (k * N + (l + 1))) := by
  rw [sqs_set hk hl10]
  refine sqs_ext rfl fun i j _ _ => ?_
  unfold filT
  by_cases e : i = k ∧ j = l
  · obtain ⟨rfl, rfl⟩ := e
    rw [if_pos ⟨rfl, rfl⟩, if_pos ⟨hl, by omega⟩]
  · rw [if_neg e]
    by_cases hj : j < N
    · have hne : i * N + j ≠ k * N + l := fun h => by
        have h1 : (i * N + j) % N = j := by rw [Nat.mul_comm, Nat.mul_add_mod]; exact Nat.mod_eq_of_lt hj
        have h2 : (k * N + l) % N = l := by rw [Nat.mul_comm, Nat.mul_add_mod]; exact Nat.mod_eq_of_lt hl
        have h3 : j = l := by rw [← h1, h, h2]
        subst h3
        have h4 : i * N = k * N := by omega
        exact e ⟨Nat.eq_of_mul_eq_mul_right (by omega) h4, rfl⟩
      by_cases h2 : i * N + j < k * N + l
      · rw [if_pos ⟨hj, h2⟩, if_pos ⟨hj, by omega⟩]
      · rw [if_neg fun h => h2 h.2, if_neg fun h => h2 (by omega)]
    · rw [if_neg fun h => hj h.1, if_neg fun h => hj h.1]

set_option maxRecDepth 100000 in
set_option maxHeartbeats 2000000 in
theorem made_any (n : Nat) (T : Nat → Nat → Nat) (f : Nat) (fa cp : Array Value) (w : World) (h0 : 1 ≤ n) (h1 : n ≤ 10) (hen : ∀ (args : Array Value) (w : World), (callFunc f args).run Tryd.prog w = .ok (.enter f args) w)
    (hf : ∀ x y, x < n → y < n → ∀ w1, Below w.heap.size w w1 → Calls Tryd.prog f (fa ++ (#[.int .u8 (x : Int), .int .u8 (y : Int)] ++ cp)) w1 fun e w' => e = .returned (.int .u8 (T x y : Nat)) ∧ Below w1.heap.size w1 w') :
    Calls Tryd.prog 30 #[.int .i64 (n : Int), .func (.func f) fa cp] w fun e w' => e = .returned (.agg (sqs (n : Int) (filT n T (n * n)))) ∧ Below w.heap.size w w' := by
  have M := Mm.start no w
  have HF := Hid2.mk hf
  have hz := zero_sqs
  have hbd := build_sqP (n : Int)
  have h1' : (1 : Int) ≤ n := by omega
  have h2' : (n : Int) ≤ 10 := by omega
  clear hf
  go_enter Tryd.func30, Tryd.ntmps30
  go_wp2_with (first | ((fail_if_success have := h_bo1); ((with_reducible apply wpM_alloc' M 36 (sqs 0 fun _ _ => 0)); rfl; exact ⟨rfl, _, zero_sqs _, rfl⟩; clear M; (try clear C); intro bo1 w9 h_bo1 M; have C := M.ruleAll; simp only [Go.Proofs.YtinjjaoikofkdaaDoor.ruleAll] at C)) | ((with_reducible apply wpM_alloc' M 36 (sqs 0 fun _ _ => 0)); rfl; exact ⟨rfl, _, zero_sqs _, rfl⟩; clear M; (try clear C); intro bo w9 h_bo M; have C := M.ruleAll; simp only [Go.Proofs.YtinjjaoikofkdaaDoor.ruleAll] at C) | (refine wpList_build 36 _ rfl rfl [(0, .int .i64 (n : Int))] rfl _ (build_sqP _ _) ?_) | ((with_reducible apply wpM_sta' M 0 36 (sqs (n : Int) fun _ _ => 0)); rfl; rfl; rfl; rfl; (first | exact .inl (by assumption) | exact .inr rfl | exact .inr (by assumption)); exact ⟨rfl, inf_sqs.trans (congrArg some (sqs_size ..).symm), flat_sqs _ _⟩; (simp only [entCells, List.getElem?_cons_zero, List.getElem?_cons_succ, sqs_size, sqs_size]); clear M; (try clear C); intro w9 M; simp only [List.set_cons_zero, List.set_cons_succ, entBlk, entT, List.getElem?_cons_zero, List.getElem?_cons_succ] at M; have C := M.ruleAll; simp only [Go.Proofs.YtinjjaoikofkdaaDoor.ruleAll] at C) | ((with_reducible apply wpM_lda' M 0 36 0 (sqs (n : Int) fun _ _ => 0)); rfl; rfl; rfl; exact ⟨rfl, inf_sqs.trans (congrArg some (sqs_size ..).symm), _, und_sqs, rfl⟩; exact whole_of rfl) | (go_at_call 52; ((with_reducible refine (elements_any _ _ _ (by omega) (by omega)).mono ?_); rintro e w1 ⟨g1, cap_g1, rfl, hb, hg, hr⟩; have hsz := M.size; have M9 := M.gain hb (x := .rd g1 n (fun j => .int .u8 (j : Int))) hr (fun b h => by cases h; exact hg); clear M; (try clear C); have M := M9; clear M9; (try simp only [List.set_cons_zero, List.set_cons_succ] at M); have C := M.ruleAll; simp only [Go.Proofs.YtinjjaoikofkdaaDoor.ruleAll] at C; clear hb hg hr)))
  clear hz hbd
  go_loopw [15, 7, 22, 9] (fun i _ _ _ wr => ∃ k : Nat, k ≤ n ∧ i = .int .i64 (k : Int) ∧ Mm no w wr [.rd g1 n (fun j => .int .u8 (j : Int)), .box bo (sqs (n : Int) (filT n T (k * n))) 36, .box bo1 (sqs 0 fun _ _ => 0) 36]) (fun i _ _ _ _ => n - (intOf i).toNat)
  case atStart => exact ⟨0, by omega, rfl, M.eq (by rw [Nat.zero_mul, filT_zero])⟩
  case round =>
    obtain ⟨k, hk, rfl, M9⟩ := hrel
    clear M; (try clear C)
    have M := M9
    clear M9
    have C := M.ruleAll; simp only [Go.Proofs.YtinjjaoikofkdaaDoor.ruleAll] at C
    by_cases hlt : k < n
    · have hlt' : (k : Int) < (n : Int) := by omega
      have hk10 : (k : Int) < 10 := by omega
      have dlt : decide ((k : Int) < (n : Int)) = true := decide_eq_true hlt'
      go_wp2_with (first | ((with_reducible apply wpM_lda' M 1 36 0 (sqs (n : Int) (filT n T (k * n)))); rfl; rfl; rfl; exact ⟨rfl, inf_sqs.trans (congrArg some (sqs_size ..).symm), _, und_sqs, rfl⟩; exact whole_of rfl) | (go_at_call 52; ((with_reducible refine (elements_any _ _ _ (by omega) (by omega)).mono ?_); rintro e w2 ⟨g2, cap_g2, rfl, hb, hg, hr⟩; have hsz := M.size; have M9 := M.gain hb (x := .rd g2 n (fun j => .int .u8 (j : Int))) hr (fun b h => by cases h; exact hg); clear M; (try clear C); have M := M9; clear M9; (try simp only [List.set_cons_zero, List.set_cons_succ] at M); have C := M.ruleAll; simp only [Go.Proofs.YtinjjaoikofkdaaDoor.ruleAll] at C; clear hb hg hr)))
      clear dlt
      go_loopw [22, 9] (fun i _ wr => ∃ l : Nat, l ≤ n ∧ i = .int .i64 (l : Int) ∧ Mm no w wr [.rd g2 n (fun j => .int .u8 (j : Int)), .rd g1 n (fun j => .int .u8 (j : Int)), .box bo (sqs (n : Int) (filT n T (k * n + l))) 36, .box bo1 (sqs 0 fun _ _ => 0) 36]) (fun i _ _ => n - (intOf i).toNat)
      case atStart => exact ⟨0, by omega, rfl, M⟩
      case round =>
        obtain ⟨l, hl, rfl, M9⟩ := hrel
        clear M; (try clear C)
        have M := M9
        clear M9
        have C := M.ruleAll; simp only [Go.Proofs.YtinjjaoikofkdaaDoor.ruleAll] at C
        by_cases hlt2 : l < n
        · have hlt2' : (l : Int) < (n : Int) := by omega
          have hl10 : (l : Int) < 10 := by omega
          have dlt : decide ((l : Int) < (n : Int)) = true := decide_eq_true hlt2'
          have HF1 := Hid2.mk (fun w1 hb => HF.out k l hlt hlt2 w1 hb)
          have HS := Hid2.mk (filT_set (n := (n : Int)) (N := n) (T := T) (k := k) (l := l) hlt2 (by omega) (by omega))
          go_wp2
          clear dlt
          generalize T k l = v at HF1 HS
          apply wp_region_mm M 9 (by kernel_rfl) (by kernel_rfl); (simp only [List.take_succ_cons, List.take_zero]; repeat (first | exact wpText_nil | (apply wpText_cons; (intro w2 M; have C := M.ruleAll; simp only [Go.Proofs.YtinjjaoikofkdaaDoor.ruleAll] at C; go_wp2_with (first | ((with_reducible refine (HF1.out _ M.below).mono ?_); rintro e w1 ⟨rfl, hb⟩; have M9 := M.later hb; clear M; (try clear C); have M := M9; clear M9 hb; have C := M.ruleAll; simp only [Go.Proofs.YtinjjaoikofkdaaDoor.ruleAll] at C)); exact ⟨rfl, rfl, M⟩); rfl))); (clear M; (try clear C); intro w2 M; simp only [List.drop_succ_cons, List.drop_zero]; have C := M.ruleAll; simp only [Go.Proofs.YtinjjaoikofkdaaDoor.ruleAll] at C)
          go_wp2_with (first | ((with_reducible apply wpM_st' M 2 5 (1 + k * 10 + l) (sqs (n : Int) (filT n T (k * n + (l + 1))))); rfl; rfl; rfl; (first | exact .inl (by assumption) | exact .inr rfl | exact .inr (by assumption)); exact ⟨rfl, rfl, by kernel_rfl⟩; (exact Nat.lt_of_lt_of_eq (by omega) (sqs_size _ _).symm); exact HS.out; clear M; (try clear C); intro w9 M; simp only [List.set_cons_zero, List.set_cons_succ, entBlk, entT, List.getElem?_cons_zero, List.getElem?_cons_succ] at M; have C := M.ruleAll; simp only [Go.Proofs.YtinjjaoikofkdaaDoor.ruleAll] at C))
          go_roundw
          case rel => exact ⟨l + 1, by omega, by go_num, M⟩
          case measure => simp [intOf]; omega
        · obtain rfl : l = n := by omega
          go_wp2
          go_roundw
          case rel => exact ⟨k + 1, by omega, by go_num, (M.sub [1, 2, 3] (by decide)).eq (by rw [Nat.add_mul, Nat.one_mul]; rfl)⟩
          case measure => simp [intOf]; omega
    · obtain rfl : k = n := by omega
      go_wp2_with (first | ((with_reducible apply wpM_lda' M 1 36 0 (sqs (k : Int) (filT k T (k * k)))); rfl; rfl; rfl; exact ⟨rfl, inf_sqs.trans (congrArg some (sqs_size ..).symm), _, und_sqs, rfl⟩; exact whole_of rfl) | ((with_reducible apply wpM_sta' M 2 36 (sqs (k : Int) (filT k T (k * k)))); rfl; rfl; rfl; rfl; (first | exact .inl (by assumption) | exact .inr rfl | exact .inr (by assumption)); exact ⟨rfl, inf_sqs.trans (congrArg some (sqs_size ..).symm), flat_sqs _ _⟩; (simp only [entCells, List.getElem?_cons_zero, List.getElem?_cons_succ, sqs_size, sqs_size]); clear M; (try clear C); intro w9 M; simp only [List.set_cons_zero, List.set_cons_succ, entBlk, entT, List.getElem?_cons_zero, List.getElem?_cons_succ] at M; have C := M.ruleAll; simp only [Go.Proofs.YtinjjaoikofkdaaDoor.ruleAll] at C))
      refine bodyPost_ret (v := .agg (sqs (k : Int) (filT k T (k * k)))) (by exact results_part rfl _ _ _ _ _ _ rfl und_sqs rfl inf_sqs (cells_of_blk0 (M.box 2 rfl))) rfl ?_
      exact ⟨rfl, M.below⟩



theorem sqT_lenE (n : Nat) (t : Nat → Nat → Nat) : ∀ k, (sqT n t (k + 1)).length = (k + 1) * (n + 1) - 1
  | 0 => by simp [sqT, rwT_len]
  | k + 1 => by
    have h : 1 ≤ (k + 1) * (n + 1) := Nat.mul_pos (by omega) (by omega)
    rw [sqT, List.length_append, List.length_append, sqT_lenE n t k, rwT_len, if_neg (by omega), Nat.add_mul (k + 1) 1 (n + 1), Nat.one_mul]
    simp only [List.length_singleton]
    omega
theorem sqT_get (n : Nat) (t : Nat → Nat → Nat) : ∀ {k x y : Nat}, x < k → y < n → (sqT n t k)[x * (n + 1) + y]? = some (48 + t x y)
  | k + 1, x, y, hx, hy => by
    rw [sqT]
    have hl : (sqT n t k ++ (if k = 0 then [] else [47])).length = k * (n + 1) := by
      cases k with
      | zero => simp [sqT]
      | succ k =>
        have h : 1 ≤ (k + 1) * (n + 1) := Nat.mul_pos (by omega) (by omega)
        rw [List.length_append, sqT_lenE, if_neg (by omega)]
        simp only [List.length_singleton]
        omega
    by_cases e : x = k
    · subst e
      rw [List.getElem?_append_right (by omega), hl, Nat.add_sub_cancel_left]
      exact rwT_get hy
    · have h1 : (x + 1) * (n + 1) ≤ k * (n + 1) := Nat.mul_le_mul_right _ (by omega)
      rw [Nat.add_mul, Nat.one_mul] at h1
      have h2 : x * (n + 1) + y < (sqT n t k).length := by
        cases k with
        | zero => omega
        | succ k =>
          rw [sqT_lenE]
          omega
      rw [List.append_assoc, List.getElem?_append_left h2]
      exact sqT_get n t (by omega) hy
/-- The table that a text of the right length tells. -/
def txT (l : List Nat) (n : Nat) : Nat → Nat → Nat := fun x y => (l.getD (x * (n + 1) + y) 0 + 208) % 256
theorem Rd.lenE {l : List Nat} {q : Sqr} (h : Rd l q) : l.length = q.n.toNat * (q.n.toNat + 1) - 1 := by
  obtain ⟨n, hn, n1, n2⟩ := h.pos
  obtain ⟨k, hk⟩ : ∃ k, q.n.toNat = k + 1 := ⟨q.n.toNat - 1, by omega⟩
  have := h.txt
  rw [this, hk, sqT_lenE]
theorem len_inj {n m : Nat} (hn : 1 ≤ n) (hm : 1 ≤ m) (h : n * (n + 1) - 1 = m * (m + 1) - 1) : n = m := by
  have h1 : 1 ≤ n * (n + 1) := Nat.mul_pos hn (by omega)
  have h2 : 1 ≤ m * (m + 1) := Nat.mul_pos hm (by omega)
  rcases Nat.lt_trichotomy n m with h3 | h3 | h3
  · have := Nat.mul_lt_mul_of_lt_of_le h3 (show n + 1 ≤ m + 1 by omega) (by omega)
    omega
  · exact h3
  · have := Nat.mul_lt_mul_of_lt_of_le h3 (show m + 1 ≤ n + 1 by omega) (by omega)
    omega
theorem filT_full (n : Nat) (T : Nat → Nat → Nat) {i j : Nat} : filT n T (n * n) i j = if i < n ∧ j < n then T i j else 0 := by
  unfold filT
  by_cases hj : j < n
  · by_cases hi : i < n
    · have h1 : (i + 1) * n ≤ n * n := Nat.mul_le_mul_right _ hi
      rw [Nat.add_mul, Nat.one_mul] at h1
      rw [if_pos ⟨hj, by omega⟩, if_pos ⟨hi, hj⟩]
    · have h1 : n * n ≤ i * n := Nat.mul_le_mul_right _ (by omega)
      rw [if_neg (by omega), if_neg (by omega)]
  · rw [if_neg (by omega), if_neg (by omega)]
theorem sqT_congr {n : Nat} {t t' : Nat → Nat → Nat} (h : ∀ x y, x < n → y < n → t x y = t' x y) : ∀ k, k ≤ n → sqT n t k = sqT n t' k
  | 0, _ => rfl
  | k + 1, hk => by
    have e : ∀ m, m ≤ n → rwT t k m = rwT t' k m := by
      intro m
      induction m with
      | zero => intro _; rfl
      | succ m ih => intro hm; rw [rwT, rwT, ih (by omega), h k m (by omega) (by omega)]
    rw [sqT, sqT, sqT_congr h k (by omega), e n (Nat.le_refl _)]
/-- At the right length the table that is told decides. -/
theorem rd_txT {l : List Nat} {n : Nat} (h1 : 1 ≤ n) (h10 : n ≤ 10) (hl : l.length = n * (n + 1) - 1) : rdB l = (isSq (n : Int) (filT n (txT l n) (n * n)) && decide (sqT n (filT n (txT l n) (n * n)) n = l)) ∧ (rdB l = true → sqs (n : Int) (filT n (txT l n) (n * n)) = sqs (rdQ l).n (rdQ l).t) := by
  by_cases hr : ∃ q, Rd l q
  · obtain ⟨q, R⟩ := hr
    obtain ⟨m, hm, m1, m2⟩ := R.pos
    have hq : q.n.toNat = m := by omega
    have hmn : m = n := len_inj m1 h1 (by have := R.lenE; rw [hq] at this; omega)
    subst hmn
    have htx : ∀ x y, x < m → y < m → filT m (txT l m) (m * m) x y = q.t x y := fun x y hx hy => by
      have hg : l[x * (m + 1) + y]? = some (48 + q.t x y) := by
        have e : l = sqT m q.t m := by have := R.txt; rw [hq] at this; exact this
        conv => lhs; rw [e]
        exact sqT_get m q.t hx hy
      have hd := R.dig (x := x) (y := y) (by omega) (by omega)
      rw [filT_full, if_pos ⟨hx, hy⟩]
      unfold txT
      rw [List.getD_eq_getElem?_getD, hg, Option.getD_some]
      omega
    have hcell : ∀ x y, x < 10 → y < 10 → q.t x y = filT m (txT l m) (m * m) x y := fun x y hx hy => by
      by_cases hc : x < m ∧ y < m
      · exact (htx x y hc.1 hc.2).symm
      · rw [filT_full, if_neg hc]
        by_cases hxm : x < m
        · exact (R.sq.rows.row x hx (by omega)).zero y hy (by omega)
        · exact R.sq.rows.zero x y hx hy (by omega)
    have hsq : IsSq (m : Int) (filT m (txT l m) (m * m)) := by
      have s := R.sq
      rw [hm] at s
      exact s.congrJ hcell
    have ht : sqT m (filT m (txT l m) (m * m)) m = l := by
      have e : l = sqT m q.t m := by have := R.txt; rw [hq] at this; exact this
      conv => rhs; rw [e]
      exact sqT_congr htx m (Nat.le_refl _)
    rw [rdB_yes R, isSq_true.2 hsq, decide_eq_true ht]
    refine ⟨rfl, fun _ => ?_⟩
    rw [rdQ_eq R]
    exact sqs_ext (by rw [hm]) fun x y hx hy => (hcell x y hx hy).symm
  · have hno := rdB_no fun q R => hr ⟨q, R⟩
    rw [hno]
    refine ⟨?_, fun h => by cases h⟩
    cases hs : isSq (n : Int) (filT n (txT l n) (n * n)) with
    | false => rfl
    | true =>
      refine (decide_eq_false fun ht => hr ⟨⟨(n : Int), filT n (txT l n) (n * n)⟩, isSq_true.1 hs, ?_⟩).symm
      show l = sqT (n : Int).toNat _ (n : Int).toNat
      rw [Int.toNat_natCast]
      exact ht.symm
theorem rd_no_n {l : List Nat} (h : ∀ n, 1 ≤ n → n ≤ 10 → l.length ≠ n * (n + 1) - 1) : rdB l = false := rdB_no fun q R => by
  obtain ⟨n, hn, n1, n2⟩ := R.pos
  exact h q.n.toNat (by omega) (by omega) R.lenE
/-- What is handed back. -/
def PsPost (l : List Nat) (w : World) (e : Ending) (w' : World) : Prop := ∃ (m : Int) (u : Nat → Nat → Nat), e = .returned (.tuple #[.agg (sqs m u), .int .i64 (if rdB l = true then 0 else 6)]) ∧ (rdB l = true → sqs m u = sqs (rdQ l).n (rdQ l).t) ∧ Below w.heap.size w w'
theorem PsPost.no {l : List Nat} {w w' : World} (h : rdB l = false) (hb : Below w.heap.size w w') : PsPost l w (.returned (.tuple #[.agg (sqs 0 fun _ _ => 0), .int .i64 6])) w' := ⟨0, fun _ _ => 0, by rw [h]; rfl, (fun h' => by rw [h] at h'; cases h'), hb⟩

set_option maxRecDepth 100000 in
set_option maxHeartbeats 1000000 in
theorem parseFn_any (l : List Nat) (hb : Byts l) (n x y b1 b4 : Nat) (h10 : n ≤ 10) (hl : l.length = n * (n + 1) - 1) (hx : x < n) (hy : y < n) (w : World) (M0 : Mm no w w [.box b4 #[.int .i64 (n : Int)] 2, .box b1 #[.string (str l)] 9]) :
    Calls Tryd.prog 31 #[.int .u8 (x : Int), .int .u8 (y : Int), .pointer (some ⟨b1, 0, none⟩), .pointer (some ⟨b4, 0, none⟩)] w fun e w' => e = .returned (.int .u8 (txT l n x y : Nat)) ∧ Below w.heap.size w w' := by
  have M := M0
  have h1 : (x + 1) * (n + 1) ≤ n * (n + 1) := Nat.mul_le_mul_right _ hx
  rw [Nat.add_mul, Nat.one_mul] at h1
  have hn100 : n * (n + 1) ≤ 10 * 11 := Nat.mul_le_mul h10 (by omega)
  have hlt : x * (n + 1) + y < l.length := by omega
  have hix := ix_str hb (x * (n + 1) + y) hlt
  have hsz := str_size l
  have hbb := byts_getD hb (x * (n + 1) + y)
  have HT := Hid2.mk (show txT l n x y = (l.getD (x * (n + 1) + y) 0 + 208) % 256 from rfl)
  generalize str l = s at hix hsz M
  generalize l.getD (x * (n + 1) + y) 0 = b at hix hbb HT
  have hx256 : (x : Int) < 256 := by omega
  have hy256 : (y : Int) < 256 := by omega
  have hk0 : ((x * (n + 1) + y : Nat) : Int) = (x : Int) * ((n : Int) + 1) + (y : Int) := by simp [Nat.mul_add, Int.mul_add]
  rw [hk0] at hix
  have hk1 : (x : Int) * ((n : Int) + 1) + (y : Int) < (s.size : Int) := by rw [← hk0]; omega
  have hk2 : (x : Int) * ((n : Int) + 1) ≤ 110 := by
    have : ((x * (n + 1) : Nat) : Int) ≤ 110 := by omega
    simpa [Nat.mul_add, Int.mul_add] using this
  have hk3 : 0 ≤ (x : Int) * ((n : Int) + 1) := Int.mul_nonneg (by omega) (by omega)
  have hn10 : (n : Int) ≤ 10 := by omega
  clear M0 h1 hn100 hlt hk0 hb hl
  have C := M.ruleAll; simp only [Go.Proofs.YtinjjaoikofkdaaDoor.ruleAll] at C
  go_enter Tryd.func31, Tryd.ntmps31
  go_wp2
  go_ret
  refine ⟨?_, M.below⟩
  rw [HT.out]
  show Ending.returned (Value.int .u8 (((b : Int) - 48) % 256)) = _
  exact congrArg (fun z => Ending.returned (Value.int .u8 z)) (by omega)

noncomputable def cellN (v : Value) (w : World) : Nat := match v with
  | .pointer (some a) => (intOf ((w.cell? a).getD undef)).toNat
  | _ => 0
theorem cellN_of {w : World} {b n ty : Nat} (h : blk w b #[.int .i64 (n : Int)] ty) : cellN (.pointer (some ⟨b, 0, none⟩)) w = n := by
  unfold cellN
  have hc := h.cell 0 (.int .i64 (n : Int)) rfl
  simp only [hc, Option.getD_some, intOf, Int.toNat_natCast]
theorem zero_i64P (w : World) : (zeroValue 2).run Tryd.prog w = .ok (.int .i64 0) w := by kernel_rfl
theorem measP {v v' : Value} {w w' : World} {n : Nat} (h : cellN v w = n) (h' : cellN v' w' = n + 1) (hn : n ≤ 10) : 11 - cellN v' w' < 11 - cellN v w := by omega
theorem flat_iP (x : Int) : flat #[.int .i64 x] := by intro v hv; simp at hv; subst hv; rfl
set_option maxRecDepth 100000 in
set_option maxHeartbeats 4000000 in
theorem parseSquare_any (l : List Nat) (hb : Byts l) (hl : l.length ≤ 1048576) (w : World) : Calls Tryd.prog 14 #[.string (str l)] w (PsPost l w) := by
  have M := Mm.start no w
  have hmf : ∀ (fn : Fn) (first cap : Array Value) (w : World), (Instr.makeFunc fn first cap).run Tryd.prog w = .ok (.func fn first cap) w := fun _ _ _ _ => rfl
  have hsz := str_size l
  have HM := Hid2.mk (fun n (h1 : 1 ≤ n) (h10 : n ≤ 10) (hln : l.length = n * (n + 1) - 1) b1 b4 w1 (M1 : Mm no w1 w1 [.box b4 #[.int .i64 (n : Int)] 2, .box b1 #[.string (str l)] 9]) => made_any n (txT l n) 31 #[] #[.pointer (some ⟨b1, 0, none⟩), .pointer (some ⟨b4, 0, none⟩)] w1 h1 h10 (enters_of (P := Tryd.prog) (f := 31) (by exact Tryd.func31) (by kernel_rfl) rfl) (fun x y hx hy w2 hb2 => parseFn_any l hb n x y b1 b4 h10 hln hx hy w2 (M1.later hb2).anew))
  have HIS := Hid2.mk (fun (n : Nat) (h10 : n ≤ 10) w1 => isSquare_any (n : Int) (filT n (txT l n) (n * n)) w1 ⟨fun x y _ _ => by
    unfold filT txT
    split
    · exact Nat.mod_lt _ (by decide)
    · decide⟩)
  have HTX := Hid2.mk (fun (n : Nat) (hs : IsSq (n : Int) (filT n (txT l n) (n * n))) w1 => squareTextI (n : Int) _ hs w1)
  have HCM := Hid2.mk (fun (n : Nat) (hs : IsSq (n : Int) (filT n (txT l n) (n * n))) => str_eq (a := sqT n (filT n (txT l n) (n * n)) n) (b := l) (sqT_byt (fun x y hx hy => by have h10 := hs.hi; have := (Lat.of_sq hs).lt x y hx hy; omega) n (Nat.le_refl _)) hb)
  have HRD := Hid2.mk (fun n h1 h10 hln => @rd_txT l n h1 h10 hln)
  have HNN := Hid2.mk (@rd_no_n l)
  generalize hs : str l = s at *
  have HSS := Hid2.mk hs
  clear hb hs
  go_enter Tryd.func14, Tryd.ntmps14
  go_wp2_with (first | ((with_reducible apply wpM_box' M 9 (#[.string s])); rfl; exact ⟨rfl, rfl⟩; clear M; (try clear C); intro b1 w9 h_b1 M; have C := M.ruleAll; simp only [Go.Proofs.YtinjjaoikofkdaaDoor.ruleAll] at C) | ((with_reducible apply wpM_alloc' M 36 (sqs 0 fun _ _ => 0)); rfl; exact ⟨rfl, _, zero_sqs _, rfl⟩; clear M; (try clear C); intro b2 w9 h_b2 M; have C := M.ruleAll; simp only [Go.Proofs.YtinjjaoikofkdaaDoor.ruleAll] at C) | ((fail_if_success have := h_b4); ((with_reducible apply wpM_alloc' M 2 (#[.int .i64 0])); rfl; exact ⟨rfl, _, zero_i64P _, rfl⟩; clear M; (try clear C); intro b4 w9 h_b4 M; have C := M.ruleAll; simp only [Go.Proofs.YtinjjaoikofkdaaDoor.ruleAll] at C)) | ((with_reducible apply wpM_st' M 0 2 (0) (#[.int .i64 1])); rfl; rfl; rfl; (first | exact .inl (by assumption) | exact .inr rfl | exact .inr (by assumption)); exact ⟨rfl, rfl, by kernel_rfl⟩; exact Nat.zero_lt_one; exact rfl; clear M; (try clear C); intro w9 M; simp only [List.set_cons_zero, List.set_cons_succ, entBlk, entT, List.getElem?_cons_zero, List.getElem?_cons_succ] at M; have C := M.ruleAll; simp only [Go.Proofs.YtinjjaoikofkdaaDoor.ruleAll] at C))
  simp only [Act.put, List.setIfInBounds_toArray, List.set_cons_succ, List.set_cons_zero]
  go_loopw [4, 5] (fun p _ wr => ∃ n b4 : Nat, 1 ≤ n ∧ n ≤ 11 ∧ p = .pointer (some ⟨b4, 0, none⟩) ∧ w.heap.size ≤ b4 ∧ (∀ m, 1 ≤ m → m < n → l.length = m * (m + 1) - 1 → rdB l = false) ∧ Mm no w wr [.box b4 #[.int .i64 (n : Int)] 2, .box b2 (sqs 0 fun _ _ => 0) 36, .box b1 #[.string s] 9]) (fun p _ wr => 11 - cellN p wr)
  case atStart => exact ⟨1, b4, by omega, by omega, rfl, h_b4, fun m h1 h2 => by omega, M⟩
  case round =>
    obtain ⟨n, b4, hn1, hn11, rfl, hb4, hno, M9⟩ := hrel
    clear M; (try clear C)
    have M := M9
    clear M9
    have hcn := cellN_of (M.box 0 rfl)
    have HNO := Hid2.mk hno
    clear hno
    have C := M.ruleAll; simp only [Go.Proofs.YtinjjaoikofkdaaDoor.ruleAll] at C
    by_cases h10 : n ≤ 10
    · have h10' : (n : Int) ≤ 10 := by omega
      have hnn : (n : Int) * ((n : Int) + 1) = ((n * (n + 1) : Nat) : Int) := by simp
      have hmul : n * (n + 1) ≤ 10 * 11 := Nat.mul_le_mul h10 (by omega)
      have hmul1 : 1 ≤ n * (n + 1) := Nat.mul_pos (by omega) (by omega)
      have hmb : (n : Int) * ((n : Int) + 1) ≤ 110 := by rw [hnn]; omega
      have hmb0 : 1 ≤ (n : Int) * ((n : Int) + 1) := by rw [hnn]; omega
      by_cases hln : l.length = n * (n + 1) - 1
      · have hlI : (l.length : Int) = (n : Int) * ((n : Int) + 1) - 1 := by rw [hnn]; omega
        have hl1 : ((l.length : Int) != (n : Int) * ((n : Int) + 1) - 1) = false := by rw [hlI]; simp
        obtain ⟨hd1, hd2⟩ := HRD.out n hn1 h10 hln
        have HD1 := Hid2.mk hd1
        have HD2 := Hid2.mk hd2
        have HMN := Hid2.mk (fun w1 M1 => HM.out n hn1 h10 hln b1 b4 w1 M1)
        have hI := HIS.out n h10
        have HLN := Hid2.mk hln
        have HNN2 := Hid2.mk hnn
        clear hd1 hd2 hln hnn hmul hmul1
        have HCN := Hid2.mk (HCM.out n)
        have HTN := Hid2.mk (HTX.out n)
        clear HM HIS HTX HCM HRD
        generalize filT n (txT l n) (n * n) = Q at *
        go_wp2_with (first | (go_at_call 30; fail))
        refine (HMN.out _ (M.sub [0, 2] (by decide)).anew).mono ?_
        rintro e w1 ⟨rfl, hb⟩
        have M9 := M.later hb
        clear M; (try clear C)
        have M := M9
        clear M9 hb HMN
        have C := M.ruleAll; simp only [Go.Proofs.YtinjjaoikofkdaaDoor.ruleAll] at C
        go_wp2_with (first | ((with_reducible apply wpM_alloc' M 36 (sqs 0 fun _ _ => 0)); rfl; exact ⟨rfl, _, zero_sqs _, rfl⟩; clear M; (try clear C); intro b5 w9 h_b5 M; have C := M.ruleAll; simp only [Go.Proofs.YtinjjaoikofkdaaDoor.ruleAll] at C) | ((with_reducible apply wpM_sta' M 0 36 (sqs (n : Int) Q)); rfl; rfl; rfl; rfl; (first | exact .inl (by assumption) | exact .inr rfl | exact .inr (by assumption)); exact ⟨rfl, inf_sqs.trans (congrArg some (sqs_size ..).symm), flat_sqs _ _⟩; (simp only [entCells, List.getElem?_cons_zero, List.getElem?_cons_succ, sqs_size, sqs_size]); clear M; (try clear C); intro w9 M; simp only [List.set_cons_zero, List.set_cons_succ, entBlk, entT, List.getElem?_cons_zero, List.getElem?_cons_succ] at M; have C := M.ruleAll; simp only [Go.Proofs.YtinjjaoikofkdaaDoor.ruleAll] at C))
        cases hsq : isSq (n : Int) Q with
        | false =>
          rw [hsq] at hI
          have HNOW := Hid2.mk (show rdB l = false by rw [HD1.out, hsq]; rfl)
          clear hsq HCN HTN
          apply wp_region_mm M 6 (by kernel_rfl) (by kernel_rfl); (simp only [List.take_succ_cons, List.take_zero]; repeat (first | exact wpText_nil | (apply wpText_cons; (intro w2 M; have C := M.ruleAll; simp only [Go.Proofs.YtinjjaoikofkdaaDoor.ruleAll] at C; go_wp2_with (first | ((with_reducible apply wpM_lda' M 0 36 0 (sqs (n : Int) Q)); rfl; rfl; rfl; exact ⟨rfl, inf_sqs.trans (congrArg some (sqs_size ..).symm), _, und_sqs, rfl⟩; exact whole_of rfl) | (go_at_call 32; ((with_reducible refine (hI _).mono ?_); rintro e w1 ⟨rfl, hb⟩; have hsz := M.size; (try (have G9 := G.later hb; clear G; have G := G9; clear G9)); have M9 := M.later hb; clear M; (try clear C); have M := M9; clear M9; have C := M.ruleAll; simp only [Go.Proofs.YtinjjaoikofkdaaDoor.ruleAll] at C))); exact ⟨rfl, rfl, M⟩); rfl))); (clear M; (try clear C); intro w2 M; simp only [List.drop_succ_cons, List.drop_zero]; have C := M.ruleAll; simp only [Go.Proofs.YtinjjaoikofkdaaDoor.ruleAll] at C)
          go_wp2_with (first | ((with_reducible apply wpM_alloc' M 2 (#[.int .i64 0])); rfl; exact ⟨rfl, _, zero_i64P _, rfl⟩; clear M; (try clear C); intro b9 w9 h_b9 M; have C := M.ruleAll; simp only [Go.Proofs.YtinjjaoikofkdaaDoor.ruleAll] at C) | ((with_reducible apply wpM_st' M 0 2 (0) (#[.int .i64 (n : Int)])); rfl; rfl; rfl; (first | exact .inl (by assumption) | exact .inr rfl | exact .inr (by assumption)); exact ⟨rfl, rfl, by kernel_rfl⟩; exact Nat.zero_lt_one; exact rfl; clear M; (try clear C); intro w9 M; simp only [List.set_cons_zero, List.set_cons_succ, entBlk, entT, List.getElem?_cons_zero, List.getElem?_cons_succ] at M; have C := M.ruleAll; simp only [Go.Proofs.YtinjjaoikofkdaaDoor.ruleAll] at C) | ((with_reducible apply wpM_st' M 0 2 (0) (#[.int .i64 ((n : Int) + 1)])); rfl; rfl; rfl; (first | exact .inl (by assumption) | exact .inr rfl | exact .inr (by assumption)); exact ⟨rfl, rfl, by kernel_rfl⟩; exact Nat.zero_lt_one; exact rfl; clear M; (try clear C); intro w9 M; simp only [List.set_cons_zero, List.set_cons_succ, entBlk, entT, List.getElem?_cons_zero, List.getElem?_cons_succ] at M; have C := M.ruleAll; simp only [Go.Proofs.YtinjjaoikofkdaaDoor.ruleAll] at C))
          simp only [Act.put, List.setIfInBounds_toArray, List.set_cons_succ, List.set_cons_zero]
          have hc2 := cellN_of (n := n + 1) (M.box 0 rfl)
          go_roundw
          case rel => exact ⟨n + 1, b9, by omega, by omega, rfl, h_b9, fun m h1 h2 h3 => (show rdB l = false from by
            rcases Nat.lt_or_eq_of_le (Nat.lt_succ_iff.1 h2) with h | h
            · exact HNO.out m h1 h h3
            · subst h; exact HNOW.out), (M.sub [0, 3, 4] (by decide)).eq rfl⟩
          case measure => exact measP hcn hc2 h10
        | true =>
          rw [hsq] at hI
          have hT := HTN.out (isSq_true.1 hsq)
          have hcmp := HCN.out (isSq_true.1 hsq)
          simp only [Int.toNat_natCast] at hT
          have hd1 := HD1.out
          rw [hsq, Bool.true_and] at hd1
          have HD3 := Hid2.mk hd1
          clear hsq HCN HTN hd1 HD1
          generalize hA : sqT n Q n = A at *
          clear hA
          cases hd : decide (A = l) with
          | true =>
            rw [hd] at hcmp
            have HYES := Hid2.mk (show rdB l = true by rw [HD3.out, hd])
            clear hd
            generalize str A = sA at hT hcmp
            apply wp_region_mm M 6 (by kernel_rfl) (by kernel_rfl); (simp only [List.take_succ_cons, List.take_zero]; repeat (first | exact wpText_nil | (apply wpText_cons; (intro w2 M; have C := M.ruleAll; simp only [Go.Proofs.YtinjjaoikofkdaaDoor.ruleAll] at C; go_wp2_with (first | ((with_reducible apply wpM_lda' M 0 36 0 (sqs (n : Int) Q)); rfl; rfl; rfl; exact ⟨rfl, inf_sqs.trans (congrArg some (sqs_size ..).symm), _, und_sqs, rfl⟩; exact whole_of rfl) | (go_at_call 32; ((with_reducible refine (hI _).mono ?_); rintro e w1 ⟨rfl, hb⟩; have hsz := M.size; (try (have G9 := G.later hb; clear G; have G := G9; clear G9)); have M9 := M.later hb; clear M; (try clear C); have M := M9; clear M9; have C := M.ruleAll; simp only [Go.Proofs.YtinjjaoikofkdaaDoor.ruleAll] at C)) | (go_at_call 33; ((with_reducible refine (hT _).mono ?_); rintro e w1 ⟨rfl, hb⟩; have hsz := M.size; (try (have G9 := G.later hb; clear G; have G := G9; clear G9)); have M9 := M.later hb; clear M; (try clear C); have M := M9; clear M9; have C := M.ruleAll; simp only [Go.Proofs.YtinjjaoikofkdaaDoor.ruleAll] at C))); exact ⟨rfl, rfl, M⟩); rfl))); (clear M; (try clear C); intro w2 M; simp only [List.drop_succ_cons, List.drop_zero]; have C := M.ruleAll; simp only [Go.Proofs.YtinjjaoikofkdaaDoor.ruleAll] at C)
            go_wp2_with (first | ((with_reducible apply wpM_lda' M 0 36 0 (sqs (n : Int) Q)); rfl; rfl; rfl; exact ⟨rfl, inf_sqs.trans (congrArg some (sqs_size ..).symm), _, und_sqs, rfl⟩; exact whole_of rfl) | ((with_reducible apply wpM_sta' M 2 36 (sqs (n : Int) Q)); rfl; rfl; rfl; rfl; (first | exact .inl (by assumption) | exact .inr rfl | exact .inr (by assumption)); exact ⟨rfl, inf_sqs.trans (congrArg some (sqs_size ..).symm), flat_sqs _ _⟩; (simp only [entCells, List.getElem?_cons_zero, List.getElem?_cons_succ, sqs_size, sqs_size]); clear M; (try clear C); intro w9 M; simp only [List.set_cons_zero, List.set_cons_succ, entBlk, entT, List.getElem?_cons_zero, List.getElem?_cons_succ] at M; have C := M.ruleAll; simp only [Go.Proofs.YtinjjaoikofkdaaDoor.ruleAll] at C))
            refine bodyPost_ret (v := .tuple #[.agg (sqs (n : Int) Q), .int .i64 0]) (by exact results_part2 rfl _ _ _ _ (sqs (n : Int) Q) _ rfl und_sqs rfl inf_sqs (cells_of_blk0 (M.box 2 rfl)) _ rfl) rfl ?_
            exact ⟨n, Q, by rw [HYES.out]; rfl, fun _ => HD2.out HYES.out, M.below⟩
          | false =>
            rw [hd] at hcmp
            have HNOW := Hid2.mk (show rdB l = false by rw [HD3.out, hd])
            clear hd
            generalize str A = sA at hT hcmp
            apply wp_region_mm M 6 (by kernel_rfl) (by kernel_rfl); (simp only [List.take_succ_cons, List.take_zero]; repeat (first | exact wpText_nil | (apply wpText_cons; (intro w2 M; have C := M.ruleAll; simp only [Go.Proofs.YtinjjaoikofkdaaDoor.ruleAll] at C; go_wp2_with (first | ((with_reducible apply wpM_lda' M 0 36 0 (sqs (n : Int) Q)); rfl; rfl; rfl; exact ⟨rfl, inf_sqs.trans (congrArg some (sqs_size ..).symm), _, und_sqs, rfl⟩; exact whole_of rfl) | (go_at_call 32; ((with_reducible refine (hI _).mono ?_); rintro e w1 ⟨rfl, hb⟩; have hsz := M.size; (try (have G9 := G.later hb; clear G; have G := G9; clear G9)); have M9 := M.later hb; clear M; (try clear C); have M := M9; clear M9; have C := M.ruleAll; simp only [Go.Proofs.YtinjjaoikofkdaaDoor.ruleAll] at C)) | (go_at_call 33; ((with_reducible refine (hT _).mono ?_); rintro e w1 ⟨rfl, hb⟩; have hsz := M.size; (try (have G9 := G.later hb; clear G; have G := G9; clear G9)); have M9 := M.later hb; clear M; (try clear C); have M := M9; clear M9; have C := M.ruleAll; simp only [Go.Proofs.YtinjjaoikofkdaaDoor.ruleAll] at C))); exact ⟨rfl, rfl, M⟩); rfl))); (clear M; (try clear C); intro w2 M; simp only [List.drop_succ_cons, List.drop_zero]; have C := M.ruleAll; simp only [Go.Proofs.YtinjjaoikofkdaaDoor.ruleAll] at C)
            go_wp2_with (first | ((with_reducible apply wpM_alloc' M 2 (#[.int .i64 0])); rfl; exact ⟨rfl, _, zero_i64P _, rfl⟩; clear M; (try clear C); intro b9 w9 h_b9 M; have C := M.ruleAll; simp only [Go.Proofs.YtinjjaoikofkdaaDoor.ruleAll] at C) | ((with_reducible apply wpM_st' M 0 2 (0) (#[.int .i64 (n : Int)])); rfl; rfl; rfl; (first | exact .inl (by assumption) | exact .inr rfl | exact .inr (by assumption)); exact ⟨rfl, rfl, by kernel_rfl⟩; exact Nat.zero_lt_one; exact rfl; clear M; (try clear C); intro w9 M; simp only [List.set_cons_zero, List.set_cons_succ, entBlk, entT, List.getElem?_cons_zero, List.getElem?_cons_succ] at M; have C := M.ruleAll; simp only [Go.Proofs.YtinjjaoikofkdaaDoor.ruleAll] at C) | ((with_reducible apply wpM_st' M 0 2 (0) (#[.int .i64 ((n : Int) + 1)])); rfl; rfl; rfl; (first | exact .inl (by assumption) | exact .inr rfl | exact .inr (by assumption)); exact ⟨rfl, rfl, by kernel_rfl⟩; exact Nat.zero_lt_one; exact rfl; clear M; (try clear C); intro w9 M; simp only [List.set_cons_zero, List.set_cons_succ, entBlk, entT, List.getElem?_cons_zero, List.getElem?_cons_succ] at M; have C := M.ruleAll; simp only [Go.Proofs.YtinjjaoikofkdaaDoor.ruleAll] at C))
            simp only [Act.put, List.setIfInBounds_toArray, List.set_cons_succ, List.set_cons_zero]
            have hc2 := cellN_of (n := n + 1) (M.box 0 rfl)
            go_roundw
            case rel => exact ⟨n + 1, b9, by omega, by omega, rfl, h_b9, fun m h1 h2 h3 => (show rdB l = false from by
              rcases Nat.lt_or_eq_of_le (Nat.lt_succ_iff.1 h2) with h | h
              · exact HNO.out m h1 h h3
              · subst h; exact HNOW.out), (M.sub [0, 3, 4] (by decide)).eq rfl⟩
            case measure => exact measP hcn hc2 h10
      · have hlI : ¬ (l.length : Int) = (n : Int) * ((n : Int) + 1) - 1 := by rw [hnn]; omega
        have hl1 : ((l.length : Int) != (n : Int) * ((n : Int) + 1) - 1) = true := by rw [bne, Bool.not_eq_true', beq_eq_false_iff_ne]; exact hlI
        have HLN := Hid2.mk hln
        clear hln hnn hmul hmul1
        go_wp2_with (first | ((with_reducible apply wpM_alloc' M 2 (#[.int .i64 0])); rfl; exact ⟨rfl, _, zero_i64P _, rfl⟩; clear M; (try clear C); intro b9 w9 h_b9 M; have C := M.ruleAll; simp only [Go.Proofs.YtinjjaoikofkdaaDoor.ruleAll] at C) | ((with_reducible apply wpM_st' M 0 2 (0) (#[.int .i64 (n : Int)])); rfl; rfl; rfl; (first | exact .inl (by assumption) | exact .inr rfl | exact .inr (by assumption)); exact ⟨rfl, rfl, by kernel_rfl⟩; exact Nat.zero_lt_one; exact rfl; clear M; (try clear C); intro w9 M; simp only [List.set_cons_zero, List.set_cons_succ, entBlk, entT, List.getElem?_cons_zero, List.getElem?_cons_succ] at M; have C := M.ruleAll; simp only [Go.Proofs.YtinjjaoikofkdaaDoor.ruleAll] at C) | ((with_reducible apply wpM_st' M 0 2 (0) (#[.int .i64 ((n : Int) + 1)])); rfl; rfl; rfl; (first | exact .inl (by assumption) | exact .inr rfl | exact .inr (by assumption)); exact ⟨rfl, rfl, by kernel_rfl⟩; exact Nat.zero_lt_one; exact rfl; clear M; (try clear C); intro w9 M; simp only [List.set_cons_zero, List.set_cons_succ, entBlk, entT, List.getElem?_cons_zero, List.getElem?_cons_succ] at M; have C := M.ruleAll; simp only [Go.Proofs.YtinjjaoikofkdaaDoor.ruleAll] at C))
        simp only [Act.put, List.setIfInBounds_toArray, List.set_cons_succ, List.set_cons_zero]
        have hc2 := cellN_of (n := n + 1) (M.box 0 rfl)
        go_roundw
        case rel => exact ⟨n + 1, b9, by omega, by omega, rfl, h_b9, fun m h1 h2 h3 => (show rdB l = false from by
          rcases Nat.lt_or_eq_of_le (Nat.lt_succ_iff.1 h2) with h | h
          · exact HNO.out m h1 h h3
          · subst h; exact absurd h3 HLN.out), (M.sub [0, 2, 3] (by decide)).eq rfl⟩
        case measure => exact measP hcn hc2 h10
    · obtain rfl : n = 11 := by omega
      have h10' : ¬ ((11 : Nat) : Int) ≤ 10 := by omega
      have HNOW := Hid2.mk (show rdB l = false by
        by_cases h : ∃ m, 1 ≤ m ∧ m ≤ 10 ∧ l.length = m * (m + 1) - 1
        · obtain ⟨m, h1, h2, h3⟩ := h
          exact HNO.out m h1 (by omega) h3
        · exact HNN.out fun m h1 h2 h3 => h ⟨m, h1, h2, h3⟩)
      go_wp2_with (first | (refine wpList_build 36 _ rfl rfl [] rfl _ (build_sq0P _) ?_) | ((with_reducible apply wpM_sta' M 1 36 (sqs 0 fun _ _ => 0)); rfl; rfl; rfl; rfl; (first | exact .inl (by assumption) | exact .inr rfl | exact .inr (by assumption)); exact ⟨rfl, inf_sqs.trans (congrArg some (sqs_size ..).symm), flat_sqs _ _⟩; (simp only [entCells, List.getElem?_cons_zero, List.getElem?_cons_succ, sqs_size, sqs_size]); clear M; (try clear C); intro w9 M; simp only [List.set_cons_zero, List.set_cons_succ, entBlk, entT, List.getElem?_cons_zero, List.getElem?_cons_succ] at M; have C := M.ruleAll; simp only [Go.Proofs.YtinjjaoikofkdaaDoor.ruleAll] at C))
      refine bodyPost_ret (v := .tuple #[.agg (sqs 0 fun _ _ => 0), .int .i64 6]) (by exact results_part2 rfl _ _ _ _ (sqs 0 fun _ _ => 0) _ rfl und_sqs rfl inf_sqs (cells_of_blk0 (M.box 1 rfl)) _ rfl) rfl ?_
      exact PsPost.no HNOW.out M.below
end Go.Proofs.YtinjjaoikofkdaaDoor

/- The book of a text, for the reference: contract. -/
namespace Go.Proofs.YtinjjaoikofkdaaDoor
set_option linter.unusedSimpArgs false
set_option linter.unusedVariables false
open Go Go.RowKit

theorem pst_size (c B : Nat) : ∀ (l : List Nat) (s : List (List Nat) × List Nat), (∀ p ∈ s.1, p.length ≤ B) → s.2.length + l.length ≤ B → (∀ p ∈ (l.foldl (pstep c) s).1, p.length ≤ B) ∧ (l.foldl (pstep c) s).2.length ≤ B
  | [], s, h1, h2 => ⟨h1, by simpa using h2⟩
  | x :: l, s, h1, h2 => by
    rw [List.foldl_cons]
    rw [List.length_cons] at h2
    refine pst_size c B l _ ?_ ?_
    · unfold pstep
      split
      · intro p hp
        rcases List.mem_append.1 hp with h | h
        · exact h1 p h
        · rw [List.mem_singleton.1 h]; omega
      · exact h1
    · unfold pstep
      split
      · simp only [List.length_nil]; omega
      · rw [List.length_append]; simp only [List.length_cons, List.length_nil]; omega
theorem pcs_size {c : Nat} {l : List Nat} {i : Nat} : ((pcs c l).getD i []).length ≤ l.length := by
  rw [List.getD_eq_getElem?_getD]
  cases e : (pcs c l)[i]? with
  | none => exact Nat.zero_le _
  | some p =>
    have hp := List.mem_of_getElem? e
    have hk := pst_size c l.length l ([], []) (fun p hp => by cases hp) (by simp)
    unfold pcs at hp
    rcases List.mem_append.1 hp with h1 | h1
    · exact hk.1 p h1
    · rw [Option.getD_some, List.mem_singleton.1 h1]; exact hk.2
/-- A part of a text is a name and a square. -/
noncomputable def okP (p : List Nat) : Bool := decide ((pcs 61 p).length = 2) && rdB ((pcs 61 p).getD 1 [])
def nmP (p : List Nat) : ByteArray := str ((pcs 61 p).getD 0 [])
noncomputable def lpP (p : List Nat) : Sqr := rdQ ((pcs 61 p).getD 1 [])
def PbOk (l : List Nat) : Prop := (pcs 59 l).length ≤ 20 ∧ (pcs 59 l).all okP = true ∧ isBk ((pcs 59 l).map nmP) ((pcs 59 l).map lpP) = true
open Classical in
noncomputable def pbC (l : List Nat) : Int := if l = [] ∨ PbOk l then 0 else 6
open Classical in
noncomputable def pbN (l : List Nat) : List ByteArray := if l ≠ [] ∧ PbOk l then (pcs 59 l).map nmP else []
open Classical in
noncomputable def pbL (l : List Nat) : List Sqr := if l ≠ [] ∧ PbOk l then (pcs 59 l).map lpP else []
theorem pb_nil : pbN [] = [] ∧ pbL [] = [] ∧ pbC [] = 0 := ⟨by unfold pbN; rw [if_neg (fun h => h.1 rfl)], by unfold pbL; rw [if_neg (fun h => h.1 rfl)], by unfold pbC; rw [if_pos (.inl rfl)]⟩
theorem pb_no {l : List Nat} (h0 : l ≠ []) (h : ¬ PbOk l) : pbN l = [] ∧ pbL l = [] ∧ pbC l = 6 := ⟨by unfold pbN; rw [if_neg (fun k => h k.2)], by unfold pbL; rw [if_neg (fun k => h k.2)], by unfold pbC; rw [if_neg (fun k => k.elim h0 h)]⟩
theorem pb_yes {l : List Nat} (h0 : l ≠ []) (h : PbOk l) : pbN l = (pcs 59 l).map nmP ∧ pbL l = (pcs 59 l).map lpP ∧ pbC l = 0 := ⟨by unfold pbN; rw [if_pos ⟨h0, h⟩], by unfold pbL; rw [if_pos ⟨h0, h⟩], by unfold pbC; rw [if_pos (.inr h)]⟩
theorem IsSq.byt {n : Int} {t : Nat → Nat → Nat} (h : IsSq n t) : Byt2 t := ⟨fun x y hx hy => by
  have hhi := h.hi
  by_cases hxn : (x : Int) < n
  · by_cases hyn : (y : Int) < n
    · have := (h.rows.row x hx hxn).lt y hy hyn; omega
    · have := (h.rows.row x hx hxn).zero y hy (by omega); omega
  · have := h.rows.zero x y hx hy (by omega); omega⟩
theorem okP_iff {p : List Nat} : okP p = true ↔ (pcs 61 p).length = 2 ∧ rdB ((pcs 61 p).getD 1 []) = true := by unfold okP; rw [Bool.and_eq_true, decide_eq_true_iff]
/-- What is known of the book of parts that are all fine. -/
theorem bkIn_parts {l : List Nat} (hl : l.length ≤ 1048576) (h20 : (pcs 59 l).length ≤ 20) (hall : (pcs 59 l).all okP = true) : BkIn ((pcs 59 l).map nmP) ((pcs 59 l).map lpP) where
  n := by rw [List.length_map]; omega
  m := by rw [List.length_map]; omega
  s := fun x hx => by
    obtain ⟨p, hp, rfl⟩ := List.mem_map.1 hx
    obtain ⟨i, hi, rfl⟩ := List.getElem_of_mem hp
    have h1 := pcs_size (c := 59) (l := l) (i := i)
    rw [List.getD_eq_getElem?_getD, List.getElem?_eq_getElem hi, Option.getD_some] at h1
    have h2 := pcs_size (c := 61) (l := (pcs 59 l)[i]) (i := 0)
    unfold nmP
    rw [str_size]
    omega
  b := fun q hq => by
    obtain ⟨p, hp, rfl⟩ := List.mem_map.1 hq
    exact (rdQ_of (okP_iff.1 (List.all_eq_true.1 hall p hp)).2).sq.byt

theorem bkErrP {w w' : World} (hb : Below w.heap.size w w') (d : Int) : BkNew [] [] d w (.returned (.tuple #[.agg (bkV none 0 none 0 0 0), .int .i64 d])) w' :=
  ⟨none, 0, none, 0, rfl, ((Mm.start no w).later hb |>.nilRow w.heap.size 36 101).nilRow w.heap.size 9 1⟩

set_option maxRecDepth 100000 in
set_option maxHeartbeats 4000000 in
theorem specParseBook_any (l : List Nat) (hb : Byts l) (hl : l.length ≤ 1048576) (w : World) : Calls Tryd.prog 4 #[.string (str l)] w fun e w' => BkNew (pbN l) (pbL l) (pbC l) w e w' := by
  have M := Mm.start no w
  have hcmp := str_eq hb (b := []) (fun x hx => by cases hx)
  have hbd := build_bkH
  by_cases h0 : l = []
  · subst h0
    have HR := Hid2.mk pb_nil
    simp only [str_nil] at hcmp ⊢
    go_enter Tryd.func4, Tryd.ntmps4
    go_wp2_with (first | ((fail_if_success have := h_b2); ((with_reducible apply wpM_alloc' M 25 (bkV none 0 none 0 0 0)); rfl; exact ⟨rfl, _, zero_bkH _, rfl⟩; clear M; (try clear C); intro b2 w9 h_b2 M; have C := M.ruleAll; simp only [Go.Proofs.YtinjjaoikofkdaaDoor.ruleAll] at C)) | ((with_reducible apply wpM_alloc' M 25 (bkV none 0 none 0 0 0)); rfl; exact ⟨rfl, _, zero_bkH _, rfl⟩; clear M; (try clear C); intro b4 w9 h_b4 M; have C := M.ruleAll; simp only [Go.Proofs.YtinjjaoikofkdaaDoor.ruleAll] at C) | (refine wpList_build 25 _ rfl rfl [] rfl _ (build_bkH _) ?_) | ((with_reducible apply wpM_sta' M 0 25 (bkV none 0 none 0 0 0)); rfl; rfl; rfl; rfl; (first | exact .inl (by assumption) | exact .inr rfl | exact .inr (by assumption)); exact ⟨rfl, inf_bok.trans (congrArg some (bkv_size ..).symm), flat_bkv _ _ _ _ _ _⟩; (simp only [entCells, List.getElem?_cons_zero, List.getElem?_cons_succ, bkv_size, bkv_size]); clear M; (try clear C); intro w9 M; simp only [List.set_cons_zero, List.set_cons_succ, entBlk, entT, List.getElem?_cons_zero, List.getElem?_cons_succ] at M; have C := M.ruleAll; simp only [Go.Proofs.YtinjjaoikofkdaaDoor.ruleAll] at C) | ((with_reducible apply wpM_lda' M 0 25 0 (bkV none 0 none 0 0 0)); rfl; rfl; rfl; exact ⟨rfl, inf_bok.trans (congrArg some (bkv_size ..).symm), _, und_bok, rfl⟩; exact whole_of rfl) | ((with_reducible apply wpM_sta' M 1 25 (bkV none 0 none 0 0 0)); rfl; rfl; rfl; rfl; (first | exact .inl (by assumption) | exact .inr rfl | exact .inr (by assumption)); exact ⟨rfl, inf_bok.trans (congrArg some (bkv_size ..).symm), flat_bkv _ _ _ _ _ _⟩; (simp only [entCells, List.getElem?_cons_zero, List.getElem?_cons_succ, bkv_size, bkv_size]); clear M; (try clear C); intro w9 M; simp only [List.set_cons_zero, List.set_cons_succ, entBlk, entT, List.getElem?_cons_zero, List.getElem?_cons_succ] at M; have C := M.ruleAll; simp only [Go.Proofs.YtinjjaoikofkdaaDoor.ruleAll] at C))
    refine bodyPost_ret (v := .tuple #[.agg (bkV none 0 none 0 0 0), .int .i64 0]) (by exact results_part2 rfl _ _ _ _ (bkV none 0 none 0 0 0) _ rfl und_bok rfl inf_bok (cells_of_blk0 (M.box 1 rfl)) _ rfl) rfl ?_
    rw [HR.out.1, HR.out.2.1, HR.out.2.2]
    exact bkErrP M.below 0
  rw [decide_eq_false h0] at hcmp
  simp only [str_nil] at hcmp
  have hcmp : (str l).toList.isEmpty = false := by simpa using hcmp
  have HS : Hid2 (∀ w1, Calls Tryd.prog 9 #[.string (str l), .int .u8 59] w1 (SpPost (pcs 59 l) w1)) := Hid2.mk (fun w1 => l01Split_any l hb hl 59 (by decide) w1)
  have HNO0 := Hid2.mk (fun h => @pb_no l h0 h)
  have HYES0 := Hid2.mk (fun h => @pb_yes l h0 h)
  have HOKD := Hid2.mk (show PbOk l = ((pcs 59 l).length ≤ 20 ∧ (pcs 59 l).all okP = true ∧ isBk ((pcs 59 l).map nmP) ((pcs 59 l).map lpP) = true) from rfl)
  have HBK := Hid2.mk (fun h20 hall => @bkIn_parts l hl h20 hall)
  have HB := Hid2.mk (fun i => pcs_getD_byt (c := 59) hb i)
  have HSZ := Hid2.mk (fun i => Nat.le_trans (@pcs_size 59 l i) hl)
  have hpos : 0 < (pcs 59 l).length := by rw [pcs_len]; omega
  generalize pcs 59 l = P at HS HOKD HBK HB HSZ hpos HYES0
  generalize str l = s at hcmp HS
  clear hb h0
  go_enter Tryd.func4, Tryd.ntmps4
  go_wp2_with (first | ((fail_if_success have := h_b2); ((with_reducible apply wpM_alloc' M 25 (bkV none 0 none 0 0 0)); rfl; exact ⟨rfl, _, zero_bkH _, rfl⟩; clear M; (try clear C); intro b2 w9 h_b2 M; have C := M.ruleAll; simp only [Go.Proofs.YtinjjaoikofkdaaDoor.ruleAll] at C)) | ((with_reducible apply wpM_alloc' M 25 (bkV none 0 none 0 0 0)); rfl; exact ⟨rfl, _, zero_bkH _, rfl⟩; clear M; (try clear C); intro b4 w9 h_b4 M; have C := M.ruleAll; simp only [Go.Proofs.YtinjjaoikofkdaaDoor.ruleAll] at C) | (refine wpList_build 25 _ rfl rfl [] rfl _ (build_bkH _) ?_) | ((with_reducible apply wpM_sta' M 0 25 (bkV none 0 none 0 0 0)); rfl; rfl; rfl; rfl; (first | exact .inl (by assumption) | exact .inr rfl | exact .inr (by assumption)); exact ⟨rfl, inf_bok.trans (congrArg some (bkv_size ..).symm), flat_bkv _ _ _ _ _ _⟩; (simp only [entCells, List.getElem?_cons_zero, List.getElem?_cons_succ, bkv_size, bkv_size]); clear M; (try clear C); intro w9 M; simp only [List.set_cons_zero, List.set_cons_succ, entBlk, entT, List.getElem?_cons_zero, List.getElem?_cons_succ] at M; have C := M.ruleAll; simp only [Go.Proofs.YtinjjaoikofkdaaDoor.ruleAll] at C) | (go_at_call 9; fail))
  refine (HS.out _).mono ?_
  rintro e w1 ⟨pp, dd, rfl, M'⟩
  have M9 := M.joinRow M'
  obtain ⟨g, cap, hv, M8⟩ := M9.rowRd 0 rfl hpos (txF P) (fun j hj => txL_get P hj)
  obtain ⟨rfl, rfl⟩ : pp = some ⟨g, 0, none⟩ ∧ dd = cap := by cases hv; exact ⟨rfl, rfl⟩
  simp only [List.set_cons_zero] at M8
  clear M; (try clear C)
  have M := M8
  clear M8 M9 M' HS hv hcmp
  have C := M.ruleAll; simp only [Go.Proofs.YtinjjaoikofkdaaDoor.ruleAll] at C
  by_cases h20 : 20 < P.length
  · have h20' : (20 : Int) < (P.length : Int) := by omega
    have HNO := Hid2.mk (HNO0.out fun h => by rw [HOKD.out] at h; omega)
    go_wp2_with (first | (refine wpList_build 25 _ rfl rfl [] rfl _ (build_bkH _) ?_) | ((with_reducible apply wpM_sta' M 2 25 (bkV none 0 none 0 0 0)); rfl; rfl; rfl; rfl; (first | exact .inl (by assumption) | exact .inr rfl | exact .inr (by assumption)); exact ⟨rfl, inf_bok.trans (congrArg some (bkv_size ..).symm), flat_bkv _ _ _ _ _ _⟩; (simp only [entCells, List.getElem?_cons_zero, List.getElem?_cons_succ, bkv_size, bkv_size]); clear M; (try clear C); intro w9 M; simp only [List.set_cons_zero, List.set_cons_succ, entBlk, entT, List.getElem?_cons_zero, List.getElem?_cons_succ] at M; have C := M.ruleAll; simp only [Go.Proofs.YtinjjaoikofkdaaDoor.ruleAll] at C))
    refine bodyPost_ret (v := .tuple #[.agg (bkV none 0 none 0 0 0), .int .i64 6]) (by exact results_part2 rfl _ _ _ _ (bkV none 0 none 0 0 0) _ rfl und_bok rfl inf_bok (cells_of_blk0 (M.box 2 rfl)) _ rfl) rfl ?_
    rw [HNO.out.1, HNO.out.2.1, HNO.out.2.2]
    exact bkErrP M.below 6
  have h20' : ¬ (20 : Int) < (P.length : Int) := by omega
  have h20n : P.length ≤ 20 := by omega
  go_wp2
  have M9 := (M.nilRow w.heap.size 36 101).nilRow w.heap.size 9 1
  clear M; (try clear C)
  have M := M9
  clear M9
  go_loopw [6] (fun i wr => ∃ (k : Nat) (pp1 : Option Addr) (d1 : Nat) (pp2 : Option Addr) (d2 : Nat), k ≤ P.length ∧ i = .int .i64 (k : Int) ∧ (P.take k).all okP = true ∧ Mm no w wr [.row w.heap.size (.slice pp1 k d1) k (nmR ((P.take k).map nmP)) 9 1, .row w.heap.size (.slice pp2 k d2) k (slC ((P.take k).map lpP)) 36 101, .rd g P.length (txF P), .box b4 (bkV pp1 d1 pp2 d2 k k) 25, .box b2 (bkV none 0 none 0 0 0) 25]) (fun i _ => P.length - (intOf i).toNat)
  case atStart => exact ⟨0, none, 0, none, 0, by omega, rfl, rfl, M⟩
  case round =>
    obtain ⟨k, pp1, d1, pp2, d2, hk, rfl, hall, M9⟩ := hrel
    clear M; (try clear C)
    have M := M9
    clear M9
    have HALL := Hid2.mk hall
    clear hall
    by_cases hlt : k < P.length
    · have hlt' : (k : Int) < (P.length : Int) := by omega
      have dlt : decide ((k : Int) < (P.length : Int)) = true := decide_eq_true hlt'
      have hfx : txF P k = .string (str (P.getD k [])) := rfl
      have hgk : P.getD k [] = P[k] := by rw [List.getD_eq_getElem?_getD, List.getElem?_eq_getElem hlt]; rfl
      have HS2 : Hid2 (∀ w1, Calls Tryd.prog 9 #[.string (str (P.getD k [])), .int .u8 61] w1 (SpPost (pcs 61 (P.getD k [])) w1)) := Hid2.mk (fun w1 => l01Split_any (P.getD k []) (HB.out k) (HSZ.out k) 61 (by decide) w1)
      have HRD := Hid2.mk (fun w1 => l01Read_any ((pcs 61 (P.getD k [])).getD 1 []) (pcs_getD_byt (c := 61) (HB.out k) 1) (Nat.le_trans pcs_size (HSZ.out k)) w1)
      have hp2 : 0 < (pcs 61 (P.getD k [])).length := by rw [pcs_len]; omega
      have HBAD := Hid2.mk (fun (h : okP P[k] = false) => HNO0.out fun h2 => by
        rw [HOKD.out] at h2
        have := List.all_eq_true.1 h2.2.1 P[k] (List.getElem_mem hlt)
        rw [h] at this; cases this)
      have HGOOD := Hid2.mk (fun (h : okP P[k] = true) => (show (P.take (k + 1)).all okP = true from by rw [all_take okP P hlt, HALL.out, h]; rfl))
      have HOKI := Hid2.mk (show okP P[k] = (decide ((pcs 61 P[k]).length = 2) && rdB ((pcs 61 P[k]).getD 1 [])) from rfl)
      have e1 : nmR ((P.take (k + 1)).map nmP) = nmR ((P.take k).map nmP) ++ [.string (str ((pcs 61 P[k]).getD 0 []))] := by
        rw [List.take_succ_eq_append_getElem hlt, List.map_append, List.map_singleton, nmR_snoc]; rfl
      have e2 : slC ((P.take (k + 1)).map lpP) = slC ((P.take k).map lpP) ++ (sqs (lpP P[k]).n (lpP P[k]).t).toList := by
        rw [List.take_succ_eq_append_getElem hlt, List.map_append, List.map_singleton, slC_snocH]
      have hlp : lpP P[k] = rdQ ((pcs 61 P[k]).getD 1 []) := rfl
      rw [hlp] at e2
      have HE1 := Hid2.mk e1
      have HE2 := Hid2.mk e2
      rw [hgk] at hfx HS2 HRD hp2
      generalize P[k] = p at *
      clear e1 e2 hlp hgk
      generalize pcs 61 p = H at *
      generalize str p = sp at hfx HS2
      generalize okP p = ok at *
      generalize nmR ((P.take k).map nmP) = NR at *
      generalize slC ((P.take k).map lpP) = SR at *
      have C := M.ruleAll; simp only [Go.Proofs.YtinjjaoikofkdaaDoor.ruleAll] at C
      go_wp2_with (first | (go_at_call 9; fail))
      refine (HS2.out _).mono ?_
      rintro e w1 ⟨qq, dq, rfl, M'⟩
      have M9 := M.joinRow M'
      obtain ⟨gh, ch, hv, M8⟩ := M9.rowRd 0 rfl hp2 (txF H) (fun j hj => txL_get H hj)
      obtain ⟨rfl, rfl⟩ : qq = some ⟨gh, 0, none⟩ ∧ dq = ch := by cases hv; exact ⟨rfl, rfl⟩
      simp only [List.set_cons_zero] at M8
      clear M; (try clear C)
      have M := M8
      clear M8 M9 M' HS2 hv
      have C := M.ruleAll; simp only [Go.Proofs.YtinjjaoikofkdaaDoor.ruleAll] at C
      by_cases hh2 : H.length = 2
      · have hh2' : ((H.length : Int) != 2) = false := by rw [hh2]; rfl
        have hh2n : (H.length : Int) = 2 := by omega
        have hx0 : txF H 0 = .string (str (H.getD 0 [])) := rfl
        have hx1 : txF H 1 = .string (str (H.getD 1 [])) := rfl
        have h10 : 0 < H.length := by omega
        have h11 : 1 < H.length := by omega
        cases hr : rdB (H.getD 1 []) with
        | true =>
          have HOKT := Hid2.mk (show ok = true by rw [HOKI.out, hh2, hr]; rfl)
          have HR1 := Hid2.mk hr
          generalize H.getD 1 [] = h1 at *
          generalize H.getD 0 [] = hh0 at *
          generalize str h1 = s1 at hx1 HRD
          generalize str hh0 = s0 at hx0 HE1
          clear hr hh2
          go_wp2_with (first | (go_at_call 10; fail))
          refine (HRD.out _).mono ?_
          rintro e w1 ⟨m, u, rfl, hq, hb⟩
          have hq := hq HR1.out
          generalize rdQ h1 = q at hq HE2
          rw [hq, HR1.out]
          have M9 := M.later hb
          clear M; (try clear C)
          have M := M9
          clear M9 hb hq
          have j0 : (bkV pp1 d1 pp2 d2 k k)[0]? = some (.slice pp1 k d1) := rfl
          have j1 : (bkV pp1 d1 pp2 d2 k k)[1]? = some (.slice pp2 k d2) := rfl
          have C := M.ruleAll; simp only [Go.Proofs.YtinjjaoikofkdaaDoor.ruleAll] at C
          go_wp2_with (first | ((with_reducible apply wpM_alloc' M 36 (sqs 0 fun _ _ => 0)); rfl; exact ⟨rfl, _, zero_sqs _, rfl⟩; clear M; (try clear C); intro b8 w9 h_b8 M; have C := M.ruleAll; simp only [Go.Proofs.YtinjjaoikofkdaaDoor.ruleAll] at C) | ((with_reducible apply wpM_sta' M 0 36 (sqs q.n q.t)); rfl; rfl; rfl; rfl; (first | exact .inl (by assumption) | exact .inr rfl | exact .inr (by assumption)); exact ⟨rfl, inf_sqs.trans (congrArg some (sqs_size ..).symm), flat_sqs _ _⟩; (simp only [entCells, List.getElem?_cons_zero, List.getElem?_cons_succ, sqs_size, sqs_size]); clear M; (try clear C); intro w9 M; simp only [List.set_cons_zero, List.set_cons_succ, entBlk, entT, List.getElem?_cons_zero, List.getElem?_cons_succ] at M; have C := M.ruleAll; simp only [Go.Proofs.YtinjjaoikofkdaaDoor.ruleAll] at C))
          apply wp_region_mmb M [0, 1, 2, 3, 4] 5 6 _ 22 1 9 ([(0, .string s0)]) (#[.string s0]) (by kernel_rfl) (by kernel_rfl) rfl rfl rfl; (case ht => repeat (first | exact wpTextG_nil | (apply wpTextG_cons; (intro g9 w2 hG; obtain ⟨Lg9, hSt9, G⟩ := hG; have M := G.suffix; have C := M.ruleAll; simp only [Go.Proofs.YtinjjaoikofkdaaDoor.ruleAll] at C; go_wp2; exact ⟨rfl, rfl, Lg9, hSt9, G⟩); rfl))); rfl; exact bsl_J1 _; (clear M; (try clear C); intro bx w2 h_bx M; simp only [List.drop_succ_cons, List.drop_zero]; have C := M.ruleAll; simp only [Go.Proofs.YtinjjaoikofkdaaDoor.ruleAll] at C)
          go_wp2_with (first | ((with_reducible apply wpM_app' M 22 3 0 (w.heap.size) (.slice pp1 k d1) (k) (NR) 9 1 16); rfl; rfl; rfl; rfl; rfl; rfl; rfl; (first | exact .inl (Nat.le_refl _) | exact .inl (by assumption) | exact .inr (by assumption) | exact .inr HDv.out); (first | exact M.size | (have hq := M.size; omega)); exact und_slJ; exact inf_elJ; rfl; decide; decide; rfl; exact rfl; exact flat_J1 _; omega; clear M; (try clear C); intro v3 w9 far_v3 M; simp only [List.set_cons_zero, List.set_cons_succ, entBlk, entT, List.getElem?_cons_zero, List.getElem?_cons_succ] at M; obtain ⟨pp_v3, cap_v3, rfl⟩ := own_form (M.row 3 rfl); have C := M.ruleAll; simp only [Go.Proofs.YtinjjaoikofkdaaDoor.ruleAll] at C) | (((with_reducible apply wpM_st' M 6 22 (0) (bkV pp_v3 cap_v3 pp2 d2 (k + 1) k)); rfl; rfl; rfl; (first | exact .inl (by assumption) | exact .inr rfl | exact .inr (by assumption)); exact ⟨rfl, rfl, by kernel_rfl⟩; (exact Nat.lt_of_lt_of_eq (by omega) (bkv_size ..).symm); exact rfl; clear M; (try clear C); intro w9 M; simp only [List.set_cons_zero, List.set_cons_succ, entBlk, entT, List.getElem?_cons_zero, List.getElem?_cons_succ] at M; have C := M.ruleAll; simp only [Go.Proofs.YtinjjaoikofkdaaDoor.ruleAll] at C); have j2 : (bkV pp_v3 cap_v3 pp2 d2 (k + 1) k)[1]? = some (.slice pp2 k d2) := rfl) | ((with_reducible apply wpM_lda' M 1 36 0 (sqs q.n q.t)); rfl; rfl; rfl; exact ⟨rfl, inf_sqs.trans (congrArg some (sqs_size ..).symm), _, und_sqs, rfl⟩; exact whole_of rfl) | ((with_reducible apply wpM_bsl' M 23 1 36 ([(0, .agg (sqs q.n q.t))]) (sqs q.n q.t)); rfl; rfl; rfl; exact bsl_Q1 q; clear M; (try clear C); intro by_ w9 h_by_ M; have C := M.ruleAll; simp only [Go.Proofs.YtinjjaoikofkdaaDoor.ruleAll] at C) | ((with_reducible apply wpM_app' M 23 5 0 (w.heap.size) (.slice pp2 k d2) (k) (SR) 36 101 112); rfl; rfl; rfl; rfl; rfl; rfl; rfl; (first | exact .inl (Nat.le_refl _) | exact .inl (by assumption) | exact .inr (by assumption) | exact .inr HDv.out); (first | exact M.size | (have hq := M.size; omega)); exact und_sqH; exact inf_sqH; rfl; decide; decide; rfl; exact sqs_size ..; exact flat_sqs _ _; omega; clear M; (try clear C); intro v4 w9 far_v4 M; simp only [List.set_cons_zero, List.set_cons_succ, entBlk, entT, List.getElem?_cons_zero, List.getElem?_cons_succ] at M; obtain ⟨pp_v4, cap_v4, rfl⟩ := own_form (M.row 5 rfl); have C := M.ruleAll; simp only [Go.Proofs.YtinjjaoikofkdaaDoor.ruleAll] at C) | ((with_reducible apply wpM_st' M 7 23 (1) (bkV pp_v3 cap_v3 pp_v4 cap_v4 (k + 1) (k + 1))); rfl; rfl; rfl; (first | exact .inl (by assumption) | exact .inr rfl | exact .inr (by assumption)); exact ⟨rfl, rfl, by kernel_rfl⟩; (exact Nat.lt_of_lt_of_eq (by omega) (bkv_size ..).symm); exact rfl; clear M; (try clear C); intro w9 M; simp only [List.set_cons_zero, List.set_cons_succ, entBlk, entT, List.getElem?_cons_zero, List.getElem?_cons_succ] at M; have C := M.ruleAll; simp only [Go.Proofs.YtinjjaoikofkdaaDoor.ruleAll] at C))
          go_roundw
          case rel => exact ⟨k + 1, pp_v3, cap_v3, pp_v4, cap_v4, by omega, by go_num, HGOOD.out HOKT.out, by
            rw [HE1.out, HE2.out]
            exact (M.sub [4, 5, 6, 7, 8] (by decide)).eq rfl⟩
          case measure => simp [intOf]; omega
        | false =>
          have HNO := Hid2.mk (HBAD.out (by rw [HOKI.out, hr, Bool.and_false]))
          generalize H.getD 1 [] = h1 at *
          generalize str h1 = s1 at hx1 HRD
          have HR1 := Hid2.mk hr
          clear hr hh2
          go_wp2_with (first | (go_at_call 10; fail))
          refine (HRD.out _).mono ?_
          rintro e w1 ⟨m, u, rfl, -, hb⟩
          rw [HR1.out]
          have M9 := M.later hb
          clear M; (try clear C)
          have M := M9
          clear M9 hb
          have C := M.ruleAll; simp only [Go.Proofs.YtinjjaoikofkdaaDoor.ruleAll] at C
          go_wp2_with (first | ((with_reducible apply wpM_alloc' M 36 (sqs 0 fun _ _ => 0)); rfl; exact ⟨rfl, _, zero_sqs _, rfl⟩; clear M; (try clear C); intro b8 w9 h_b8 M; have C := M.ruleAll; simp only [Go.Proofs.YtinjjaoikofkdaaDoor.ruleAll] at C) | ((with_reducible apply wpM_sta' M 0 36 (sqs m u)); rfl; rfl; rfl; rfl; (first | exact .inl (by assumption) | exact .inr rfl | exact .inr (by assumption)); exact ⟨rfl, inf_sqs.trans (congrArg some (sqs_size ..).symm), flat_sqs _ _⟩; (simp only [entCells, List.getElem?_cons_zero, List.getElem?_cons_succ, sqs_size, sqs_size]); clear M; (try clear C); intro w9 M; simp only [List.set_cons_zero, List.set_cons_succ, entBlk, entT, List.getElem?_cons_zero, List.getElem?_cons_succ] at M; have C := M.ruleAll; simp only [Go.Proofs.YtinjjaoikofkdaaDoor.ruleAll] at C) | (refine wpList_build 25 _ rfl rfl [] rfl _ (build_bkH _) ?_) | ((with_reducible apply wpM_sta' M 6 25 (bkV none 0 none 0 0 0)); rfl; rfl; rfl; rfl; (first | exact .inl (by assumption) | exact .inr rfl | exact .inr (by assumption)); exact ⟨rfl, inf_bok.trans (congrArg some (bkv_size ..).symm), flat_bkv _ _ _ _ _ _⟩; (simp only [entCells, List.getElem?_cons_zero, List.getElem?_cons_succ, bkv_size, bkv_size]); clear M; (try clear C); intro w9 M; simp only [List.set_cons_zero, List.set_cons_succ, entBlk, entT, List.getElem?_cons_zero, List.getElem?_cons_succ] at M; have C := M.ruleAll; simp only [Go.Proofs.YtinjjaoikofkdaaDoor.ruleAll] at C))
          refine bodyPost_ret (v := .tuple #[.agg (bkV none 0 none 0 0 0), .int .i64 6]) (by exact results_part2 rfl _ _ _ _ (bkV none 0 none 0 0 0) _ rfl und_bok rfl inf_bok (cells_of_blk0 (M.box 6 rfl)) _ rfl) rfl ?_
          rw [HNO.out.1, HNO.out.2.1, HNO.out.2.2]
          exact bkErrP M.below 6
      · have hh2' : ((H.length : Int) != 2) = true := by simp; omega
        have hh2n : ¬ (H.length : Int) = 2 := by omega
        have HNO := Hid2.mk (HBAD.out (by rw [HOKI.out, decide_eq_false hh2]; rfl))
        clear hh2
        go_wp2_with (first | (refine wpList_build 25 _ rfl rfl [] rfl _ (build_bkH _) ?_) | ((with_reducible apply wpM_sta' M 5 25 (bkV none 0 none 0 0 0)); rfl; rfl; rfl; rfl; (first | exact .inl (by assumption) | exact .inr rfl | exact .inr (by assumption)); exact ⟨rfl, inf_bok.trans (congrArg some (bkv_size ..).symm), flat_bkv _ _ _ _ _ _⟩; (simp only [entCells, List.getElem?_cons_zero, List.getElem?_cons_succ, bkv_size, bkv_size]); clear M; (try clear C); intro w9 M; simp only [List.set_cons_zero, List.set_cons_succ, entBlk, entT, List.getElem?_cons_zero, List.getElem?_cons_succ] at M; have C := M.ruleAll; simp only [Go.Proofs.YtinjjaoikofkdaaDoor.ruleAll] at C))
        refine bodyPost_ret (v := .tuple #[.agg (bkV none 0 none 0 0 0), .int .i64 6]) (by exact results_part2 rfl _ _ _ _ (bkV none 0 none 0 0 0) _ rfl und_bok rfl inf_bok (cells_of_blk0 (M.box 5 rfl)) _ rfl) rfl ?_
        rw [HNO.out.1, HNO.out.2.1, HNO.out.2.2]
        exact bkErrP M.below 6
    · obtain rfl : k = P.length := by omega
      have hge : ¬ ((P.length : Int) < (P.length : Int)) := by omega
      have HA2 := Hid2.mk (show P.all okP = true by have := HALL.out; rwa [List.take_length] at this)
      rw [List.take_length] at M
      have HIN := Hid2.mk (HBK.out h20n HA2.out)
      have HY := Hid2.mk (fun (h : isBk (P.map nmP) (P.map lpP) = true) => HYES0.out (by rw [HOKD.out]; exact ⟨h20n, HA2.out, h⟩))
      have HN := Hid2.mk (fun (h : isBk (P.map nmP) (P.map lpP) = false) => HNO0.out (fun h2 => by rw [HOKD.out] at h2; rw [h2.2.2] at h; cases h))
      have M1 : Mm no w wr [.row w.heap.size (.slice pp1 (P.map nmP).length d1) (P.map nmP).length (nmR (P.map nmP)) 9 1, .row w.heap.size (.slice pp2 (P.map lpP).length d2) (P.map lpP).length (slC (P.map lpP)) 36 101] := by rw [List.length_map, List.length_map]; exact (M.sub [0, 1] (by decide)).eq rfl
      have hp1 : 0 < (P.map nmP).length := by rw [List.length_map]; exact hpos
      have hp2 : 0 < (P.map lpP).length := by rw [List.length_map]; exact hpos
      obtain ⟨g1, cap1, hv1, -, -, hr1⟩ := own_rds (M1.row 0 rfl) (by omega)
      obtain ⟨g2, cap2, hv2, -, -, hr2⟩ := own_rds (M1.row 1 rfl) (by omega)
      cases hv1
      cases hv2
      have HBH := Hid2.mk (show BkHere (P.map nmP) (P.map lpP) wr g1 g2 from ⟨by obtain ⟨gg, e, h⟩ := nmR_rdq (M1.row 0 rfl) hp1; cases e; exact h, hr2, fun e => M1.dist 0 1 _ _ rfl rfl (by decide) g1 rfl (by rw [e]; rfl)⟩)
      clear hr1 hr2 M1 hp1 hp2 HALL HB HSZ HNO0 HYES0 HBK
      have HC := Hid2.mk (l11IsP_any HIN.out wr HBH.out d1 d2)
      rw [List.length_map, List.length_map] at HC
      have C := M.ruleAll; simp only [Go.Proofs.YtinjjaoikofkdaaDoor.ruleAll] at C
      go_wp2_with (first | ((with_reducible apply wpM_lda' M 3 25 0 (bkV (some ⟨g1, 0, none⟩) d1 (some ⟨g2, 0, none⟩) d2 P.length P.length)); rfl; rfl; rfl; exact ⟨rfl, inf_bok.trans (congrArg some (bkv_size ..).symm), _, und_bok, rfl⟩; exact whole_of rfl) | (go_at_call 11; fail))
      refine HC.out.mono ?_
      rintro e w1 ⟨rfl, hb⟩
      have M9 := M.later hb
      clear M; (try clear C)
      have M := M9
      clear M9 hb
      cases hi : isBk (P.map nmP) (P.map lpP) with
      | true =>
        have HR := Hid2.mk (HY.out hi)
        clear hi HN HY HC HBH HIN
        have C := M.ruleAll; simp only [Go.Proofs.YtinjjaoikofkdaaDoor.ruleAll] at C
        go_wp2_with (first | ((with_reducible apply wpM_lda' M 3 25 0 (bkV (some ⟨g1, 0, none⟩) d1 (some ⟨g2, 0, none⟩) d2 P.length P.length)); rfl; rfl; rfl; exact ⟨rfl, inf_bok.trans (congrArg some (bkv_size ..).symm), _, und_bok, rfl⟩; exact whole_of rfl) | ((with_reducible apply wpM_sta' M 4 25 (bkV (some ⟨g1, 0, none⟩) d1 (some ⟨g2, 0, none⟩) d2 P.length P.length)); rfl; rfl; rfl; rfl; (first | exact .inl (by assumption) | exact .inr rfl | exact .inr (by assumption)); exact ⟨rfl, inf_bok.trans (congrArg some (bkv_size ..).symm), flat_bkv _ _ _ _ _ _⟩; (simp only [entCells, List.getElem?_cons_zero, List.getElem?_cons_succ, bkv_size, bkv_size]); clear M; (try clear C); intro w9 M; simp only [List.set_cons_zero, List.set_cons_succ, entBlk, entT, List.getElem?_cons_zero, List.getElem?_cons_succ] at M; have C := M.ruleAll; simp only [Go.Proofs.YtinjjaoikofkdaaDoor.ruleAll] at C))
        refine bodyPost_ret (v := .tuple #[.agg (bkV (some ⟨g1, 0, none⟩) d1 (some ⟨g2, 0, none⟩) d2 P.length P.length), .int .i64 0]) (by exact results_part2 rfl _ _ _ _ (bkV (some ⟨g1, 0, none⟩) d1 (some ⟨g2, 0, none⟩) d2 P.length P.length) _ rfl und_bok rfl inf_bok (cells_of_blk0 (M.box 4 rfl)) _ rfl) rfl ?_
        rw [HR.out.1, HR.out.2.1, HR.out.2.2]
        unfold BkNew
        rw [List.length_map, List.length_map]
        exact ⟨some ⟨g1, 0, none⟩, d1, some ⟨g2, 0, none⟩, d2, rfl, (M.sub [0, 1] (by decide)).eq rfl⟩
      | false =>
        have HR := Hid2.mk (HN.out hi)
        clear hi HN HY HC HBH HIN
        have C := M.ruleAll; simp only [Go.Proofs.YtinjjaoikofkdaaDoor.ruleAll] at C
        go_wp2_with (first | (refine wpList_build 25 _ rfl rfl [] rfl _ (build_bkH _) ?_) | ((with_reducible apply wpM_sta' M 4 25 (bkV none 0 none 0 0 0)); rfl; rfl; rfl; rfl; (first | exact .inl (by assumption) | exact .inr rfl | exact .inr (by assumption)); exact ⟨rfl, inf_bok.trans (congrArg some (bkv_size ..).symm), flat_bkv _ _ _ _ _ _⟩; (simp only [entCells, List.getElem?_cons_zero, List.getElem?_cons_succ, bkv_size, bkv_size]); clear M; (try clear C); intro w9 M; simp only [List.set_cons_zero, List.set_cons_succ, entBlk, entT, List.getElem?_cons_zero, List.getElem?_cons_succ] at M; have C := M.ruleAll; simp only [Go.Proofs.YtinjjaoikofkdaaDoor.ruleAll] at C))
        refine bodyPost_ret (v := .tuple #[.agg (bkV none 0 none 0 0 0), .int .i64 6]) (by exact results_part2 rfl _ _ _ _ (bkV none 0 none 0 0 0) _ rfl und_bok rfl inf_bok (cells_of_blk0 (M.box 4 rfl)) _ rfl) rfl ?_
        rw [HR.out.1, HR.out.2.1, HR.out.2.2]
        exact bkErrP M.below 6
end Go.Proofs.YtinjjaoikofkdaaDoor

/- Texts cut by the library: strings.Split and strings.Cut out of the shelf; plain laws of both; what the parts of a book's text say. -/
namespace Go.Proofs
open Go.Shelf
shelf_lay Lays.n146 Nm 146 at Tryd as Tryd.spl
shelf_lay Lays.n145 Nm 145 at Tryd as Tryd.cut
theorem Tryd.splI : (Tryd.prog.info? (Tryd.spl_ren.t 9)).map (fun i => (i.zero, i.size, i.bytes)) = some (some (.string ByteArray.empty), 1, 16) := by kernel_rfl
/-- The number of bytealg.MaxLen. -/
def Tryd.gML : Nat := Tryd.spl_ren.g 1
open Go.RowKit in
theorem Tryd.splA (s : ByteArray) (m : Int) (w : World) (hs : s.size < 4294967281) (hm : w.cell? ⟨Tryd.gML, 0, none⟩ = some (.int .i64 m)) :
    Calls Tryd.prog 12 #[.string s, .string ⟨#[59]⟩] w fun e w' => e = .returned (.slice (some ⟨w.heap.size, 0, none⟩) (Lib.countB s ⟨#[59]⟩ + 1) (Lib.countB s ⟨#[59]⟩ + 1)) ∧ w' = w.alloc (.cells ((Lib.splitB ⟨#[59]⟩ 0 (Lib.countB s ⟨#[59]⟩) s).map Value.string).toArray 9) :=
  Any.strings_Split Tryd.spl Tryd.splI s ⟨#[59]⟩ m w hs hm (by decide)
open Go.RowKit in
theorem Tryd.cutA (s : ByteArray) (m : Int) (w : World) (hs : s.size < 4294967281) (hm : w.cell? ⟨Tryd.gML, 0, none⟩ = some (.int .i64 m)) :
    Calls Tryd.prog 13 #[.string s, .string ⟨#[61]⟩] w fun e w' => e = .returned (.tuple #[.string ⟨(Lib.cut s.data.toList [61]).1.toArray⟩, .string ⟨(Lib.cut s.data.toList [61]).2.1.toArray⟩, .bool (Lib.cut s.data.toList [61]).2.2]) ∧ ∃ n, w' = w.drewN n :=
  Any.strings_Cut Tryd.cut s ⟨#[61]⟩ m w hs hm
end Go.Proofs

namespace Go.Proofs.YtinjjaoikofkdaaDoor
set_option linter.unusedSimpArgs false
set_option linter.unusedVariables false
open Go Go.RowKit

theorem u8_ne {x c : Nat} (hx : x < 256) (hc : c < 256) (h : x ≠ c) : UInt8.ofNat x ≠ UInt8.ofNat c := fun e => by
  have := congrArg UInt8.toNat e
  simp only [UInt8.toNat_ofNat'] at this
  omega
theorem pre_one (c x : UInt8) (l : List UInt8) : [c].isPrefixOf (x :: l) = (c == x) := by simp [List.isPrefixOf]
theorem idx_at {c : Nat} (hc : c < 256) (b : List Nat) : ∀ {a : List Nat}, Byts a → c ∉ a → Lib.index ((a ++ c :: b).map UInt8.ofNat) [UInt8.ofNat c] = (a.length : Int)
  | [], _, _ => by
    rw [List.nil_append, List.map_cons, Lib.index, pre_one]
    simp
  | x :: a, hb, h => by
    have hx := hb x List.mem_cons_self
    have hxc : ¬ c = x := fun e => h (e ▸ List.mem_cons_self)
    have ih := idx_at hc b (a := a) (fun y hy => hb y (List.mem_cons_of_mem _ hy)) (fun hm => h (List.mem_cons_of_mem _ hm))
    have hne : (UInt8.ofNat c == UInt8.ofNat x) = false := beq_eq_false_iff_ne.2 (u8_ne hc hx hxc)
    rw [List.cons_append, List.map_cons, Lib.index, pre_one, hne, if_neg (by simp), ih, if_neg (by rw [beq_iff_eq]; omega)]
    simp only [List.length_cons]; omega
theorem idx_no {c : Nat} (hc : c < 256) : ∀ {l : List Nat}, Byts l → c ∉ l → Lib.index (l.map UInt8.ofNat) [UInt8.ofNat c] = -1
  | [], _, _ => by rw [List.map_nil, Lib.index]; rfl
  | x :: a, hb, h => by
    have hx := hb x List.mem_cons_self
    have hxc : ¬ c = x := fun e => h (e ▸ List.mem_cons_self)
    have ih := idx_no hc (l := a) (fun y hy => hb y (List.mem_cons_of_mem _ hy)) (fun hm => h (List.mem_cons_of_mem _ hm))
    have hne : (UInt8.ofNat c == UInt8.ofNat x) = false := beq_eq_false_iff_ne.2 (u8_ne hc hx hxc)
    rw [List.map_cons, Lib.index, pre_one, hne, if_neg (by simp), ih]
    rfl
theorem idxB_at {c : Nat} (hc : c < 256) {a b : List Nat} (hb : Byts a) (h : c ∉ a) : Lib.indexB (str (a ++ c :: b)) (str [c]) = (a.length : Int) := idx_at hc b hb h
theorem idxB_no {c : Nat} (hc : c < 256) {l : List Nat} (hb : Byts l) (h : c ∉ l) : Lib.indexB (str l) (str [c]) = -1 := idx_no hc hb h
theorem rest_at (a b : List Nat) (c : Nat) : (str (a ++ c :: b)).extract (a.length + (str [c]).size) (str (a ++ c :: b)).size = str b := by
  rw [str_size, str_size, str_extract, List.take_length]
  congr 1
  rw [show a.length + [c].length = (a ++ [c]).length by simp, show a ++ c :: b = (a ++ [c]) ++ b by simp, List.drop_left]
theorem head_at (a b : List Nat) (c : Nat) : (str (a ++ c :: b)).extract 0 a.length = str a := by
  rw [str_extract, List.drop_zero, List.take_left]
/-- strings.Split at one byte gives the pieces. -/
theorem split_pcs {c : Nat} (hc : c < 256) : ∀ (k : Nat) (l : List Nat), l.length ≤ k → Byts l → Lib.countB (str l) (str [c]) + 1 = (pcs c l).length ∧ Lib.splitB (str [c]) 0 (Lib.countB (str l) (str [c])) (str l) = (pcs c l).map str := by
  intro k
  induction k with
  | zero =>
    intro l hl hb
    have h : c ∉ l := by rw [List.length_eq_zero_iff.1 (Nat.le_zero.1 hl)]; simp
    have hi := idxB_no hc hb h
    rw [Lib.countB_miss _ _ hi, pcs_miss h, Lib.splitB_zero]
    exact ⟨rfl, rfl⟩
  | succ k ih =>
    intro l hl hb
    by_cases h : c ∈ l
    · obtain ⟨a, b, rfl, ha⟩ := List.eq_append_cons_of_mem h
      have hi := idxB_at hc (b := b) (fun x hx => hb x (List.mem_append_left _ hx)) ha
      have hlen : b.length ≤ k := by rw [List.length_append, List.length_cons] at hl; omega
      obtain ⟨h1, h2⟩ := ih b hlen (fun x hx => hb x (List.mem_append_right _ (List.mem_cons_of_mem _ hx)))
      rw [Lib.countB_hit _ _ a.length (by rw [str_size]; exact Nat.le_refl _) hi, rest_at, pcs_hit ha, List.length_cons, ← h1]
      refine ⟨by omega, ?_⟩
      rw [show 1 + Lib.countB (str b) (str [c]) = Lib.countB (str b) (str [c]) + 1 by omega, Lib.splitB_hit _ _ _ _ _ hi, rest_at, h2, Nat.add_zero, head_at]
      rfl
    · have hi := idxB_no hc hb h
      rw [Lib.countB_miss _ _ hi, pcs_miss h, Lib.splitB_zero]
      exact ⟨rfl, rfl⟩
/-- What lies before the first byte c, and behind it. -/
def ctA (c : Nat) : List Nat → List Nat
  | [] => []
  | x :: l => if x = c then [] else x :: ctA c l
def ctB (c : Nat) : List Nat → List Nat
  | [] => []
  | x :: l => if x = c then l else ctB c l
theorem ct_at {c : Nat} (b : List Nat) : ∀ {a : List Nat}, c ∉ a → ctA c (a ++ c :: b) = a ∧ ctB c (a ++ c :: b) = b
  | [], _ => by rw [List.nil_append, ctA, ctB, if_pos rfl, if_pos rfl]; exact ⟨rfl, rfl⟩
  | x :: a, h => by
    have hx : ¬ x = c := fun e => h (e ▸ List.mem_cons_self)
    obtain ⟨h1, h2⟩ := ct_at b (a := a) fun hm => h (List.mem_cons_of_mem _ hm)
    rw [List.cons_append, ctA, ctB, if_neg hx, if_neg hx, h1, h2]
    exact ⟨rfl, rfl⟩
theorem ct_no {c : Nat} : ∀ {l : List Nat}, c ∉ l → ctA c l = l ∧ ctB c l = []
  | [], _ => ⟨rfl, rfl⟩
  | x :: a, h => by
    have hx : ¬ x = c := fun e => h (e ▸ List.mem_cons_self)
    obtain ⟨h1, h2⟩ := ct_no (l := a) fun hm => h (List.mem_cons_of_mem _ hm)
    rw [ctA, ctB, if_neg hx, if_neg hx, h1, h2]
    exact ⟨rfl, rfl⟩
theorem ct_len (c : Nat) : ∀ l : List Nat, (ctA c l).length ≤ l.length ∧ (ctB c l).length ≤ l.length
  | [] => ⟨Nat.le_refl _, Nat.le_refl _⟩
  | x :: l => by
    obtain ⟨h1, h2⟩ := ct_len c l
    rw [ctA, ctB]
    split
    · exact ⟨Nat.zero_le _, by simp⟩
    · exact ⟨(by simp only [List.length_cons]; omega), (by simp only [List.length_cons]; omega)⟩
theorem ct_byts (c : Nat) : ∀ {l : List Nat}, Byts l → Byts (ctA c l) ∧ Byts (ctB c l)
  | [], h => ⟨h, h⟩
  | x :: l, h => by
    obtain ⟨h1, h2⟩ := ct_byts c (l := l) fun y hy => h y (List.mem_cons_of_mem _ hy)
    rw [ctA, ctB]
    split
    · exact ⟨(fun y hy => by cases hy), fun y hy => h y (List.mem_cons_of_mem _ hy)⟩
    · refine ⟨fun y hy => ?_, h2⟩
      rcases List.mem_cons.1 hy with rfl | hy
      · exact h y List.mem_cons_self
      · exact h1 y hy
theorem _root_.Go.RowKit.Below.drewN {B : Nat} {a w : World} (h : Below B a w) (n : Nat) : Below B a (w.drewN n) := ⟨h.os, h.tape, h.output, h.size, h.block⟩
/-- strings.Split and strings.Cut over texts. -/
theorem split_any (l : List Nat) (hb : Byts l) (hl : l.length ≤ 1048576) (m : Int) (w : World) (hm : w.cell? ⟨Tryd.gML, 0, none⟩ = some (.int .i64 m)) :
    Calls Tryd.prog 12 #[.string (str l), .string ⟨#[59]⟩] w fun e w' => e = .returned (.slice (some ⟨w.heap.size, 0, none⟩) (pcs 59 l).length (pcs 59 l).length) ∧ w' = w.alloc (.cells (txL (pcs 59 l)).toArray 9) := by
  have h := Tryd.splA (str l) m w (by rw [str_size]; omega) hm
  obtain ⟨h1, h2⟩ := split_pcs (c := 59) (by decide) l.length l (Nat.le_refl _) hb
  refine h.mono ?_
  rintro e w' ⟨rfl, rfl⟩
  have h1' : Lib.countB (str l) ⟨#[59]⟩ + 1 = (pcs 59 l).length := h1
  have h2' : Lib.splitB ⟨#[59]⟩ 0 (Lib.countB (str l) ⟨#[59]⟩) (str l) = (pcs 59 l).map str := h2
  rw [h1', h2', List.map_map]
  exact ⟨rfl, rfl⟩
theorem cut_any (l : List Nat) (hb : Byts l) (hl : l.length ≤ 1048576) (m : Int) (w : World) (hm : w.cell? ⟨Tryd.gML, 0, none⟩ = some (.int .i64 m)) :
    Calls Tryd.prog 13 #[.string (str l), .string ⟨#[61]⟩] w fun e w' => e = .returned (.tuple #[.string (str (ctA 61 l)), .string (str (ctB 61 l)), .bool (decide (61 ∈ l))]) ∧ Below w.heap.size w w' := by
  refine (Tryd.cutA (str l) m w (by rw [str_size]; omega) hm).mono ?_
  rintro e w' ⟨rfl, n, rfl⟩
  refine ⟨?_, (Below.refl _ _).drewN n⟩
  by_cases h : 61 ∈ l
  · rw [decide_eq_true h]
    obtain ⟨a, b, rfl, ha⟩ := List.eq_append_cons_of_mem h
    have hi := idxB_at (c := 61) (by decide) (b := b) (fun x hx => hb x (List.mem_append_left _ hx)) ha
    obtain ⟨e1, e2, e3⟩ := Lib.cutB_hit _ _ _ hi
    obtain ⟨c1, c2⟩ := ct_at b ha
    rw [rest_at] at e2
    rw [head_at] at e1
    rw [c1, c2, ← e1, ← e2]
    exact congrArg (fun x => Ending.returned (.tuple #[.string _, .string _, .bool x])) e3
  · rw [decide_eq_false h]
    have hi := idxB_no (c := 61) (by decide) hb h
    obtain ⟨e1, e2, e3⟩ := Lib.cutB_miss _ _ hi
    obtain ⟨c1, c2⟩ := ct_no h
    have e1' := e1
    have e2' : (⟨(Lib.cut (str l).data.toList [61]).2.1.toArray⟩ : ByteArray) = str [] := e2
    have e1'' : (⟨(Lib.cut (str l).data.toList [61]).1.toArray⟩ : ByteArray) = str l := e1
    have e3' : (Lib.cut (str l).data.toList [61]).2.2 = false := e3
    rw [c1, c2, e1'', e2', e3']

/-! ### The parts of a book's text -/
theorem rwT_mem2 {t : Nat → Nat → Nat} {x b : Nat} : ∀ {k : Nat}, b ∈ rwT t x k → ∃ y, y < k ∧ b = 48 + t x y
  | 0, h => by cases h
  | k + 1, h => by
    rw [rwT, List.mem_append, List.mem_singleton] at h
    rcases h with h | h
    · obtain ⟨y, hy, e⟩ := rwT_mem2 h
      exact ⟨y, by omega, e⟩
    · exact ⟨k, by omega, h⟩
theorem sqT_mem {n : Nat} {t : Nat → Nat → Nat} {b : Nat} : ∀ {k : Nat}, b ∈ sqT n t k → b = 47 ∨ ∃ x y, x < k ∧ y < n ∧ b = 48 + t x y
  | 0, h => by cases h
  | k + 1, h => by
    rw [sqT, List.mem_append, List.mem_append] at h
    rcases h with (h | h) | h
    · rcases sqT_mem h with h | ⟨x, y, hx, hy, e⟩
      · exact .inl h
      · exact .inr ⟨x, y, by omega, hy, e⟩
    · split at h
      · cases h
      · exact .inl (List.mem_singleton.1 h)
    · obtain ⟨y, hy, e⟩ := rwT_mem2 h
      exact .inr ⟨k, y, by omega, hy, e⟩
theorem Rd.no61 {l : List Nat} {q : Sqr} (h : Rd l q) : 61 ∉ l := fun hm => by
  rw [h.txt] at hm
  rcases sqT_mem hm with e | ⟨x, y, hx, hy, e⟩
  · omega
  · have := h.dig hx hy
    omega
theorem rdB_nil : rdB [] = false := rdB_no fun q h => by
  obtain ⟨h1, h2, -⟩ := h.full
  have h3 : (pcs 47 ([] : List Nat)).length = 1 := rfl
  have h4 : ((pcs 47 ([] : List Nat)).getD 0 []).length = 0 := rfl
  have h5 := h2 0 (by omega)
  omega
theorem okP_cut (p : List Nat) : okP p = rdB (ctB 61 p) ∧ (okP p = true → nmP p = str (ctA 61 p) ∧ lpP p = rdQ (ctB 61 p) ∧ p = ctA 61 p ++ 61 :: ctB 61 p) := by
  by_cases h : 61 ∈ p
  · obtain ⟨a, b, rfl, ha⟩ := List.eq_append_cons_of_mem h
    obtain ⟨c1, c2⟩ := ct_at b ha
    rw [c1, c2]
    unfold okP nmP lpP
    rw [pcs_hit ha]
    by_cases hb : 61 ∈ b
    · have hn : rdB b = false := rdB_no fun q hq => hq.no61 hb
      obtain ⟨a', b', rfl, ha'⟩ := List.eq_append_cons_of_mem hb
      have hl : ¬ (a :: pcs 61 (a' ++ 61 :: b')).length = 2 := by
        rw [pcs_hit ha', List.length_cons, List.length_cons, pcs_len]; omega
      rw [decide_eq_false hl, hn, Bool.false_and]
      exact ⟨rfl, fun h => by cases h⟩
    · rw [pcs_miss hb]
      exact ⟨rfl, fun _ => ⟨rfl, rfl, rfl⟩⟩
  · obtain ⟨c1, c2⟩ := ct_no h
    rw [c2, rdB_nil]
    unfold okP
    rw [pcs_miss h]
    exact ⟨rfl, fun h => by cases h⟩
theorem nm_back {a : List Nat} (hb : Byts a) : (str a).data.toList.map UInt8.toNat = a := by
  show (a.map UInt8.ofNat).map UInt8.toNat = a
  rw [List.map_map]
  conv => rhs; rw [← List.map_id a]
  refine List.map_congr_left fun x hx => ?_
  have := hb x hx
  show (UInt8.ofNat x).toNat = x
  simp only [UInt8.toNat_ofNat']
  omega
/-- The text of the parts is the text. -/
theorem bkT_parts {l : List Nat} (hb : Byts l) (hall : (pcs 59 l).all okP = true) : bkT ((pcs 59 l).map nmP) ((pcs 59 l).map lpP) (pcs 59 l).length = l := by
  rw [bkT_jn]
  refine Eq.trans (jn_congr fun i hi => ?_) (jn_pcs 59 l)
  have hp : (pcs 59 l).getD i [] = (pcs 59 l)[i] := by rw [List.getD_eq_getElem?_getD, List.getElem?_eq_getElem hi]; rfl
  have hok := List.all_eq_true.1 hall _ (List.getElem_mem hi)
  obtain ⟨e1, e2⟩ := okP_cut (pcs 59 l)[i]
  obtain ⟨e3, e4, e5⟩ := e2 hok
  have hbi := pcs_getD_byt (c := 59) hb i
  rw [hp] at hbi ⊢
  unfold wrdT nmB
  have g1 : ((pcs 59 l).map nmP).getD i ByteArray.empty = nmP (pcs 59 l)[i] := by rw [List.getD_eq_getElem?_getD, List.getElem?_map, List.getElem?_eq_getElem hi]; rfl
  have g2 : ((pcs 59 l).map lpP).getD i sq00 = lpP (pcs 59 l)[i] := by rw [List.getD_eq_getElem?_getD, List.getElem?_map, List.getElem?_eq_getElem hi]; rfl
  rw [g1, g2, e3, nm_back (ct_byts 61 hbi).1, e4]
  rw [e1] at hok
  rw [← (rdQ_of hok).txt]
  conv => rhs; rw [e5]
  simp
end Go.Proofs.YtinjjaoikofkdaaDoor

/- A drawn region, each operation under an act of its own that holds what the operation reads. -/
namespace Go.Proofs.YtinjjaoikofkdaaDoor
set_option linter.unusedSimpArgs false
set_option linter.unusedVariables false
open Go Go.RowKit

def updD (D : Nat → Bool) (i : Nat) : Nat → Bool := fun j => if j = i then true else D j
def updG (g : Nat → Value) (i : Nat) (u : Value) : Nat → Value := fun j => if j = i then u else g j
/-- What a place holds: what the operation that writes it has given, or what was there. -/
def readV (l : List Oper) (a : Act) (g : Nat → Value) (t : Nat) : Value := match l.findIdx? (fun o => o.dst == some t) with | some j => g j | none => a.tmps.getD t undef
theorem readV_full {l : List Oper} {a0 : Act} (hB : freeB l.toArray a0.tmps.size = true) (g : Nat → Value) (t : Nat) : (fullAct l 0 a0 g).tmps.getD t undef = readV l a0 g t := by
  unfold readV
  split
  · rename_i j hj
    obtain ⟨hlt, h1, _⟩ := List.findIdx?_eq_some_iff_getElem.1 hj
    have hd : l[j].dst = some t := by simpa using h1
    have hf := freeB_spec hB (show l.toArray[j]? = some l[j] by simp [hlt])
    rw [full_new l 0 a0 g t j l[j] (List.getElem?_eq_getElem hlt) hd (hf.lt t hd) fun j' o' h' hn => hf.own t hd j' o' (by simpa using h') hn, Nat.zero_add]
  · rename_i hn
    rw [List.findIdx?_eq_none_iff] at hn
    exact full_old l 0 a0 g t fun o ho hd => by
      have := hn o ho
      simp [hd] at this
/-- THE RULE, each operation under an act of one's own that holds what the operation reads. -/
theorem wp_region_own {P : Program} {id : Nat} {Q : Exit → Act → World → Prop} {a0 : Act} {w : World} {l : List Oper} (S : (Nat → Bool) → (Nat → Value) → World → Prop) (hm : P.follows .mixedOrders = true) (hB : freeB l.toArray a0.tmps.size = true)
    (g0 : Nat → Value) (hS : S (fun _ => false) g0 w.drew)
    (hstep : ∀ i o, l[i]? = some o → ∀ D g w, D i = false → (∀ e ∈ o.after, Region.binds .any e = true → D e.on = true) → S D g w →
      ∃ A : Act, (∀ t ∈ o.looksAt l.toArray, A.tmps.getD t undef = readV l a0 g t) ∧ yield P o A w fun u w' => S (updD D i) (updG g i u) w')
    (hQ : ∀ D g w, (∀ i, i < l.length → D i = true) → S D g w → Q .normal (fullAct l 0 a0 g) w) : (Code.region id l.toArray true).wp P Q a0 w := by
  refine wp_region_free S hm hB g0 hS (fun i o hi D g w hi0 hpre hS => ?_) hQ
  obtain ⟨A, hA, hy⟩ := hstep i o hi D g w hi0 hpre hS
  have hsel : ∀ cs b, o.op ≠ .select cs b := fun cs b => by
    simp only [freeB, Bool.and_eq_true] at hB
    exact Region.noSelect_spec hB.1 i o cs b (by simpa using hi)
  have he : execOp (fullAct l 0 a0 g).eval o = execOp A.eval o := execOp_congr o hsel fun x hx => by
    cases x with
    | tmp t =>
      have ht : t ∈ o.looksAt l.toArray := List.mem_append_left _ (List.mem_filterMap.2 ⟨.tmp t, by simpa using hx, rfl⟩)
      show (fullAct l 0 a0 g).tmps.getD t undef = A.tmps.getD t undef
      rw [hA t ht, readV_full hB]
    | _ => rfl
  unfold yield at hy ⊢
  rw [he]; exact hy

theorem updD_at (D : Nat → Bool) (i : Nat) : updD D i i = true := if_pos rfl
theorem updD_ne {D : Nat → Bool} {i j : Nat} (h : j ≠ i) : updD D i j = D j := if_neg h
theorem updG_at (g : Nat → Value) (i : Nat) (u : Value) : updG g i u i = u := if_pos rfl
theorem updG_ne {g : Nat → Value} {i j : Nat} {u : Value} (h : j ≠ i) : updG g i u j = g j := if_neg h
end Go.Proofs.YtinjjaoikofkdaaDoor

/- A drawn region whose operations make new memory and hand on values, in any order: what is known of each operation that has been done. -/
namespace Go.Proofs.YtinjjaoikofkdaaDoor
set_option linter.unusedSimpArgs false
set_option linter.unusedVariables false
open Go Go.RowKit

def updE (E : Nat → List Ent) (i : Nat) (u : List Ent) : Nat → List Ent := fun j => if j = i then u else E j
theorem updE_at (E : Nat → List Ent) (i : Nat) (u : List Ent) : updE E i u i = u := if_pos rfl
theorem updE_ne {E : Nat → List Ent} {i j : Nat} {u : List Ent} (h : j ≠ i) : updE E i u j = E j := if_neg h
theorem flat_upd {E : Nat → List Ent} {i : Nat} {Ei : List Ent} : ∀ {l : List Nat}, l.Nodup → i ∈ l → E i = [] → (l.flatMap (updE E i Ei)).Perm (Ei ++ l.flatMap E)
  | [], _, h, _ => by cases h
  | a :: l, hn, hm, he => by
    simp only [List.flatMap_cons]
    by_cases ha : a = i
    · subst ha
      rw [updE_at, he, List.nil_append]
      have : (l.flatMap (updE E a Ei)) = l.flatMap E := by
        have hna := (List.nodup_cons.1 hn).1
        clear hm hn
        induction l with
        | nil => rfl
        | cons b l ih =>
          simp only [List.flatMap_cons]
          rw [updE_ne (fun e => hna (by rw [e]; exact List.mem_cons_self ..)), ih fun h => hna (List.mem_cons_of_mem _ h)]
      rw [this]
    · rw [updE_ne ha]
      have hm' : i ∈ l := by
        rcases List.mem_cons.1 hm with h | h
        · exact absurd h.symm ha
        · exact h
      have ih := flat_upd (E := E) (Ei := Ei) (List.nodup_cons.1 hn).2 hm' he
      have h1 : (E a ++ l.flatMap (updE E i Ei)).Perm (E a ++ (Ei ++ l.flatMap E)) := List.Perm.append_left _ ih
      have h2 : (E a ++ (Ei ++ l.flatMap E)).Perm (Ei ++ (E a ++ l.flatMap E)) := by
        rw [← List.append_assoc, ← List.append_assoc]
        exact List.Perm.append_right _ List.perm_append_comm
      exact h1.trans h2
theorem pull_list : ∀ {K l : List Nat}, K.Nodup → (∀ k ∈ K, k ∈ l) → ∃ X, l.Perm (K ++ X)
  | [], l, _, _ => ⟨l, List.Perm.refl _⟩
  | k :: K, l, hn, hm => by
    obtain ⟨X, hX⟩ := pull_list (K := K) (l := l) (List.nodup_cons.1 hn).2 fun j hj => hm j (List.mem_cons_of_mem _ hj)
    have hk : k ∈ K ++ X := hX.mem_iff.1 (hm k (List.mem_cons_self ..))
    have hk2 : k ∈ X := by
      rcases List.mem_append.1 hk with h | h
      · exact absurd h (List.nodup_cons.1 hn).1
      · exact h
    refine ⟨X.erase k, hX.trans ?_⟩
    have h1 : (K ++ X).Perm (K ++ (k :: X.erase k)) := List.Perm.append_left _ (List.perm_cons_erase hk2)
    exact h1.trans List.perm_middle
theorem flat_perm {E : Nat → List Ent} {l l' : List Nat} (h : l.Perm l') : (l.flatMap E).Perm (l'.flatMap E) := by
  induction h with
  | nil => exact .refl _
  | cons a _ ih => simp only [List.flatMap_cons]; exact List.Perm.append_left _ ih
  | swap a b l =>
    simp only [List.flatMap_cons]
    rw [← List.append_assoc, ← List.append_assoc]
    exact List.Perm.append_right _ List.perm_append_comm
  | trans _ _ h1 h2 => exact h1.trans h2

/-- n operations; post: what is known of one that has been done; R: those that must have been done ahead of it; W: those that write to what it has made. -/
structure GrS (n : Nat) (post : Nat → (Nat → Bool) → (Nat → Value) → List Ent → Prop) (R : Nat → List Nat) (w0 : World) (L : List Ent) (D : Nat → Bool) (g : Nat → Value) (w : World) : Prop where
  anc : ∀ i, D i = true → ∀ j ∈ R i, D j = true
  top : ∀ i, D i = true → i < n
  mem : ∃ E : Nat → List Ent, (∀ i, D i = true → post i D g (E i)) ∧ (∀ i, D i = false → E i = []) ∧ Mm no w0 w ((List.range n).flatMap E ++ L)
/-- What is known of an operation stays when another one is done, if it neither reads it nor is written by it. -/
def Stable (post : Nat → (Nat → Bool) → (Nat → Value) → List Ent → Prop) (R W : Nat → List Nat) : Prop := ∀ i k D g u E, k ≠ i → k ∉ R i → k ∉ W i → post i D g E → post i (updD D k) (updG g k u) E

section
variable {n : Nat} {post : Nat → (Nat → Bool) → (Nat → Value) → List Ent → Prop} {R W : Nat → List Nat} {w0 w w' : World} {L : List Ent} {D : Nat → Bool} {g : Nat → Value}
theorem GrS.start (M : Mm no w0 w L) (g : Nat → Value) : GrS n post R w0 L (fun _ => false) g w.drew :=
  ⟨(fun _ h => by cases h), (fun _ h => by cases h), fun _ => [], (fun _ h => by cases h), (fun _ _ => rfl), by
    have : (List.range n).flatMap (fun _ => ([] : List Ent)) = [] := by induction (List.range n) <;> simp_all
    rw [this]; exact M.drew⟩
theorem GrS.base (S : GrS n post R w0 L D g w) : Mm no w0 w L := by
  obtain ⟨E, _, _, M⟩ := S.mem
  exact Mm.suffix M
/-- What is known of some of those that have been done. -/
theorem GrS.get (S : GrS n post R w0 L D g w) (K : List Nat) (hK : K.Nodup) (h : ∀ k ∈ K, D k = true) : ∃ E : Nat → List Ent, (∀ k ∈ K, post k D g (E k)) ∧ Mm no w0 w (K.flatMap E ++ L) := by
  obtain ⟨E, h1, _, M⟩ := S.mem
  refine ⟨E, fun k hk => h1 k (h k hk), ?_⟩
  obtain ⟨X, hX⟩ := pull_list hK fun k hk => List.mem_range.2 (S.top k (h k hk))
  have hp := flat_perm (E := E) hX
  rw [List.flatMap_append] at hp
  have h2 : ((List.range n).flatMap E ++ L).Perm (X.flatMap E ++ (K.flatMap E ++ L)) := by
    refine (List.Perm.append_right L hp).trans ?_
    rw [← List.append_assoc]
    exact List.Perm.append_right L List.perm_append_comm
  exact Mm.suffix (M.perm h2)
theorem updD_anc (S : GrS n post R w0 L D g w) {i : Nat} (hR : ∀ j ∈ R i, D j = true) : ∀ k, updD D i k = true → ∀ j ∈ R k, updD D i j = true := fun k hk j hj => by
  by_cases e : j = i
  · subst e; exact updD_at ..
  · rw [updD_ne e]
    by_cases e2 : k = i
    · subst e2; exact hR j hj
    · rw [updD_ne e2] at hk; exact S.anc k hk j hj
theorem updD_top (S : GrS n post R w0 L D g w) {i : Nat} (hi : i < n) : ∀ k, updD D i k = true → k < n := fun k hk => by
  by_cases e : k = i
  · subst e; exact hi
  · rw [updD_ne e] at hk; exact S.top k hk
/-- An operation that makes new memory. -/
theorem GrS.add (S : GrS n post R w0 L D g w) (hst : Stable post R W) {i : Nat} {u : Value} {Ei : List Ent} (hi : i < n) (h0 : D i = false) (hR : ∀ j ∈ R i, D j = true) (hW : ∀ j, D j = true → i ∉ W j) (M' : Mm no w w' Ei) (hn : ∀ x ∈ Ei, ∀ b, x.place b → w.heap.size ≤ b) (hp : post i (updD D i) (updG g i u) Ei) :
    GrS n post R w0 L (updD D i) (updG g i u) w' := by
  obtain ⟨E, h1, h2, M⟩ := S.mem
  refine ⟨updD_anc S hR, updD_top S hi, updE E i Ei, fun k hk => ?_, fun k hk => ?_, ?_⟩
  · by_cases e : k = i
    · subst e; rw [updE_at]; exact hp
    · rw [updE_ne e]
      rw [updD_ne e] at hk
      exact hst k i D g u (E k) (fun h => e h.symm) (fun h => by have := S.anc k hk i h; rw [h0] at this; cases this) (hW k hk) (h1 k hk)
  · by_cases e : k = i
    · subst e; rw [updD_at] at hk; cases hk
    · rw [updE_ne e]; rw [updD_ne e] at hk; exact h2 k hk
  · refine (M.join M' hn).perm ?_
    rw [← List.append_assoc]
    exact (List.Perm.append_right L (flat_upd List.nodup_range (List.mem_range.2 hi) (h2 i h0))).symm
/-- An operation that makes nothing that is known. -/
theorem GrS.val (S : GrS n post R w0 L D g w) (hst : Stable post R W) {i : Nat} {u : Value} (hi : i < n) (h0 : D i = false) (hR : ∀ j ∈ R i, D j = true) (hW : ∀ j, D j = true → i ∉ W j) (hb : Below w.heap.size w w') (hp : post i (updD D i) (updG g i u) []) : GrS n post R w0 L (updD D i) (updG g i u) w' :=
  S.add hst hi h0 hR hW (Mm.after (Mm.start no w) (Kept.of_below hb no) fun _ _ h => h) (fun _ h => by cases h) hp
/-- All has been done. -/
theorem GrS.done (S : GrS n post R w0 L D g w) (h : ∀ i, i < n → D i = true) : ∃ E : Nat → List Ent, (∀ k, k < n → post k D g (E k)) ∧ Mm no w0 w ((List.range n).flatMap E ++ L) := by
  obtain ⟨E, h1, _, M⟩ := S.mem
  exact ⟨E, fun k hk => h1 k (h k hk), M⟩
/-- An operation i that writes to what t has made. -/
theorem GrS.write (S : GrS n post R w0 L D g w) (hst : Stable post R W) {i t : Nat} (hi : i < n) (h0 : D i = false) (hR : ∀ j ∈ R i, D j = true) (hW : ∀ j, D j = true → j ≠ t → i ∉ W j) (ht : D t = true) :
    ∃ (E X : List Ent), post t D g E ∧ Mm no w0 w (E ++ X) ∧ ∀ u w' Et, Mm no w0 w' (Et ++ X) → post t (updD D i) (updG g i u) Et → post i (updD D i) (updG g i u) [] → GrS n post R w0 L (updD D i) (updG g i u) w' := by
  obtain ⟨E, h1, h2, M⟩ := S.mem
  have htn := S.top t ht
  have hti : t ≠ i := fun e => by rw [e, h0] at ht; cases ht
  obtain ⟨X, hX⟩ := pull_list (K := [t]) (l := List.range n) (by simp) fun k hk => by simp at hk; subst hk; exact List.mem_range.2 htn
  have hnd : (t :: X).Nodup := (hX.nodup_iff).1 List.nodup_range
  have hXt : t ∉ X := (List.nodup_cons.1 hnd).1
  refine ⟨E t, X.flatMap E ++ L, h1 t ht, ?_, fun u w' Et M' hp1 hp2 => ?_⟩
  · have hp := flat_perm (E := E) hX
    have h3 : ((List.range n).flatMap E ++ L).Perm (E t ++ (X.flatMap E ++ L)) := by
      rw [← List.append_assoc]
      exact List.Perm.append_right L (by simpa [List.flatMap_cons] using hp)
    exact M.perm h3
  · refine ⟨updD_anc S hR, updD_top S hi, updE E t Et, fun k hk => ?_, fun k hk => ?_, ?_⟩
    · by_cases e : k = t
      · subst e; rw [updE_at]; exact hp1
      · rw [updE_ne e]
        by_cases e2 : k = i
        · subst e2; rw [h2 k h0]; exact hp2
        · rw [updD_ne e2] at hk
          exact hst k i D g u (E k) (fun h => e2 h.symm) (fun h => by have := S.anc k hk i h; rw [h0] at this; cases this) (hW k hk e) (h1 k hk)
    · by_cases e : k = t
      · subst e; rw [updD_ne hti, ht] at hk; cases hk
      · rw [updE_ne e]
        by_cases e2 : k = i
        · subst e2; exact h2 k h0
        · rw [updD_ne e2] at hk; exact h2 k hk
    · have hp := flat_perm (E := updE E t Et) hX
      have e : (X.flatMap (updE E t Et)) = X.flatMap E := by
        clear hp hX hnd M M'
        induction X with
        | nil => rfl
        | cons b X ih =>
          simp only [List.flatMap_cons]
          rw [updE_ne (fun e => hXt (by rw [e]; exact List.mem_cons_self ..)), ih fun h => hXt (List.mem_cons_of_mem _ h)]
      have hp2 : ((List.range n).flatMap (updE E t Et)).Perm (Et ++ X.flatMap E) := by
        refine hp.trans ?_
        rw [show [t] ++ X = t :: X from rfl, List.flatMap_cons, updE_at, e]
      refine M'.perm ?_
      rw [← List.append_assoc]
      exact (List.Perm.append_right L hp2).symm
end
end Go.Proofs.YtinjjaoikofkdaaDoor

/- A drawn region in which some operations write to what was there, or to what others have made. -/
namespace Go.Proofs.YtinjjaoikofkdaaDoor
set_option linter.unusedSimpArgs false
set_option linter.unusedVariables false
open Go Go.RowKit

/-- The place p stands for what was there: it counts as done. -/
def psD (p : Nat) (D : Nat → Bool) : Nat → Bool := fun j => (j == p) || D j
theorem psD_of {p : Nat} {D : Nat → Bool} {j : Nat} (h : D j = true) : psD p D j = true := by simp [psD, h]
theorem psD_at (p : Nat) (D : Nat → Bool) : psD p D p = true := by simp [psD]
theorem psD_ne {p : Nat} {D : Nat → Bool} {j : Nat} (h : j ≠ p) : psD p D j = D j := by simp [psD, h]
theorem psD_upd {p : Nat} {D : Nat → Bool} {i : Nat} : psD p (updD D i) = updD (psD p D) i := by
  funext j
  unfold psD updD
  by_cases h : j = i
  · simp [h]
  · simp [h]
section
variable {n : Nat} {post : Nat → (Nat → Bool) → (Nat → Value) → List Ent → Prop} {R W : Nat → List Nat} {w0 w w' : World} {L : List Ent} {D : Nat → Bool} {g : Nat → Value}
theorem GrS.start2 {p : Nat} {E0 : List Ent} (hp : p < n) (hR : R p = []) (M : Mm no w0 w (E0 ++ L)) (g : Nat → Value) (h : post p (psD p fun _ => false) g E0) : GrS n post R w0 L (psD p fun _ => false) g w.drew := by
  have hd : ∀ i, psD p (fun _ => false) i = true → i = p := fun i h => by simpa [psD] using h
  refine ⟨fun i hi j hj => ?_, fun i hi => by rw [hd i hi]; exact hp, updE (fun _ => []) p E0, fun i hi => ?_, fun i hi => ?_, ?_⟩
  · rw [hd i hi, hR] at hj; cases hj
  · obtain rfl := hd i hi
    rw [updE_at]; exact h
  · by_cases e : i = p
    · subst e; rw [psD_at] at hi; cases hi
    · rw [updE_ne e]
  · have h0 : (List.range n).flatMap (fun _ => ([] : List Ent)) = [] := by induction (List.range n) <;> simp_all
    have hp2 := flat_upd (E := fun _ => []) (Ei := E0) (List.nodup_range (n := n)) (List.mem_range.2 hp) rfl
    rw [h0, List.append_nil] at hp2
    exact (M.perm (List.Perm.append_right L hp2.symm)).drew
/-- An operation i that writes to what t has made and reads what those of K have made. -/
theorem GrS.writeK (S : GrS n post R w0 L D g w) (hst : Stable post R W) {i t : Nat} (hi : i < n) (h0 : D i = false) (hR : ∀ j ∈ R i, D j = true) (hW : ∀ j, D j = true → j ≠ t → i ∉ W j) (ht : D t = true) (K : List Nat) (hK : (t :: K).Nodup) (hKD : ∀ k ∈ K, D k = true) :
    ∃ (E : Nat → List Ent) (X : List Ent), (∀ k ∈ t :: K, post k D g (E k)) ∧ Mm no w0 w (E t ++ (K.flatMap E ++ (L ++ X))) ∧
      ∀ u w' Et, Mm no w0 w' (Et ++ (K.flatMap E ++ (L ++ X))) → post t (updD D i) (updG g i u) Et → post i (updD D i) (updG g i u) [] → GrS n post R w0 L (updD D i) (updG g i u) w' := by
  obtain ⟨E, h1, h2, M⟩ := S.mem
  have htn := S.top t ht
  have hti : t ≠ i := fun e => by rw [e, h0] at ht; cases ht
  have hall : ∀ k ∈ t :: K, D k = true := fun k hk => by
    rcases List.mem_cons.1 hk with rfl | hk
    · exact ht
    · exact hKD k hk
  obtain ⟨Y, hY⟩ := pull_list (K := t :: K) (l := List.range n) hK fun k hk => List.mem_range.2 (S.top k (hall k hk))
  have hnd : ((t :: K) ++ Y).Nodup := (hY.nodup_iff).1 List.nodup_range
  have hrest : ∀ E' : Nat → List Ent, ((List.range n).flatMap E').Perm (E' t ++ (K.flatMap E' ++ Y.flatMap E')) := fun E' => by
    have := flat_perm (E := E') hY
    rw [List.flatMap_append, List.flatMap_cons, List.append_assoc] at this
    exact this
  have hswap : ∀ A B : List Ent, (A ++ (K.flatMap E ++ B) ++ L).Perm (A ++ (K.flatMap E ++ (L ++ B))) := fun A B => by
    rw [List.append_assoc, List.append_assoc]
    exact List.Perm.append_left _ (List.Perm.append_left _ List.perm_append_comm)
  refine ⟨E, Y.flatMap E, fun k hk => h1 k (hall k hk), M.perm ((List.Perm.append_right L (hrest E)).trans (hswap _ _)), fun u w' Et M' hp1 hp2 => ?_⟩
  have htK : t ∉ K ++ Y := (List.nodup_cons.1 hnd).1
  have same : ∀ l : List Nat, t ∉ l → l.flatMap (updE E t Et) = l.flatMap E := fun l hl => by
    induction l with
    | nil => rfl
    | cons b l ih =>
      simp only [List.flatMap_cons]
      rw [updE_ne (fun e => hl (by rw [e]; exact List.mem_cons_self ..)), ih fun h => hl (List.mem_cons_of_mem _ h)]
  refine ⟨updD_anc S hR, updD_top S hi, updE E t Et, fun k hk => ?_, fun k hk => ?_, ?_⟩
  · by_cases e : k = t
    · subst e; rw [updE_at]; exact hp1
    · rw [updE_ne e]
      by_cases e2 : k = i
      · subst e2; rw [h2 k h0]; exact hp2
      · rw [updD_ne e2] at hk
        exact hst k i D g u (E k) (fun h => e2 h.symm) (fun h => by have := S.anc k hk i h; rw [h0] at this; cases this) (hW k hk e) (h1 k hk)
  · by_cases e : k = t
    · subst e; rw [updD_ne hti, ht] at hk; cases hk
    · rw [updE_ne e]
      by_cases e2 : k = i
      · subst e2; exact h2 k h0
      · rw [updD_ne e2] at hk; exact h2 k hk
  · have h3 := hrest (updE E t Et)
    rw [updE_at, same K fun h => htK (List.mem_append_left _ h), same Y fun h => htK (List.mem_append_right _ h)] at h3
    exact M'.perm ((List.Perm.append_right L h3).trans (hswap _ _)).symm
end
end Go.Proofs.YtinjjaoikofkdaaDoor

/- A drawn region whose last two operations are a call and an assignment; all others come before them. -/
namespace Go.Proofs.YtinjjaoikofkdaaDoor
set_option linter.unusedSimpArgs false
set_option linter.unusedVariables false
open Go Go.RowKit

section
variable {P : Program}
/-- What the rule asks of a region: no guard; results in places of their own; forerunners stand ahead; what is read comes from a forerunner or was there. -/
def freeB2 (ops : Array Oper) (T : Nat) : Bool :=
  Region.noSelect ops && (List.range ops.size).all fun i => match ops[i]? with
    | none => true
    | some o => o.guard.isNone && (match o.dst with | some d => decide (d < T) && (List.range ops.size).all (fun j => match ops[j]? with | some o' => decide (j = i) || o'.dst != some d | none => true) | none => true) &&
        o.after.toList.all (fun e => !Region.binds .any e || decide (e.on < i))
structure FreeOp2 (ops : Array Oper) (T i : Nat) (o : Oper) : Prop where
  guard : o.guard = none
  lt : ∀ d, o.dst = some d → d < T
  own : ∀ d, o.dst = some d → ∀ j o', ops[j]? = some o' → j ≠ i → o'.dst ≠ some d
  ahead : ∀ e ∈ o.after, Region.binds .any e = true → e.on < i
theorem freeB_spec2 {ops : Array Oper} {T : Nat} (h : freeB2 ops T = true) {i : Nat} {o : Oper} (hi : ops[i]? = some o) : FreeOp2 ops T i o := by
  have hlt : ∀ {j o'}, ops[j]? = some o' → j < ops.size := fun h => (Array.getElem?_eq_some_iff.1 h).1
  simp only [freeB2, Bool.and_eq_true, List.all_eq_true, List.mem_range] at h
  have h1 := h.2 i (hlt hi)
  simp only [hi, Bool.and_eq_true, Option.isNone_iff_eq_none, List.all_eq_true, List.mem_range] at h1
  obtain ⟨⟨h2, h3⟩, h4⟩ := h1
  refine ⟨h2, fun d hd => ?_, fun d hd j o' hj hne => ?_, fun e he hb => ?_⟩
  · simp only [hd, Bool.and_eq_true, decide_eq_true_eq] at h3; exact h3.1
  · simp only [hd, Bool.and_eq_true, decide_eq_true_eq, List.all_eq_true, List.mem_range] at h3
    have := h3.2 j (hlt hj)
    simp only [hj, Bool.or_eq_true, decide_eq_true_eq] at this
    rcases this with h | h
    · exact absurd h hne
    · simpa using h
  · have := h4 e (by simpa using he)
    simp only [hb, Bool.not_true, Bool.false_or, decide_eq_true_eq] at this
    exact this


/-- What holds between the operations. -/
def FInv2 (ops : Array Oper) (a0 : Act) (S : (Nat → Bool) → (Nat → Value) → World → Prop) (listed : Array Bool) (a : Act) (w : World) : Prop :=
  ∃ g : Nat → Value, a.defers = a0.defers ∧ a.tmps.size = a0.tmps.size ∧ (∀ i o d, ops[i]? = some o → o.dst = some d → listed.getD i false = true → a.tmps.getD d undef = g i) ∧
    (∀ d, (∀ i o, ops[i]? = some o → listed.getD i false = true → o.dst ≠ some d) → a.tmps.getD d undef = a0.tmps.getD d undef) ∧ (∀ i o d, ops[i]? = some o → o.dst = some d → listed.getD i false = false → g i = a0.tmps.getD d undef) ∧ S (fun i => listed.getD i false) g w

theorem all_listed2 {ops : Array Oper} {T : Nat} (hB : freeB2 ops T = true) {listed : Array Bool} (hsz : listed.size = ops.size) (h : Region.ready .any ops listed = []) : ∀ i, i < ops.size → listed.getD i false = true := by
  intro i
  induction i using Nat.strongRecOn with
  | ind i ih =>
    intro hi
    cases hl : listed.getD i false with
    | true => rfl
    | false =>
      exfalso
      have hi' : ops[i]? = some ops[i] := Array.getElem?_eq_getElem hi
      have : i ∈ Region.ready .any ops listed := mem_ready.2 ⟨by
        have hlt : i < listed.size := by omega
        simpa [Array.getD_eq_getD_getElem?, hlt] using hl, ops[i], hi', fun e he hb => by
        have h1 := (freeB_spec2 hB hi').ahead e he hb
        exact ih e.on h1 (by omega)⟩
      rw [h] at this
      cases this

theorem full_congr2 {l : List Oper} {a0 : Act} {S : (Nat → Bool) → (Nat → Value) → World → Prop} (hB : freeB2 l.toArray a0.tmps.size = true) {listed : Array Bool} {a : Act} {g : Nat → Value} {i : Nat} {o : Oper} (ho : l.toArray[i]? = some o)
    (hset : ∀ i o d, l.toArray[i]? = some o → o.dst = some d → listed.getD i false = true → a.tmps.getD d undef = g i)
    (hold : ∀ d, (∀ i o, l.toArray[i]? = some o → listed.getD i false = true → o.dst ≠ some d) → a.tmps.getD d undef = a0.tmps.getD d undef)
    (hun : ∀ i o d, l.toArray[i]? = some o → o.dst = some d → listed.getD i false = false → g i = a0.tmps.getD d undef) : execOp a.eval o = execOp (fullAct l 0 a0 g).eval o := by
  have hf := freeB_spec2 hB ho
  have hsel : ∀ cs b, o.op ≠ .select cs b := fun cs b => by
    simp only [freeB2, Bool.and_eq_true] at hB
    exact Region.noSelect_spec hB.1 i o cs b ho
  refine execOp_congr o hsel fun x hx => ?_
  cases x with
  | tmp t =>
    have ht : t ∈ o.looksAt l.toArray := List.mem_append_left _ (List.mem_filterMap.2 ⟨.tmp t, by simpa using hx, rfl⟩)
    show a.tmps.getD t undef = (fullAct l 0 a0 g).tmps.getD t undef
    by_cases hw : ∃ (j : Nat) (o' : Oper), l.toArray[j]? = some o' ∧ o'.dst = some t
    · obtain ⟨j, o', hj, hd⟩ := hw
      have hfj := freeB_spec2 hB hj
      rw [full_new l 0 a0 g t j o' (by simpa using hj) hd (hfj.lt t hd) fun j' o'' h' hn => hfj.own t hd j' o'' (by simpa using h') hn, Nat.zero_add]
      cases hlj : listed.getD j false with
      | true => exact hset _ o' t hj hd hlj
      | false =>
        rw [hun j o' t hj hd hlj]
        exact hold t fun i o2 hi hli hd2 => by
          by_cases e : i = j
          · subst e; rw [hlj] at hli; cases hli
          · exact hfj.own t hd i o2 hi e hd2
    · rw [hold t fun j o' hj _ hd => hw ⟨j, o', hj, hd⟩, full_old l 0 a0 g t fun o' ho' hd => by
        obtain ⟨j, hj⟩ := List.getElem?_of_mem ho'
        exact hw ⟨j, o', by simpa using hj, hd⟩]
  | _ => rfl

/-- What the places hold before. -/
def g00 (l : List Oper) (a0 : Act) : Nat → Value := fun i => match l[i]? with | some o => (match o.dst with | some d => a0.tmps.getD d undef | none => undef) | none => undef
/-- THE RULE. -/
theorem wp_region_free2 {id : Nat} {Q : Exit → Act → World → Prop} {a0 : Act} {w : World} {l : List Oper} (S : (Nat → Bool) → (Nat → Value) → World → Prop) (hm : P.follows .mixedOrders = true) (hB : freeB2 l.toArray a0.tmps.size = true)
    (hS : S (fun _ => false) (g00 l a0) w.drew)
    (hstep : ∀ i o, l[i]? = some o → ∀ D g w, D i = false → (∀ e ∈ o.after, Region.binds .any e = true → D e.on = true) → S D g w → yield P o (fullAct l 0 a0 g) w fun u w' => S (fun j => if j = i then true else D j) (fun j => if j = i then u else g j) w')
    (hQ : ∀ D g w, (∀ i, i < l.length → D i = true) → S D g w → Q .normal (fullAct l 0 a0 g) w) : (Code.region id l.toArray true).wp P Q a0 w := by
  refine wp_region_any hm ?_
  have hend : ∀ listed a w, listed.size = l.toArray.size → FInv2 l.toArray a0 S listed a w → Region.ready .any l.toArray listed = [] → Q .normal a w := by
    intro listed a w hsz ⟨g, h1, h2, h3, h4, _, h5⟩ hr
    have hall := all_listed2 hB hsz hr
    have : a = fullAct l 0 a0 g := by
      obtain ⟨tm, df⟩ := a
      have e1 : tm = (fullAct l 0 a0 g).tmps := by
        apply Array.ext
        · rw [full_size]; exact h2
        · intro d hd hd'
          have e : tm.getD d undef = (fullAct l 0 a0 g).tmps.getD d undef := by
            by_cases hw : ∃ (j : Nat) (o' : Oper), l.toArray[j]? = some o' ∧ o'.dst = some d
            · obtain ⟨j, o', hj, hdd⟩ := hw
              have hfj := freeB_spec2 hB hj
              rw [show tm.getD d undef = g j from h3 j o' d hj hdd (hall j (Array.getElem?_eq_some_iff.1 hj).1), full_new l 0 a0 g d j o' (by simpa using hj) hdd (hfj.lt d hdd) fun j' o'' h' hn => hfj.own d hdd j' o'' (by simpa using h') hn, Nat.zero_add]
            · rw [show tm.getD d undef = a0.tmps.getD d undef from h4 d fun j o' hj _ hdd => hw ⟨j, o', hj, hdd⟩, full_old l 0 a0 g d fun o' ho' hdd => by
                obtain ⟨j, hj⟩ := List.getElem?_of_mem ho'
                exact hw ⟨j, o', by simpa using hj, hdd⟩]
          simpa [Array.getD_eq_getD_getElem?, hd, hd'] using e
      have e2 : df = (fullAct l 0 a0 g).defers := by rw [full_def]; exact h1
      rw [e1, e2]
    rw [this]
    exact hQ _ g w (fun i hi => hall i (by simpa using hi)) h5
  have main : ∀ (fuel : Nat) (listed : Array Bool) (a : Act) (w : World), listed.size = l.toArray.size → ((List.range l.toArray.size).filter fun i => !listed.getD i false).length ≤ fuel → FInv2 l.toArray a0 S listed a w → wpAny P .any l.toArray Q fuel listed a w := by
    intro fuel
    induction fuel with
    | zero =>
      intro listed a w hsz hc hI
      have hnil : Region.ready .any l.toArray listed = [] := by
        rw [List.eq_nil_iff_forall_not_mem]
        intro i hi
        obtain ⟨h0, o, ho, _⟩ := mem_ready.1 hi
        have hlt := (Array.getElem?_eq_some_iff.1 ho).1
        have : i ∈ (List.range l.toArray.size).filter fun i => !listed.getD i false := by
          rw [List.mem_filter]
          refine ⟨List.mem_range.2 hlt, ?_⟩
          have hlt' : i < listed.size := by omega
          simpa [Array.getD_eq_getD_getElem?, hlt'] using h0
        rw [List.eq_nil_of_length_eq_zero (Nat.le_zero.1 hc)] at this
        cases this
      exact ⟨hnil, hend listed a w hsz hI hnil⟩
    | succ fuel ih =>
      intro listed a w hsz hc hI
      refine ⟨hend listed a w hsz hI, fun i hi => ?_⟩
      obtain ⟨h0, o, ho, hpre⟩ := mem_ready.1 hi
      have hlt := (Array.getElem?_eq_some_iff.1 ho).1
      have hf := freeB_spec2 hB ho
      obtain ⟨g, h1, h2, h3, h4, h6, h5⟩ := hI
      have hlt' : i < listed.size := by omega
      have h0' : listed.getD i false = false := by simpa [Array.getD_eq_getD_getElem?, hlt'] using h0
      have hD : ∀ j, (listed.setIfInBounds i true).getD j false = if j = i then true else listed.getD j false := fun j => by
        by_cases hj : j = i
        · subst hj; simp [Array.getD_eq_getD_getElem?, hlt']
        · rw [if_neg hj, getD_set_ne false (Ne.symm hj)]
      refine wpOp_of_yield ho hf.guard (full_congr2 (S := S) hB ho h3 h4 h6) (hstep i o (by simpa using ho) _ g w h0' hpre h5) fun u w' hS' => ?_
      refine ih _ _ w' (by simpa using hsz) ?_ ⟨fun j => if j = i then u else g j, by rw [actput_def]; exact h1, by rw [actput_size]; exact h2, fun j o' d hj hd hl => ?_, fun d hd => ?_, fun j o' d hj hd hl => ?_, ?_⟩
      · have e : ((List.range l.toArray.size).filter fun j => !(listed.setIfInBounds i true).getD j false) = ((List.range l.toArray.size).filter fun j => !listed.getD j false).filter fun j => !decide (j = i) := by
          rw [List.filter_filter]
          congr 1
          funext j
          rw [hD j]
          by_cases hj : j = i <;> simp [hj]
        rw [e]
        have := (List.length_filter_lt_length_iff_exists (p := fun j => !decide (j = i)) (l := (List.range l.toArray.size).filter fun j => !listed.getD j false)).2 ⟨i, List.mem_filter.2 ⟨List.mem_range.2 hlt, by simp [h0']⟩, by simp⟩
        omega
      · rw [hD j] at hl
        by_cases hj' : j = i
        · subst hj'
          obtain rfl : o = o' := by rw [ho] at hj; exact Option.some.inj hj
          show _ = if j = j then u else g j
          rw [hd, if_pos rfl, actput_new _ (by rw [h2]; exact hf.lt d hd)]
        · rw [if_neg hj'] at hl
          show _ = if j = i then u else g j
          rw [if_neg hj', actput_old _ fun h => (freeB_spec2 hB hj).own d hd i o ho (Ne.symm hj') h]
          exact h3 j o' d hj hd hl
      · rw [actput_old _ (hd i o ho (by rw [hD i, if_pos rfl]))]
        exact h4 d fun j o' hj hl => hd j o' hj (by
          rw [hD j]
          by_cases hj' : j = i
          · rw [if_pos hj']
          · rw [if_neg hj']; exact hl)
      · rw [hD j] at hl
        by_cases hj' : j = i
        · rw [if_pos hj'] at hl; cases hl
        · rw [if_neg hj'] at hl
          show (if j = i then u else g j) = _
          rw [if_neg hj']; exact h6 j o' d hj hd hl
      · have e : (fun j => (listed.setIfInBounds i true).getD j false) = fun j => if j = i then true else listed.getD j false := funext hD
        rw [e]; exact hS'
  have e0 : ∀ i, (Array.replicate l.toArray.size false).getD i false = false := fun i => by
    simp only [Array.getD_eq_getD_getElem?, Array.getElem?_replicate]
    split <;> rfl
  refine main _ _ _ _ (by simp) (by
    refine Nat.le_trans (List.length_filter_le _ _) ?_
    simp) ⟨g00 l a0, rfl, rfl, fun i o d _ _ h => ?_, fun _ _ => rfl, fun i o d hi hd _ => by unfold g00; rw [show l[i]? = some o by simpa using hi]; simp only [hd], ?_⟩
  · rw [e0 i] at h; cases h
  · rw [show (fun i => (Array.replicate l.toArray.size false).getD i false) = fun _ => false from funext e0]
    exact hS
end
theorem readV_full2 {l : List Oper} {a0 : Act} (hB : freeB2 l.toArray a0.tmps.size = true) (g : Nat → Value) (t : Nat) : (fullAct l 0 a0 g).tmps.getD t undef = readV l a0 g t := by
  unfold readV
  split
  · rename_i j hj
    obtain ⟨hlt, h1, _⟩ := List.findIdx?_eq_some_iff_getElem.1 hj
    have hd : l[j].dst = some t := by simpa using h1
    have hf := freeB_spec2 hB (show l.toArray[j]? = some l[j] by simp [hlt])
    rw [full_new l 0 a0 g t j l[j] (List.getElem?_eq_getElem hlt) hd (hf.lt t hd) fun j' o' h' hn => hf.own t hd j' o' (by simpa using h') hn, Nat.zero_add]
  · rename_i hn
    rw [List.findIdx?_eq_none_iff] at hn
    exact full_old l 0 a0 g t fun o ho hd => by
      have := hn o ho
      simp [hd] at this
/-- THE RULE, each operation under an act of one's own that holds what the operation reads. -/
theorem wp_region_own2 {P : Program} {id : Nat} {Q : Exit → Act → World → Prop} {a0 : Act} {w : World} {l : List Oper} (S : (Nat → Bool) → (Nat → Value) → World → Prop) (hm : P.follows .mixedOrders = true) (hB : freeB2 l.toArray a0.tmps.size = true)
    (hS : S (fun _ => false) (g00 l a0) w.drew)
    (hstep : ∀ i o, l[i]? = some o → ∀ D g w, D i = false → (∀ e ∈ o.after, Region.binds .any e = true → D e.on = true) → S D g w →
      ∃ A : Act, (∀ t ∈ o.looksAt l.toArray, A.tmps.getD t undef = readV l a0 g t) ∧ yield P o A w fun u w' => S (updD D i) (updG g i u) w')
    (hQ : ∀ D g w, (∀ i, i < l.length → D i = true) → S D g w → Q .normal (fullAct l 0 a0 g) w) : (Code.region id l.toArray true).wp P Q a0 w := by
  refine wp_region_free2 S hm hB hS (fun i o hi D g w hi0 hpre hS => ?_) hQ
  obtain ⟨A, hA, hy⟩ := hstep i o hi D g w hi0 hpre hS
  have hsel : ∀ cs b, o.op ≠ .select cs b := fun cs b => by
    simp only [freeB2, Bool.and_eq_true] at hB
    exact Region.noSelect_spec hB.1 i o cs b (by simpa using hi)
  have he : execOp (fullAct l 0 a0 g).eval o = execOp A.eval o := execOp_congr o hsel fun x hx => by
    cases x with
    | tmp t =>
      have ht : t ∈ o.looksAt l.toArray := List.mem_append_left _ (List.mem_filterMap.2 ⟨.tmp t, by simpa using hx, rfl⟩)
      show (fullAct l 0 a0 g).tmps.getD t undef = A.tmps.getD t undef
      rw [hA t ht, readV_full2 hB]
    | _ => rfl
  unfold yield at hy ⊢
  rw [he]; exact hy

theorem yield_mono {P : Program} {o : Oper} {a : Act} {w : World} {R R' : Value → World → Prop} (h : yield P o a w R) (hR : ∀ u w', R u w' → R' u w') : yield P o a w R' := by
  unfold yield at *
  cases hx : (execOp a.eval o).run P w with
  | ok n w' =>
    rw [hx] at h
    cases n <;> simp only [yieldR] at * <;> first | exact hR _ _ h | exact Calls.mono h (fun e w2 ⟨u, he, hr⟩ => ⟨u, he, hR u w2 hr⟩) | exact Rows.mono h (fun u w2 he => hR u w2 he) | exact h
  | halt x w' => rw [hx] at h; exact h
theorem wp_region_ownL {P : Program} {id : Nat} {Q : Exit → Act → World → Prop} {a0 : Act} {w : World} {l : List Oper} (n : Nat) (S : (Nat → Bool) → (Nat → Value) → World → Prop) (Post : Value → World → Prop) (hm : P.follows .mixedOrders = true) (hB : freeB2 l.toArray a0.tmps.size = true) (hlen : l.length = n + 2)
    (hS : S (fun _ => false) (g00 l a0) w.drew)
    (hstep : ∀ i o, i < n → l[i]? = some o → ∀ D g w, D i = false → (∀ e ∈ o.after, Region.binds .any e = true → D e.on = true) → g (n + 1) = g00 l a0 (n + 1) → S D g w →
      ∃ A : Act, (∀ t ∈ o.looksAt l.toArray, A.tmps.getD t undef = readV l a0 g t) ∧ yield P o A w fun u w' => S (updD D i) (updG g i u) w')
    (hcall : ∀ o, l[n]? = some o → ∀ D g w, (∀ e ∈ o.after, Region.binds .any e = true → D e.on = true) → S D g w →
      (∀ i, i < n → D i = true) ∧ ∃ A : Act, (∀ t ∈ o.looksAt l.toArray, A.tmps.getD t undef = readV l a0 g t) ∧ yield P o A w Post)
    (hlate : ∀ o, l[n + 1]? = some o → (∃ e ∈ o.after, Region.binds .any e = true ∧ e.on = n))
    (hlast : ∀ o, l[n + 1]? = some o → ∀ g w, Post (g n) w → ∃ A : Act, (∀ t ∈ o.looksAt l.toArray, A.tmps.getD t undef = readV l a0 g t) ∧ yield P o A w fun u w' => u = g n ∧ Post (g n) w')
    (hQ : ∀ g w, g (n + 1) = g n → Post (g n) w → Q .normal (fullAct l 0 a0 g) w) : (Code.region id l.toArray true).wp P Q a0 w := by
  refine wp_region_own2 (fun D g w => (D n = false ∧ D (n + 1) = false ∧ g (n + 1) = g00 l a0 (n + 1) ∧ S D g w) ∨ ((∀ i, i < n → D i = true) ∧ D n = true ∧ Post (g n) w ∧ (D (n + 1) = true → g (n + 1) = g n))) hm hB (.inl ⟨rfl, rfl, rfl, hS⟩) (fun i o hi D g w hi0 hpre h => ?_) fun D g w hall h => ?_
  · have hil := (List.getElem?_eq_some_iff.1 hi).1
    rcases h with ⟨h1, h2, hg, hS⟩ | ⟨h1, h2, h3, h4⟩
    · rcases Nat.lt_trichotomy i n with hlt | heq | hgt
      · obtain ⟨A, hA, hy⟩ := hstep i o hlt hi D g w hi0 hpre hg hS
        refine ⟨A, hA, yield_mono hy fun u w' h => .inl ⟨?_, ?_, ?_, h⟩⟩
        · rw [updD_ne (by omega)]; exact h1
        · rw [updD_ne (by omega)]; exact h2
        · rw [updG_ne (by omega)]; exact hg
      · subst heq
        obtain ⟨hd, A, hA, hy⟩ := hcall o hi D g w hpre hS
        refine ⟨A, hA, yield_mono hy fun u w' h => .inr ⟨fun j hj => ?_, updD_at .., ?_, fun h5 => ?_⟩⟩
        · rw [updD_ne (by omega)]; exact hd j hj
        · rw [updG_at]; exact h
        · rw [updD_ne (by omega), h2] at h5; cases h5
      · obtain rfl : i = n + 1 := by omega
        obtain ⟨e, he, hb, hen⟩ := hlate o hi
        have := hpre e he hb
        rw [hen, h1] at this; cases this
    · rcases Nat.lt_trichotomy i n with hlt | heq | hgt
      · rw [h1 i hlt] at hi0; cases hi0
      · subst heq; rw [h2] at hi0; cases hi0
      · obtain rfl : i = n + 1 := by omega
        obtain ⟨A, hA, hy⟩ := hlast o hi g w h3
        refine ⟨A, hA, yield_mono hy fun u w' h => .inr ⟨fun j hj => ?_, ?_, ?_, fun _ => ?_⟩⟩
        · rw [updD_ne (by omega)]; exact h1 j hj
        · rw [updD_ne (by omega)]; exact h2
        · rw [updG_ne (by omega)]; exact h.2
        · rw [updG_at, updG_ne (by omega)]; exact h.1
  · rcases h with ⟨h1, _⟩ | ⟨_, _, h3, h4⟩
    · rw [hall n (by omega)] at h1; cases h1
    · exact hQ g w (h4 (hall (n + 1) (by omega))) h3
end Go.Proofs.YtinjjaoikofkdaaDoor

/- Drawn regions of which a last part comes behind all other operations, one by one. -/
namespace Go.Proofs.YtinjjaoikofkdaaDoor
set_option linter.unusedSimpArgs false
set_option linter.unusedVariables false
open Go Go.RowKit

/-- Every operation behind number n waits for the one ahead of it. -/
def lateB (l : List Oper) (n : Nat) : Bool :=
  (List.range l.length).all fun i => decide (i ≤ n) || match l[i]? with
    | some o => o.after.any fun e => Region.binds .any e && e.on == i - 1
    | none => true
theorem lateB_of {l : List Oper} {n : Nat} (h : lateB l n = true) {i : Nat} {o : Oper} (hi : l[i]? = some o) (hn : n < i) : ∃ e ∈ o.after, Region.binds .any e = true ∧ e.on = i - 1 := by
  have hlt := (List.getElem?_eq_some_iff.1 hi).1
  have h1 := List.all_eq_true.1 h i (List.mem_range.2 hlt)
  rw [hi] at h1
  simp only [Bool.or_eq_true, decide_eq_true_eq, Array.any_eq_true'] at h1
  rcases h1 with h1 | ⟨e, he, h2⟩
  · omega
  · simp only [Bool.and_eq_true, beq_iff_eq] at h2
    exact ⟨e, he, h2.1, h2.2⟩
theorem wp_region_ownN {P : Program} {id : Nat} {Q : Exit → Act → World → Prop} {a0 : Act} {w : World} {l : List Oper} (n : Nat) (S : (Nat → Bool) → (Nat → Value) → World → Prop) (T : Nat → (Nat → Value) → World → Prop) (hm : P.follows .mixedOrders = true) (hB : freeB2 l.toArray a0.tmps.size = true) (hL : lateB l n = true) (hn : n < l.length)
    (hS : S (fun _ => false) (g00 l a0) w.drew)
    (hstep : ∀ i o, i < n → l[i]? = some o → ∀ D g w, D i = false → (∀ e ∈ o.after, Region.binds .any e = true → D e.on = true) → S D g w →
      ∃ A : Act, (∀ t ∈ o.looksAt l.toArray, A.tmps.getD t undef = readV l a0 g t) ∧ yield P o A w fun u w' => S (updD D i) (updG g i u) w')
    (hfirst : ∀ o, l[n]? = some o → ∀ D g w, (∀ e ∈ o.after, Region.binds .any e = true → D e.on = true) → S D g w → (∀ i, i < n → D i = true) ∧ T n g w)
    (htail : ∀ k o, n ≤ k → l[k]? = some o → ∀ g w, T k g w → ∃ A : Act, (∀ t ∈ o.looksAt l.toArray, A.tmps.getD t undef = readV l a0 g t) ∧ yield P o A w fun u w' => T (k + 1) (updG g k u) w')
    (hQ : ∀ g w, T l.length g w → Q .normal (fullAct l 0 a0 g) w) : (Code.region id l.toArray true).wp P Q a0 w := by
  refine wp_region_own2 (fun D g w => ((∀ j, n ≤ j → D j = false) ∧ S D g w) ∨ ∃ k, n < k ∧ k ≤ l.length ∧ (∀ j, j < k → D j = true) ∧ (∀ j, k ≤ j → D j = false) ∧ T k g w) hm hB (.inl ⟨fun _ _ => rfl, hS⟩) (fun i o hi D g w hi0 hpre h => ?_) fun D g w hall h => ?_
  · have hil := (List.getElem?_eq_some_iff.1 hi).1
    rcases h with ⟨h1, hS⟩ | ⟨k, hk, hkl, h1, h2, hT⟩
    · rcases Nat.lt_trichotomy i n with hlt | heq | hgt
      · obtain ⟨A, hA, hy⟩ := hstep i o hlt hi D g w hi0 hpre hS
        exact ⟨A, hA, yield_mono hy fun u w' h => .inl ⟨fun j hj => by rw [updD_ne (by omega)]; exact h1 j hj, h⟩⟩
      · subst heq
        obtain ⟨hd, hT⟩ := hfirst o hi D g w hpre hS
        obtain ⟨A, hA, hy⟩ := htail i o (Nat.le_refl _) hi g w hT
        refine ⟨A, hA, yield_mono hy fun u w' h => .inr ⟨i + 1, by omega, by omega, fun j hj => ?_, fun j hj => ?_, h⟩⟩
        · by_cases e : j = i
          · rw [e]; exact updD_at ..
          · rw [updD_ne (by omega)]; exact hd j (by omega)
        · rw [updD_ne (by omega)]; exact h1 j (by omega)
      · obtain ⟨e, he, hb, hen⟩ := lateB_of hL hi hgt
        have := hpre e he hb
        rw [hen, h1 _ (by omega)] at this; cases this
    · rcases Nat.lt_trichotomy i k with hlt | heq | hgt
      · rw [h1 i hlt] at hi0; cases hi0
      · subst heq
        obtain ⟨A, hA, hy⟩ := htail i o (by omega) hi g w hT
        refine ⟨A, hA, yield_mono hy fun u w' h => .inr ⟨i + 1, by omega, by omega, fun j hj => ?_, fun j hj => ?_, h⟩⟩
        · by_cases e : j = i
          · rw [e]; exact updD_at ..
          · rw [updD_ne (by omega)]; exact h1 j (by omega)
        · rw [updD_ne (by omega)]; exact h2 j (by omega)
      · obtain ⟨e, he, hb, hen⟩ := lateB_of hL hi (by omega)
        have := hpre e he hb
        rw [hen, h2 _ (by omega)] at this; cases this
  · rcases h with ⟨h1, _⟩ | ⟨k, hk, hkl, h1, h2, hT⟩
    · have := h1 n (Nat.le_refl _)
      rw [hall n hn] at this; cases this
    · rcases Nat.lt_or_ge k l.length with h3 | h3
      · have := h2 k (Nat.le_refl _)
        rw [hall k h3] at this; cases this
      · obtain rfl : k = l.length := by omega
        exact hQ g w hT
end Go.Proofs.YtinjjaoikofkdaaDoor

