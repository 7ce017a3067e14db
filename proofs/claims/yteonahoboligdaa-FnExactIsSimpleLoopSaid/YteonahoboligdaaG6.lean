/- All subloops, for the reference: contracts. -/
import Derived.Test.YteonahoboligdaaG5
namespace Go.Proofs.Yteonahoboligdaa
set_option linter.unusedSimpArgs false
set_option linter.unusedVariables false
open Go Go.RowKit

theorem Lst.single {w : World} {g : Nat} {l : List Nat} {gi ci t : Nat} (h : blk w g #[.slice (some ⟨gi, 0, none⟩) l.length ci] t) (hr : rds w gi l.length (i64F l)) : Lst w g [.slice (some ⟨gi, 0, none⟩) l.length ci] [l] :=
  ⟨h.rds fun j hj => by
    obtain rfl : j = 0 := by have : [l].length = 1 := rfl; omega
    rfl, rfl, fun i x y hx hy => by
    have hi : i < 1 := (List.getElem?_eq_some_iff.1 hx).1
    obtain rfl : i = 0 := by omega
    cases hx; cases hy
    exact ⟨gi, ci, rfl, hr⟩⟩
theorem Found.lens {n : Nat} {t : Nat → Nat → Nat} {k : Nat} {L : List (List Nat)} (F : Found n t k L) : ∀ x ∈ L, x.length ≤ 1000 := fun x hx => by
  obtain ⟨m, _, rfl⟩ := F.sub x hx
  exact Nat.le_trans (mL_le m) (by decide)
/-- The end of the search. -/
def AllPost (n : Nat) (t : Nat → Nat → Nat) (w0 : World) (e : Ending) (w' : World) : Prop := ∃ L, Found n t L.length L ∧ LstPost L w0 e w'

set_option maxRecDepth 100000 in
set_option maxHeartbeats 4000000 in
theorem l05All_any (n : Nat) (t : Nat → Nat → Nat) (hs : IsSq (n : Int) t) (w : World) :
    Calls Try.prog 41 #[.agg (sqs (n : Int) t)] w (AllPost n t w) := by
  have M := Mm.start no w
  have hn : n ≤ 10 := by have := hs.hi; omega
  have h1n : (1 : Int) ≤ n := hs.lo
  have hn' : (n : Int) ≤ 10 := by omega
  have so := sqs_order (n : Int) t
  have HC0 : Hid2 (∀ w1, Calls Try.prog 70 #[.agg (sqs (n : Int) t), .agg (bls fun _ => false)] w1 fun e w' => e = .returned (.agg (bls fun y => (genM t 0).testBit y)) ∧ Below w1.heap.size w1 w') := ⟨fun w1 => by
    have := l05Close_any n t hs 0 (by decide) (zero_bits n) w1
    rwa [show (bls fun y => (0 : Nat).testBit y) = bls fun _ => false by congr 1; funext y; simp] at this⟩
  have HCM := Hid2.mk (fun m (hm : SubL n t m) x (hx : x < n) w1 => l05Close_any n t hs (m ||| 2 ^ x) (Nat.or_lt_two_pow (n := 10) hm.1 (Nat.pow_lt_pow_right (by omega) (by omega))) (more_bits hm.2.2 hx) w1)
  have HTD : Hid2 (∀ (m : Nat) w1, Calls Try.prog 46 #[.agg (bls fun y => m.testBit y)] w1 fun e w' => ∃ v, e = .returned v ∧ Mm no w1 w' [.row w1.heap.size v (mL m).length (i64N (mL m)) 2 1]) := ⟨fun m w1 => l05Told_any (fun y => m.testBit y) w1⟩
  have HF0 := Hid2.mk (Found.start hs)
  have HPU := Hid2.mk (fun k L m x (hm : m < 1024) (F : Finds n t k m x L) (hx : x < n) (h : m.testBit x = false) => F.put hs hm hx h)
  have HPOS : Hid2 (∀ m, (∀ i, m.testBit i = true → i < n) → 0 < (mL (genM t m)).length) := ⟨fun m hm => by
    have h0 := (genM_clo hs hm).zero
    have := (mL_mem (genM_lt t m)).2 h0
    rcases Nat.eq_zero_or_pos (mL (genM t m)).length with h | h
    · rw [List.eq_nil_of_length_eq_zero h] at this; cases this
    · exact h⟩
  have HMB := Hid2.mk (fun m x (hm : SubL n t m) (hx : x < n) => more_bits hm.2.2 hx)
  have HMS := Hid2.mk (fun s y => mark_set s y)
  have hp0 := HPOS.out 0 (zero_bits n)
  have hle0 := mL_le (genM t 0)
  clear hs
  have hz := zero_b10
  have hbd := build_b10
  go_enter Try.func41, Try.ntmps41
  go_wp2_with (first | ((with_reducible apply wpM_box' M 30 (sqs (n : Int) t)); rfl; exact ⟨rfl, rfl⟩; clear M; (try clear C); intro bq w9 h_bq M; have C := M.ruleAll; simp only [Go.Proofs.Yteonahoboligdaa.ruleAll] at C) | ((with_reducible apply wpM_lda' M 0 30 0 (sqs (n : Int) t)); rfl; rfl; rfl; exact ⟨rfl, inf_sqs.trans (congrArg some (sqs_size ..).symm), _, und_sqs, rfl⟩; exact whole_of rfl) | (refine wpList_build 56 _ rfl rfl [] rfl _ (build_b10 _) ?_) | (go_at_call 70; ((with_reducible refine (HC0.out _).mono ?_); rintro e w1 ⟨rfl, hb⟩; have hsz := M.size; (try (have G9 := G.later hb; clear G; have G := G9; clear G9)); have M9 := M.later hb; clear M; (try clear C); have M := M9; clear M9; have C := M.ruleAll; simp only [Go.Proofs.Yteonahoboligdaa.ruleAll] at C)) | (go_at_call 46; fail))
  refine (HTD.out _ _).mono ?_
  rintro e w5 ⟨vc, rfl, M'⟩
  have M9 := M.joinRow M'
  obtain ⟨gc, cc, rfl, M8⟩ := M9.rowRd 0 rfl hp0 (i64F (mL (genM t 0))) (fun j hj => i64N_at hj)
  simp only [List.set_cons_zero] at M8
  clear M; (try clear C)
  have M := M8
  clear M9 M8 M'
  generalize hl0 : mL (genM t 0) = l0 at *
  have C := M.ruleAll; simp only [Go.Proofs.Yteonahoboligdaa.ruleAll] at C
  go_wp2_with (first | ((with_reducible apply wpM_bsl' M 39 1 33 ([(0, .slice (some ⟨gc, 0, none⟩) l0.length cc)]) (#[.slice (some ⟨gc, 0, none⟩) l0.length cc])); rfl; rfl; rfl; exact bsl_h1 _ _ _; clear M; (try clear C); intro bo w9 h_bo M; have C := M.ruleAll; simp only [Go.Proofs.Yteonahoboligdaa.ruleAll] at C))
  have HL0 := Hid2.mk (Lst.single (M.box 0 rfl) (M.rd 1 rfl))
  have M8 := M.sub [2] (by decide)
  clear M; (try clear C)
  clear hl0 hp0 hle0 HC0
  go_loopw [3, 4, 5, 6, 7] (fun o a _ _ _ wr => ∃ (L : List (List Nat)) (g cap k : Nat) (hd : List Value), o = .slice (some ⟨g, 0, none⟩) L.length cap ∧ a = .int .i64 (k : Int) ∧ k ≤ L.length ∧ L.length ≤ cap ∧ Hid2 (Found n t k L) ∧ Hid2 (Lst wr g hd L) ∧ Mm no w wr [.box bq (sqs (n : Int) t) 30]) (fun _ a _ _ _ _ => 1025 - (intOf a).toNat)
  case atStart => exact ⟨_, _, _, 0, _, rfl, rfl, by omega, by simp, HF0, HL0, M8⟩
  case round =>
    clear M8 HL0 HF0
    obtain ⟨L, g, cap, k, hd, rfl, rfl, hk, hcap, HF, HL, MW⟩ := hrel
    have hlen := HF.out.len
    have M := MW.anew
    have HMW := Hid2.mk MW
    clear MW
    have C := M.ruleAll; simp only [Go.Proofs.Yteonahoboligdaa.ruleAll] at C
    by_cases hlt : k < L.length
    · have hlt' : (k : Int) < (L.length : Int) := by omega
      have e1 := List.getElem?_eq_getElem hlt
      obtain ⟨m, hsub, hx⟩ := HF.out.sub _ (List.getElem_mem hlt)
      rw [hx] at e1
      obtain ⟨gi, ci, -, hcell, hri⟩ := HL.out.cell e1
      have HSET := Hid2.mk (l05Set_any m hsub.1 _ gi ci hri)
      have HFI := Hid2.mk (Finds.start HF.out e1)
      have HSUB := Hid2.mk hsub
      have hm := hsub.1
      have hlk := mL_le m
      clear hri hsub hx e1 HF
      go_wp2_with (first | (go_at_call 44; fail))
      refine HSET.out.mono ?_
      rintro e w1 ⟨rfl, hb⟩
      have M9 := M.later hb
      clear M; (try clear C)
      clear hcell HSET hb
      have M := M9
      clear M9
      go_wp2_with (first | ((with_reducible apply wpM_alloc' M 56 (bls fun _ => false)); rfl; exact ⟨rfl, _, zero_b10 _, rfl⟩; clear M; (try clear C); intro b5 w9 h_b5 M; have C := M.ruleAll; simp only [Go.Proofs.Yteonahoboligdaa.ruleAll] at C) | ((with_reducible apply wpM_sta' M 0 56 (bls fun y => m.testBit y)); rfl; rfl; rfl; rfl; (first | exact .inl (by assumption) | exact .inr rfl | exact .inr (by assumption)); exact ⟨rfl, inf_b10.trans (congrArg some (bls_size ..).symm), flat_bls _⟩; (simp only [entCells, List.getElem?_cons_zero, List.getElem?_cons_succ, bls_size, bls_size]); clear M; (try clear C); intro w9 M; simp only [List.set_cons_zero, List.set_cons_succ, entBlk, entT, List.getElem?_cons_zero, List.getElem?_cons_succ] at M; have C := M.ruleAll; simp only [Go.Proofs.Yteonahoboligdaa.ruleAll] at C))
      have HL2 := Hid2.mk (HL.out.lat M.below)
      have M8 := HMW.out.onto M
      clear M; (try clear C)
      clear HMW HL
      go_loopw [3, 6, 7] (fun o x _ wr => ∃ (L : List (List Nat)) (g cap j : Nat) (hd : List Value), o = .slice (some ⟨g, 0, none⟩) L.length cap ∧ x = .int .i64 (j : Int) ∧ j ≤ n ∧ L.length ≤ cap ∧ Hid2 (Finds n t k m j L) ∧ Hid2 (Lst wr g hd L) ∧ Mm no w wr [.box b5 (bls fun y => m.testBit y) 56, .box bq (sqs (n : Int) t) 30]) (fun _ x _ _ => n - (intOf x).toNat)
      case atStart => exact ⟨L, g, cap, 0, hd, rfl, rfl, by omega, hcap, HFI, HL2, M8⟩
      case round =>
        clear M8 HL2 HFI hlt hlt' hk hcap hlen
        obtain ⟨L, g, cap, j, hd, rfl, rfl, hj, hcap, HFI, HL, MW⟩ := hrel
        have hlen := HFI.out.found.len
        have HLEN := Hid2.mk HFI.out.found.lens
        have M := MW.anew
        have HMW := Hid2.mk MW
        clear MW
        have C := M.ruleAll; simp only [Go.Proofs.Yteonahoboligdaa.ruleAll] at C
        by_cases hjn : j < n
        · have hjn' : (j : Int) < (n : Int) := by omega
          have hj10 : (j : Int) < 10 := by omega
          have q1 := bls_get (f := fun y => m.testBit y) (i := j) (by omega)
          cases hb : m.testBit j with
          | true =>
            have HN := Hid2.mk (HFI.out.skip hb)
            rw [hb] at q1
            clear hb
            go_wp2
            have M8 := HMW.out.onto M
            go_roundw
            case rel => exact ⟨L, g, cap, j + 1, hd, rfl, by go_num, by omega, hcap, HN, HL, M8⟩
            case measure => simp [intOf]; omega
          | false =>
            have HN := Hid2.mk (HPU.out k L m j hm HFI.out hjn hb)
            have HCC := Hid2.mk (HCM.out m HSUB.out j hjn)
            have hpos := HPOS.out _ (HMB.out m j HSUB.out hjn)
            have hle := mL_le (genM t (m ||| 2 ^ j))
            have HS := Hid2.mk (HMS.out m j)
            have HTT := Hid2.mk (HTD.out (genM t (m ||| 2 ^ j)))
            rw [hb] at q1
            clear hb HFI
            generalize genM t (m ||| 2 ^ j) = gm at *
            generalize m ||| 2 ^ j = m2 at *
            generalize hl2 : mL gm = l2 at *
            go_wp2_with (first | ((with_reducible apply wpM_lda' M 0 56 0 (bls fun y => m.testBit y)); rfl; rfl; rfl; exact ⟨rfl, inf_b10.trans (congrArg some (bls_size ..).symm), _, und_b10, rfl⟩; exact whole_of rfl) | ((with_reducible apply wpM_alloc' M 56 (bls fun _ => false)); rfl; exact ⟨rfl, _, zero_b10 _, rfl⟩; clear M; (try clear C); intro b7 w9 h_b7 M; have C := M.ruleAll; simp only [Go.Proofs.Yteonahoboligdaa.ruleAll] at C) | ((with_reducible apply wpM_sta' M 0 56 (bls fun y => m.testBit y)); rfl; rfl; rfl; rfl; (first | exact .inl (by assumption) | exact .inr rfl | exact .inr (by assumption)); exact ⟨rfl, inf_b10.trans (congrArg some (bls_size ..).symm), flat_bls _⟩; (simp only [entCells, List.getElem?_cons_zero, List.getElem?_cons_succ, bls_size, bls_size]); clear M; (try clear C); intro w9 M; simp only [List.set_cons_zero, List.set_cons_succ, entBlk, entT, List.getElem?_cons_zero, List.getElem?_cons_succ] at M; have C := M.ruleAll; simp only [Go.Proofs.Yteonahoboligdaa.ruleAll] at C) | ((with_reducible apply wpM_st' M 0 4 (j) (bls fun y => m2.testBit y)); rfl; rfl; rfl; (first | exact .inl (by assumption) | exact .inr rfl | exact .inr (by assumption)); exact ⟨rfl, rfl, by kernel_rfl⟩; (exact Nat.lt_of_lt_of_eq (by omega) (bls_size _).symm); exact HS.out; clear M; (try clear C); intro w9 M; simp only [List.set_cons_zero, List.set_cons_succ, entBlk, entT, List.getElem?_cons_zero, List.getElem?_cons_succ] at M; have C := M.ruleAll; simp only [Go.Proofs.Yteonahoboligdaa.ruleAll] at C) | ((with_reducible apply wpM_lda' M 2 30 0 (sqs (n : Int) t)); rfl; rfl; rfl; exact ⟨rfl, inf_sqs.trans (congrArg some (sqs_size ..).symm), _, und_sqs, rfl⟩; exact whole_of rfl) | ((with_reducible apply wpM_lda' M 0 56 0 (bls fun y => m2.testBit y)); rfl; rfl; rfl; exact ⟨rfl, inf_b10.trans (congrArg some (bls_size ..).symm), _, und_b10, rfl⟩; exact whole_of rfl) | (go_at_call 70; ((with_reducible refine (HCC.out _).mono ?_); rintro e w1 ⟨rfl, hb⟩; have hsz := M.size; (try (have G9 := G.later hb; clear G; have G := G9; clear G9)); have M9 := M.later hb; clear M; (try clear C); have M := M9; clear M9; have C := M.ruleAll; simp only [Go.Proofs.Yteonahoboligdaa.ruleAll] at C)) | (go_at_call 46; fail))
            refine (HTT.out _).mono ?_
            rintro e w5 ⟨vc, rfl, M'⟩
            have M9 := M.joinRow M'
            obtain ⟨gr, cr, rfl, M8⟩ := M9.rowRd 0 rfl hpos (i64F l2) (fun j hj => i64N_at hj)
            simp only [List.set_cons_zero] at M8
            clear M; (try clear C)
            have M := M8
            clear M9 M8 M'
            have HPUT := Hid2.mk (l05Put_any L l2 (by omega) HLEN.out (by omega) _ g cap hd hcap gr cr (HL.out.lat M.below) (M.rd 0 rfl))
            go_wp2_with (first | (go_at_call 71; fail))
            refine HPUT.out.mono ?_
            rintro e w6 ⟨g6, cap6, hd6, rfl, hcap6, HL6, hb⟩
            have M9 := M.later hb
            clear M; (try clear C)
            have M := M9
            clear M9 hb HPUT q1
            have HL7 := Hid2.mk HL6
            clear HL6
            go_wp2
            have M8 := HMW.out.onto M
            go_roundw
            case rel => exact ⟨_, g6, cap6, j + 1, hd6, rfl, by go_num, by omega, hcap6, HN, HL7, M8.sub [2, 3] (by decide)⟩
            case measure => simp [intOf]; omega
        · obtain rfl : j = n := by omega
          have hge : ¬ ((j : Int) < (j : Int)) := by omega
          have HN := Hid2.mk (HFI.out.next hm)
          have hkl := (List.getElem?_eq_some_iff.1 HFI.out.own).1
          go_wp2
          have M8 := HMW.out.onto M
          go_roundw
          case rel => exact ⟨L, g, cap, k + 1, hd, rfl, by go_num, by omega, hcap, HN, HL, M8.sub [1] (by decide)⟩
          case measure => simp [intOf]; omega
    · obtain rfl : k = L.length := by omega
      have hge : ¬ ((L.length : Int) < (L.length : Int)) := by omega
      go_wp2
      go_ret
      exact ⟨L, HF.out, LstPost.mk rfl hcap (HL.out.lat M.below) (HMW.out.onto M).below⟩
end Go.Proofs.Yteonahoboligdaa
