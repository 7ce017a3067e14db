/- FrattiniOf, for the reference: contracts. -/
import Derived.Test.YteonahoboligdaaG11
import Derived.Test.YteonahoboligdaaG8
namespace Go.Proofs.Yteonahoboligdaa
set_option linter.unusedSimpArgs false
set_option linter.unusedVariables false
open Go Go.RowKit

set_option maxRecDepth 100000 in
set_option maxHeartbeats 1000000 in
theorem l01Has_any (l : List Nat) (hl : l.length ≤ 1000) (x : Nat) (hx : x < 1000) (w : World) (g cap : Nat) (hr : rds w g l.length (i64F l)) :
    Calls Try.prog 45 #[.slice (some ⟨g, 0, none⟩) l.length cap, .int .i64 (x : Int)] w fun e w' => e = .returned (.bool (decide (x ∈ l))) ∧ Below w.heap.size w w' := by
  have M := (Mm.start no w).add (x := .rd g l.length (i64F l)) hr fun _ h => by cases h
  have hx' : (x : Int) < 1000 := by omega
  clear hr
  have C := M.ruleAll; simp only [Go.Proofs.Yteonahoboligdaa.ruleAll] at C
  go_enter Try.func45, Try.ntmps45
  go_wp2
  go_loopw [5] (fun i wr => ∃ k : Nat, k ≤ l.length ∧ i = .int .i64 (k : Int) ∧ Hid2 (∀ y ∈ l.take k, y ≠ x) ∧ Mm no w wr [.rd g l.length (i64F l)]) (fun i _ => l.length - (intOf i).toNat)
  case atStart => exact ⟨0, by omega, rfl, ⟨fun y h => by simp at h⟩, M⟩
  case round =>
    obtain ⟨k, hk, rfl, HA, M9⟩ := hrel
    clear M; (try clear C)
    have M := M9
    clear M9
    have C := M.ruleAll; simp only [Go.Proofs.Yteonahoboligdaa.ruleAll] at C
    by_cases hlt : k < l.length
    · have hlt' : (k : Int) < (l.length : Int) := by omega
      have e1 := List.getElem?_eq_getElem hlt
      have htk : l.take (k + 1) = l.take k ++ [l[k]] := by rw [List.take_succ_eq_append_getElem hlt]
      have hmem := List.getElem_mem hlt
      generalize l[k] = y at e1 htk hmem
      have c1 := i64F_at e1
      by_cases hxy : y = x
      · have HN := Hid2.mk (show decide (x ∈ l) = true from decide_eq_true (hxy ▸ hmem))
        have hd : ((y : Int) == (x : Int)) = true := by rw [hxy]; simp
        clear e1 htk hmem hxy
        go_wp2
        go_ret
        exact ⟨by rw [HN.out]; rfl, M.below⟩
      · have HN := Hid2.mk (show ∀ z ∈ l.take (k + 1), z ≠ x from fun z hz => by
          rw [htk, List.mem_append, List.mem_singleton] at hz
          rcases hz with h | h
          · exact HA.out z h
          · rw [h]; exact hxy)
        have hd : ((y : Int) == (x : Int)) = false := neqI hxy
        clear e1 htk hmem hxy
        go_wp2
        go_roundw
        case rel => exact ⟨k + 1, by omega, by go_num, HN, M⟩
        case measure => simp [intOf]; omega
    · obtain rfl : k = l.length := by omega
      have hge : ¬ ((l.length : Int) < (l.length : Int)) := by omega
      have HN := Hid2.mk (show decide (x ∈ l) = false from decide_eq_false fun h => HA.out x (by rw [List.take_length]; exact h) rfl)
      go_wp2
      go_ret
      exact ⟨by rw [HN.out]; rfl, M.below⟩

theorem Lst.cellAll {wS : World} {g : Nat} {hd : List Value} {L : List (List Nat)} (H : ∀ w', Below wS.heap.size wS w' → Lst w' g hd L) {i : Nat} {l : List Nat} (h : L[i]? = some l) :
    ∃ gi ci, (∀ w', Below wS.heap.size wS w' → w'.cell? ⟨g, i, none⟩ = some (.slice (some ⟨gi, 0, none⟩) l.length ci)) ∧ ∀ w', Below wS.heap.size wS w' → rds w' gi l.length (i64F l) := by
  obtain ⟨gi, ci, e, _, hr⟩ := (H wS (Below.refl _ _)).cell h
  refine ⟨gi, ci, fun w' hb => ?_, fun w' hb => hr.lat hb⟩
  rw [(H w' hb).1.at_ i (List.getElem?_eq_some_iff.1 h).1, List.getD_eq_getElem?_getD, e]; rfl
/-- Marks in which the first x have been cut down, if that is to be. -/
def mkF (gb : Bool) (o s x : Nat) : Nat → Bool := fun y => if gb = true then o.testBit y && (decide (x ≤ y) || s.testBit y) else o.testBit y
theorem mkF_start (gb : Bool) (o s : Nat) : mkF gb o s 0 = fun y => o.testBit y := by
  funext y
  unfold mkF
  split
  · rw [decide_eq_true (Nat.zero_le y)]; simp
  · rfl
theorem mkF_end (o s : Nat) : bls (mkF true o s 10) = bls fun y => (o &&& s).testBit y := tab_ext fun y hy => by
  congr 1
  unfold mkF
  rw [if_pos rfl, decide_eq_false (by omega), Bool.false_or]
  exact (Nat.testBit_and o s y).symm
theorem mkF_set {o s x : Nat} : (bls (mkF true o s x)).setIfInBounds x (.bool (o.testBit x && s.testBit x)) = bls (mkF true o s (x + 1)) := by
  rw [bls_set]
  congr 1
  funext y
  unfold mkF
  rw [if_pos rfl, if_pos rfl]
  by_cases e : y = x
  · subst e
    rw [if_pos rfl, decide_eq_false (by omega), Bool.false_or]
  · rw [if_neg e]
    congr 2
    rw [decide_eq_decide]; omega
theorem lt_set (k : Nat) : (bls fun y => decide (y < k)).setIfInBounds k (.bool true) = bls fun y => decide (y < k + 1) := by
  rw [bls_set]
  congr 1
  funext y
  by_cases e : y = k
  · subst e; rw [if_pos rfl, decide_eq_true (by omega)]
  · rw [if_neg e, decide_eq_decide]; omega

set_option maxRecDepth 100000 in
set_option maxHeartbeats 8000000 in
theorem specFrattini_any (n : Int) (t : Nat → Nat → Nat) (hby : Byt2 t) (w : World) : Calls Try.prog 24 #[.agg (sqs n t)] w (FaPost (frRes n t).1 (frRes n t).2 w) := by
  have M := Mm.start no w
  have H1 := Hid2.mk (fun w1 => l01Loop_any n t w1 hby)
  unfold frRes lsRes
  cases hl : isLp n t with
  | false =>
    rw [hl] at H1
    rw [if_neg (by decide)]
    clear hby hl
    go_enter Try.func24, Try.ntmps24
    go_wp2_with (first | ((with_reducible apply wpM_box' M 30 (sqs n t)); rfl; exact ⟨rfl, rfl⟩; clear M; (try clear C); intro bq w9 h_bq M; have C := M.ruleAll; simp only [Go.Proofs.Yteonahoboligdaa.ruleAll] at C) | ((with_reducible apply wpM_lda' M 0 30 0 (sqs n t)); rfl; rfl; rfl; exact ⟨rfl, inf_sqs.trans (congrArg some (sqs_size ..).symm), _, und_sqs, rfl⟩; exact whole_of rfl) | (go_at_call 37; ((with_reducible refine (H1.out _).mono ?_); rintro e w1 ⟨rfl, hb⟩; have hsz := M.size; (try (have G9 := G.later hb; clear G; have G := G9; clear G9)); have M9 := M.later hb; clear M; (try clear C); have M := M9; clear M9; have C := M.ruleAll; simp only [Go.Proofs.Yteonahoboligdaa.ruleAll] at C)))
    go_ret2
    exact FaPost.nil2 M.below 1
  | true =>
    obtain ⟨N, rfl, hs⟩ := lp_natG hl
    rw [hl] at H1
    rw [if_pos rfl]
    simp only [Int.toNat_natCast]
    have hn : N ≤ 10 := by have := hs.hi; omega
    have h1n : (1 : Int) ≤ N := hs.lo
    have hn' : (N : Int) ≤ 10 := by omega
    have H2 : Hid2 (∀ w1, Calls Try.prog 41 #[.agg (sqs (N : Int) t)] w1 (LstPost (allL N t) w1)) := ⟨fun w1 => (l05All_any N t hs w1).mono fun e w' ⟨L, F, h⟩ => by rw [← found_eq hs F]; exact h⟩
    have so := sqs_order (N : Int) t
    have HLL : Hid2 ((allL N t).length = (subs N t).length) := ⟨(subs_len N t).symm⟩
    have HAT := Hid2.mk (fun i s (h : (subs N t)[i]? = some s) => subs_at h)
    have HLT := Hid2.mk (fun m (h : m ∈ subs N t) => (subs_mem.1 h).1)
    have hpos : 0 < (subs N t).length := List.length_pos_of_mem (subs_mem.2 (allM_sub hs))
    have hlen : (subs N t).length ≤ 1024 := by rw [subs_len]; exact allL_len N t hs
    have HGS := Hid2.mk (fun i s (h : (subs N t)[i]? = some s) hi => grt_spec hs h hi)
    have HFS := Hid2.mk (fun k s (h : (subs N t)[k]? = some s) => fraTo_succ (A := allM N) h)
    have HFA := Hid2.mk (show fraM N t = fraTo (subs N t) (allM N) ((subs N t).length - 1) from fraTo_all hs)
    have HF0 := Hid2.mk (show (bls fun y => decide (y < N)) = bls fun y => (fraTo (subs N t) (allM N) 0).testBit y by
      congr 1; funext y; show decide (y < N) = (allM N).testBit y; rw [Bool.eq_iff_iff, decide_eq_true_iff, allM_bit])
    have HTD : Hid2 (∀ (m : Nat) w1, Calls Try.prog 46 #[.agg (bls fun y => m.testBit y)] w1 fun e w' => ∃ v, e = .returned v ∧ Mm no w1 w' [.row w1.heap.size v (mL m).length (i64s ((mL m).map fun x : Nat => (x : Int))) 2 1]) := ⟨fun m w1 => (l05Told_any (fun y => m.testBit y) w1).mono fun e w' ⟨v, h1, h2⟩ => ⟨v, h1, by have := h2; rwa [show i64N (tdL (fun y => m.testBit y) 10) = i64s ((mL m).map fun x : Nat => (x : Int)) by simp [i64N, i64s, mL]] at this⟩⟩
    generalize hfr : fraTo (subs N t) (allM N) = FR at *
    generalize hgt : grt (subs N t) (allM N) = GT at *
    generalize fraM N t = fm at *
    generalize subs N t = L at *
    generalize allL N t = LL at *
    clear hby hl hs hfr hgt
    have hz := zero_b10
    have hbd := build_b10
    go_enter Try.func24, Try.ntmps24
    go_wp2_with (first | ((with_reducible apply wpM_box' M 30 (sqs (N : Int) t)); rfl; exact ⟨rfl, rfl⟩; clear M; (try clear C); intro bq w9 h_bq M; have C := M.ruleAll; simp only [Go.Proofs.Yteonahoboligdaa.ruleAll] at C) | ((with_reducible apply wpM_lda' M 0 30 0 (sqs (N : Int) t)); rfl; rfl; rfl; exact ⟨rfl, inf_sqs.trans (congrArg some (sqs_size ..).symm), _, und_sqs, rfl⟩; exact whole_of rfl) | (go_at_call 37; ((with_reducible refine (H1.out _).mono ?_); rintro e w1 ⟨rfl, hb⟩; have hsz := M.size; (try (have G9 := G.later hb; clear G; have G := G9; clear G9)); have M9 := M.later hb; clear M; (try clear C); have M := M9; clear M9; have C := M.ruleAll; simp only [Go.Proofs.Yteonahoboligdaa.ruleAll] at C)) | (go_at_call 41; fail))
    refine (H2.out _).mono ?_
    rintro e wS ⟨g, cap, hd, rfl, hcap, HL, hb⟩
    have M9 := M.later hb
    clear M; (try clear C)
    have HW := Hid2.mk (fun w' (hb : Below wS.heap.size wS w') => HL.lat hb)
    have HMW := Hid2.mk M9
    have M := M9.anew
    have hll1 : LL.length ≤ L.length := by have := HLL.out; omega
    have hll2 : L.length ≤ LL.length := by have := HLL.out; omega
    clear M9 HL hb H1 H2
    have C := M.ruleAll; simp only [Go.Proofs.Yteonahoboligdaa.ruleAll] at C
    go_wp2_with (first | (refine wpList_build 56 _ rfl rfl [] rfl _ (build_b10 _) ?_) | ((with_reducible apply wpM_alloc' M 56 (bls fun _ => false)); rfl; exact ⟨rfl, _, zero_b10 _, rfl⟩; clear M; (try clear C); intro b5 w9 h_b5 M; have C := M.ruleAll; simp only [Go.Proofs.Yteonahoboligdaa.ruleAll] at C) | ((with_reducible apply wpM_sta' M 0 56 (bls fun _ => false)); rfl; rfl; rfl; rfl; (first | exact .inl (by assumption) | exact .inr rfl | exact .inr (by assumption)); exact ⟨rfl, inf_b10.trans (congrArg some (bls_size ..).symm), flat_bls _⟩; (simp only [entCells, List.getElem?_cons_zero, List.getElem?_cons_succ, bls_size, bls_size]); clear M; (try clear C); intro w9 M; simp only [List.set_cons_zero, List.set_cons_succ, entBlk, entT, List.getElem?_cons_zero, List.getElem?_cons_succ] at M; have C := M.ruleAll; simp only [Go.Proofs.Yteonahoboligdaa.ruleAll] at C))
    have HB0 := Hid2.mk (show (bls fun _ => false) = bls fun y => decide (y < 0) by congr 1)
    go_loopw [6] (fun x wr => ∃ k : Nat, k ≤ N ∧ x = .int .i64 (k : Int) ∧ Mm no wS wr [.box b5 (bls fun y => decide (y < k)) 56, .box bq (sqs (N : Int) t) 30]) (fun x _ => N - (intOf x).toNat)
    case atStart => exact ⟨0, by omega, rfl, M.eq (by rw [HB0.out])⟩
    case round =>
      clear HB0
      obtain ⟨k, hk, rfl, M9⟩ := hrel
      clear M; (try clear C)
      have M := M9
      clear M9
      have C := M.ruleAll; simp only [Go.Proofs.Yteonahoboligdaa.ruleAll] at C
      by_cases hlt : k < N
      · have hlt' : (k : Int) < (N : Int) := by omega
        have hk10 : (k : Int) < 10 := by omega
        have HS := Hid2.mk (lt_set k)
        go_wp2_with (first | ((with_reducible apply wpM_st' M 0 4 (k) (bls fun y => decide (y < k + 1))); rfl; rfl; rfl; (first | exact .inl (by assumption) | exact .inr rfl | exact .inr (by assumption)); exact ⟨rfl, rfl, by kernel_rfl⟩; (exact Nat.lt_of_lt_of_eq (by omega) (bls_size _).symm); exact HS.out; clear M; (try clear C); intro w9 M; simp only [List.set_cons_zero, List.set_cons_succ, entBlk, entT, List.getElem?_cons_zero, List.getElem?_cons_succ] at M; have C := M.ruleAll; simp only [Go.Proofs.Yteonahoboligdaa.ruleAll] at C))
        go_roundw
        case rel => exact ⟨k + 1, by omega, by go_num, M⟩
        case measure => simp [intOf]; omega
      · obtain rfl : k = N := by omega
        have dge : decide ((k : Int) < (k : Int)) = false := decide_eq_false (by omega)
        have M8 := M.eq (show _ = [Ent.box b5 (bls fun y => (FR 0).testBit y) 56, .box bq (sqs (k : Int) t) 30] by rw [HF0.out])
        go_wp2
        clear M; (try clear C)
        clear dge HF0
        go_loopw [7, 8, 9, 10, 11, 12, 13] (fun i _ _ _ _ _ _ wr => ∃ m : Nat, m + 1 ≤ LL.length ∧ i = .int .i64 (m : Int) ∧ Mm no wS wr [.box b5 (bls fun y => (FR m).testBit y) 56, .box bq (sqs (k : Int) t) 30]) (fun i _ _ _ _ _ _ _ => LL.length - (intOf i).toNat)
        case atStart => exact ⟨0, by omega, rfl, M8⟩
        case round =>
          clear M8
          obtain ⟨m, hm, rfl, M9⟩ := hrel
          have M := M9
          clear M9
          have C := M.ruleAll; simp only [Go.Proofs.Yteonahoboligdaa.ruleAll] at C
          by_cases hml : m + 1 < LL.length
          · have hml' : (m : Int) + 1 < (LL.length : Int) := by omega
            have hmlt : m < L.length := by omega
            have e1 := List.getElem?_eq_getElem hmlt
            have hs := HLT.out _ (List.getElem_mem hmlt)
            generalize L[m] = s at e1 hs
            have HGI := Hid2.mk (HGS.out m s e1 (by omega))
            have HFN := Hid2.mk (HFS.out m s e1)
            have e2 := HAT.out m s e1
            obtain ⟨gi, ci, hci, hri⟩ := Lst.cellAll HW.out e2
            have CI := Hid2.mk hci
            have RI := Hid2.mk hri
            have hslen := mL_le s
            clear e1 e2 hci hri
            have hd1 := CI.out _ M.below
            go_wp2_with (first | (go_at_call 44; fail))
            refine (l05Set_any s hs _ gi ci (RI.out _ M.below)).mono ?_
            rintro e w1 ⟨rfl, hb⟩
            have M9 := M.later hb
            clear M; (try clear C)
            clear hd1 hb
            have M := M9
            clear M9
            have C := M.ruleAll; simp only [Go.Proofs.Yteonahoboligdaa.ruleAll] at C
            go_wp2_with (first | ((with_reducible apply wpM_alloc' M 56 (bls fun _ => false)); rfl; exact ⟨rfl, _, zero_b10 _, rfl⟩; clear M; (try clear C); intro b8 w9 h_b8 M; have C := M.ruleAll; simp only [Go.Proofs.Yteonahoboligdaa.ruleAll] at C) | ((with_reducible apply wpM_sta' M 0 56 (bls fun y => s.testBit y)); rfl; rfl; rfl; rfl; (first | exact .inl (by assumption) | exact .inr rfl | exact .inr (by assumption)); exact ⟨rfl, inf_b10.trans (congrArg some (bls_size ..).symm), flat_bls _⟩; (simp only [entCells, List.getElem?_cons_zero, List.getElem?_cons_succ, bls_size, bls_size]); clear M; (try clear C); intro w9 M; simp only [List.set_cons_zero, List.set_cons_succ, entBlk, entT, List.getElem?_cons_zero, List.getElem?_cons_succ] at M; have C := M.ruleAll; simp only [Go.Proofs.Yteonahoboligdaa.ruleAll] at C))
            have M8 := M
            clear M; (try clear C)
            generalize FR m = o at *
            go_loopw [9, 10, 11, 12] (fun gv x _ _ wr => ∃ (l : Nat) (gb : Bool), m < l ∧ l + 1 ≤ LL.length ∧ gv = .bool gb ∧ x = .int .i64 (l : Int) ∧ Hid2 (gb = true ↔ ∀ k' u, m < k' → k' < l → L[k']? = some u → ¬ SubM s u) ∧ Mm no wS wr [.box b8 (bls fun y => s.testBit y) 56, .box b5 (bls fun y => o.testBit y) 56, .box bq (sqs (k : Int) t) 30]) (fun _ x _ _ _ => LL.length - (intOf x).toNat)
            case atStart => exact ⟨m + 1, true, by omega, by omega, rfl, by go_num, ⟨⟨fun _ k' u h1 h2 => by omega, fun _ => rfl⟩⟩, M8⟩
            case round =>
              clear M8
              obtain ⟨l, gb, hml2, hl, rfl, rfl, HG, M9⟩ := hrel
              have M := M9
              clear M9
              have C := M.ruleAll; simp only [Go.Proofs.Yteonahoboligdaa.ruleAll] at C
              by_cases hlz : l + 1 < LL.length
              · have hll2' : (l : Int) + 1 < (LL.length : Int) := by omega
                have dll : decide ((l : Int) + 1 < (LL.length : Int)) = true := decide_eq_true hll2'
                have hlL : l < L.length := by omega
                have e1 := List.getElem?_eq_getElem hlL
                have hu := HLT.out _ (List.getElem_mem hlL)
                generalize L[l] = u at e1 hu
                have HU := Hid2.mk e1
                have e2 := HAT.out l u e1
                obtain ⟨gl, cl, hcl, hrl⟩ := Lst.cellAll HW.out e2
                have CL := Hid2.mk hcl
                have RL := Hid2.mk hrl
                have hulen := mL_le u
                clear e1 e2 hcl hrl
                go_wp2
                have M8 := M
                clear M; (try clear C)
                clear dll
                go_loopw [11, 12] (fun iv x wr => ∃ (j : Nat) (ib : Bool), j ≤ (mL s).length ∧ iv = .bool ib ∧ x = .int .i64 (j : Int) ∧ Hid2 (ib = true ↔ ∀ y ∈ (mL s).take j, y ∈ mL u) ∧ Mm no wS wr [.box b8 (bls fun y => s.testBit y) 56, .box b5 (bls fun y => o.testBit y) 56, .box bq (sqs (k : Int) t) 30]) (fun _ x _ => (mL s).length - (intOf x).toNat)
                case atStart => exact ⟨0, true, by omega, rfl, rfl, ⟨⟨fun _ y hy => by simp at hy, fun _ => rfl⟩⟩, M8⟩
                case round =>
                  clear M8
                  obtain ⟨j, ib, hj, rfl, rfl, HI, M9⟩ := hrel
                  have M := M9
                  clear M9
                  have hd1 := CI.out _ M.below
                  by_cases hjl : j < (mL s).length
                  · have hjl' : (j : Int) < ((mL s).length : Int) := by omega
                    have e1 := List.getElem?_eq_getElem hjl
                    have htk : (mL s).take (j + 1) = (mL s).take j ++ [(mL s)[j]] := by rw [List.take_succ_eq_append_getElem hjl]
                    have hx10 := mL_lt (List.getElem_mem hjl)
                    generalize (mL s)[j] = x at e1 htk hx10
                    have hx10' : (x : Int) < 10 := by omega
                    have HTK := Hid2.mk htk
                    clear htk
                    cases ib with
                    | false =>
                      have HN := Hid2.mk (show (false = true ↔ ∀ y ∈ (mL s).take (j + 1), y ∈ mL u) from ⟨(fun h => by cases h), fun h => HI.out.2 fun y hy => h y (by rw [HTK.out]; exact List.mem_append_left _ hy)⟩)
                      clear e1
                      go_wp2
                      apply wp_region_mm M 13 (by kernel_rfl) (by kernel_rfl); (simp only [List.take_succ_cons, List.take_zero]; repeat (first | exact wpText_nil | (apply wpText_cons; (intro w2 M; have C := M.ruleAll; simp only [Go.Proofs.Yteonahoboligdaa.ruleAll] at C; go_wp2; exact ⟨rfl, rfl, M⟩); rfl))); (clear M; (try clear C); intro w2 M; simp only [List.drop_succ_cons, List.drop_zero]; have C := M.ruleAll; simp only [Go.Proofs.Yteonahoboligdaa.ruleAll] at C)
                      go_wp2
                      go_roundw
                      case rel => exact ⟨j + 1, false, by omega, rfl, by go_num, HN, M⟩
                      case measure => simp [intOf]; omega
                    | true =>
                      have HN := Hid2.mk (show (decide (x ∈ mL u) = true ↔ ∀ y ∈ (mL s).take (j + 1), y ∈ mL u) by
                        rw [decide_eq_true_iff, HTK.out]
                        constructor
                        · intro h y hy
                          rcases List.mem_append.1 hy with h2 | h2
                          · exact HI.out.1 rfl y h2
                          · rw [List.mem_singleton.1 h2]; exact h
                        · exact fun h => h x (List.mem_append_right _ (List.mem_singleton.2 rfl)))
                      have CX := Hid2.mk (fun w1 (hb : Below wS.heap.size wS w1) => show w1.cell? ⟨gi, j, none⟩ = some (.int .i64 (x : Int)) from by rw [(RI.out w1 hb).at_ j hjl, i64F_at e1])
                      clear e1
                      go_wp2
                      clear hd1
                      apply wp_region_mm M 13 (by kernel_rfl) (by kernel_rfl)
                      · simp only [List.take_succ_cons, List.take_zero]
                        repeat (first | exact wpText_nil | (apply wpText_cons; (intro w2 M; have hd1 := CI.out _ M.below; have hd2 := CL.out _ M.below; have hd3 := CX.out _ M.below; go_wp2; exact ⟨rfl, rfl, M⟩); rfl))
                      clear M
                      intro w2 M
                      simp only [List.drop_succ_cons, List.drop_zero]
                      have HHS := Hid2.mk (l01Has_any (mL u) (by omega) x (by omega) w2 gl cl (RL.out _ M.below))
                      generalize decide (x ∈ mL u) = r at HN HHS
                      go_wp2_with (first | (go_at_call 45; fail))
                      refine HHS.out.mono ?_
                      rintro e w3 ⟨rfl, hb⟩
                      have M9 := M.later hb
                      clear M; (try clear C)
                      clear hb HHS
                      have M := M9
                      clear M9
                      go_wp2
                      go_roundw
                      case rel => exact ⟨j + 1, r, by omega, rfl, by go_num, HN, M⟩
                      case measure => simp [intOf]; omega
                  · obtain rfl : j = (mL s).length := by omega
                    have hge : ¬ (((mL s).length : Int) < ((mL s).length : Int)) := by omega
                    have HIS := Hid2.mk (show ib = true ↔ SubM s u by
                      rw [HI.out, List.take_length]
                      exact ⟨fun h i hi => (mL_mem hu).1 (h i ((mL_mem hs).2 hi)), fun h y hy => (mL_mem hu).2 (h y ((mL_mem hs).1 hy))⟩)
                    have HN := Hid2.mk (show ((gb && !ib) = true ↔ ∀ k' u, m < k' → k' < l + 1 → L[k']? = some u → ¬ SubM s u) by
                      rw [Bool.and_eq_true, HG.out]
                      constructor
                      · rintro ⟨h1, h2⟩ k' u' h3 h4 h5
                        by_cases e : k' = l
                        · subst e
                          rw [HU.out] at h5
                          cases h5
                          intro h6
                          rw [HIS.out.2 h6] at h2; cases h2
                        · exact h1 k' u' h3 (by omega) h5
                      · intro h
                        refine ⟨fun k' u' h3 h4 h5 => h k' u' h3 (by omega) h5, ?_⟩
                        have h6 := h l u (by omega) (by omega) HU.out
                        cases hib : ib with
                        | false => rfl
                        | true => exact absurd (HIS.out.1 hib) h6)
                    clear HI HIS
                    cases gb with
                    | false =>
                      go_wp2
                      go_roundw
                      case rel => exact ⟨l + 1, false, by omega, by omega, rfl, by go_num, HN, M⟩
                      case measure => simp [intOf]; omega
                    | true =>
                      cases ib with
                      | false =>
                        go_wp2
                        go_roundw
                        case rel => exact ⟨l + 1, true, by omega, by omega, rfl, by go_num, HN, M⟩
                        case measure => simp [intOf]; omega
                      | true =>
                        go_wp2
                        go_roundw
                        case rel => exact ⟨l + 1, false, by omega, by omega, rfl, by go_num, HN, M⟩
                        case measure => simp [intOf]; omega
              · have hge : ¬ ((l : Int) + 1 < (LL.length : Int)) := by omega
                have dge : decide ((l : Int) + 1 < (LL.length : Int)) = false := decide_eq_false hge
                have HGB := Hid2.mk (show gb = GT s by
                  rw [Bool.eq_iff_iff, HG.out, HGI.out]
                  exact ⟨fun h k' u h1 h2 h3 => h k' u h1 (by have := HLL.out; omega) h3, fun h k' u h1 h2 h3 => h k' u h1 (by have := HLL.out; omega) h3⟩)
                have HNX := Hid2.mk (show FR (m + 1) = if gb = true then o &&& s else o by rw [HGB.out]; exact HFN.out)
                clear HG HGI HFN HGB
                go_wp2
                have M8 := M.eq (show _ = [Ent.box b8 (bls fun y => s.testBit y) 56, .box b5 (bls (mkF gb o s 0)) 56, .box bq (sqs (k : Int) t) 30] by rw [mkF_start])
                clear M; (try clear C)
                clear dge
                go_loopw [13] (fun x wr => ∃ y : Nat, y ≤ 10 ∧ x = .int .i64 (y : Int) ∧ Mm no wS wr [.box b8 (bls fun y => s.testBit y) 56, .box b5 (bls (mkF gb o s y)) 56, .box bq (sqs (k : Int) t) 30]) (fun x _ => 10 - (intOf x).toNat)
                case atStart => exact ⟨0, by omega, rfl, M8⟩
                case round =>
                  clear M8
                  obtain ⟨y, hy, rfl, M9⟩ := hrel
                  have M := M9
                  clear M9
                  have C := M.ruleAll; simp only [Go.Proofs.Yteonahoboligdaa.ruleAll] at C
                  cases gb with
                  | false =>
                    have HNX2 := Hid2.mk (HNX.out.trans (if_neg (by decide)))
                    have HME := Hid2.mk (show mkF false o s y = fun z => o.testBit z by funext z; unfold mkF; rw [if_neg (by decide)])
                    by_cases hy10 : y < 10
                    · have hy10' : (y : Int) < 10 := by omega
                      go_wp2
                      go_roundw
                      case rel => exact ⟨m + 1, by omega, by go_num, (M.sub [1, 2] (by decide)).eq (by rw [HNX2.out, ← HME.out]; rfl)⟩
                      case measure => simp [intOf]; omega
                    · obtain rfl : y = 10 := by omega
                      go_wp2
                      go_roundw
                      case rel => exact ⟨m + 1, by omega, by go_num, (M.sub [1, 2] (by decide)).eq (by rw [HNX2.out, ← HME.out]; rfl)⟩
                      case measure => simp [intOf]; omega
                  | true =>
                    by_cases hy10 : y < 10
                    · have hy10' : (y : Int) < 10 := by omega
                      have q1 := bls_get (f := mkF true o s y) hy10
                      have q2 := bls_get (f := fun y => s.testBit y) hy10
                      have hmv : mkF true o s y y = o.testBit y := by unfold mkF; rw [if_pos rfl, decide_eq_true (Nat.le_refl y)]; simp
                      rw [hmv] at q1
                      have HS := Hid2.mk (mkF_set (o := o) (s := s) (x := y))
                      generalize o.testBit y = b1 at q1 HS
                      generalize s.testBit y = b2 at q2 HS
                      clear hmv
                      cases b1 with
                      | false =>
                        have HS2 := Hid2.mk (show (bls (mkF true o s y)).setIfInBounds y (.bool false) = bls (mkF true o s (y + 1)) from HS.out)
                        clear HS
                        go_wp2_with (first | ((with_reducible apply wpM_st' M 1 4 (y) (bls (mkF true o s (y + 1)))); rfl; rfl; rfl; (first | exact .inl (by assumption) | exact .inr rfl | exact .inr (by assumption)); exact ⟨rfl, rfl, by kernel_rfl⟩; (exact Nat.lt_of_lt_of_eq (by omega) (bls_size _).symm); exact HS2.out; clear M; (try clear C); intro w9 M; simp only [List.set_cons_zero, List.set_cons_succ, entBlk, entT, List.getElem?_cons_zero, List.getElem?_cons_succ] at M; have C := M.ruleAll; simp only [Go.Proofs.Yteonahoboligdaa.ruleAll] at C))
                        go_roundw
                        case rel => exact ⟨y + 1, by omega, by go_num, M⟩
                        case measure => simp [intOf]; omega
                      | true =>
                        have HS2 := Hid2.mk (show (bls (mkF true o s y)).setIfInBounds y (.bool b2) = bls (mkF true o s (y + 1)) from HS.out)
                        clear HS
                        go_wp2_with (first | ((with_reducible apply wpM_st' M 1 4 (y) (bls (mkF true o s (y + 1)))); rfl; rfl; rfl; (first | exact .inl (by assumption) | exact .inr rfl | exact .inr (by assumption)); exact ⟨rfl, rfl, by kernel_rfl⟩; (exact Nat.lt_of_lt_of_eq (by omega) (bls_size _).symm); exact HS2.out; clear M; (try clear C); intro w9 M; simp only [List.set_cons_zero, List.set_cons_succ, entBlk, entT, List.getElem?_cons_zero, List.getElem?_cons_succ] at M; have C := M.ruleAll; simp only [Go.Proofs.Yteonahoboligdaa.ruleAll] at C))
                        go_roundw
                        case rel => exact ⟨y + 1, by omega, by go_num, M⟩
                        case measure => simp [intOf]; omega
                    · obtain rfl : y = 10 := by omega
                      have HNX2 := Hid2.mk (HNX.out.trans (if_pos rfl))
                      have HME := Hid2.mk (mkF_end o s)
                      go_wp2
                      go_roundw
                      case rel => exact ⟨m + 1, by omega, by go_num, (M.sub [1, 2] (by decide)).eq (by rw [HNX2.out, ← HME.out]; rfl)⟩
                      case measure => simp [intOf]; omega
          · have hge : ¬ ((m : Int) + 1 < (LL.length : Int)) := by omega
            have HE := Hid2.mk (show FR m = fm by rw [HFA.out]; congr 1; omega)
            have HTD1 := Hid2.mk (HTD.out fm)
            go_wp2_with (first | ((with_reducible apply wpM_lda' M 0 56 0 (bls fun y => (FR m).testBit y)); rfl; rfl; rfl; exact ⟨rfl, inf_b10.trans (congrArg some (bls_size ..).symm), _, und_b10, rfl⟩; exact whole_of rfl) | (go_at_call 46; fail))
            rw [HE.out]
            refine (HTD1.out _).mono ?_
            rintro e w5 ⟨v, rfl, M'⟩
            have M9 := M.joinRow M'
            obtain ⟨pp, cc, rfl⟩ := own_form (M9.row 0 rfl)
            have MF := (HMW.out.onto M).joinRow M'
            clear M; (try clear C)
            clear M9 M'
            have HMF := Hid2.mk MF
            clear MF
            go_wp2
            go_ret2
            exact ⟨_, rfl, by rw [List.length_map]; exact HMF.out.sub [0] (by decide)⟩
end Go.Proofs.Yteonahoboligdaa
