/- The texts of a square: contracts. Printed by gen/h3.py. -/
import Derived.Test.YtinjjaoikofkdaaH1
namespace Go.Proofs.Ytinjjaoikofkdaa
set_option linter.unusedSimpArgs false
set_option linter.unusedVariables false
open Go Go.RowKit

set_option maxRecDepth 100000 in
set_option maxHeartbeats 4000000 in
theorem squareText_any (n : Nat) (t : Nat → Nat → Nat) (hn1 : 1 ≤ n) (hn : n ≤ 10) (ht : ∀ x y, x < n → y < n → t x y < 10) (w : World) :
    Calls Try.prog 76 #[.agg (sqs (n : Int) t)] w fun e w' => e = .returned (.string (str (sqT n t n))) ∧ Below w.heap.size w w' := by
  have M := Mm.start no w
  have so := sqs_order (n : Int) t
  have hn' : (n : Int) ≤ 10 := by omega
  have HLEN := Hid2.mk (show ∀ k, k ≤ 10 → (sqT n t k).length ≤ 110 from fun k hk => Nat.le_trans (sqT_len n t k) (Nat.mul_le_mul hk (show n + 1 ≤ 11 by omega)))
  have HBY := Hid2.mk (sqT_byt ht n (Nat.le_refl n))
  have HPOS := Hid2.mk (sqT_pos t hn1)
  have HT := Hid2.mk ht
  have HS := Hid2.mk (show ∀ k, sqT n t (k + 1) = sqT n t k ++ (if k = 0 then [] else [47]) ++ rwT t k n from fun _ => rfl)
  have H0 := Hid2.mk (show sqT n t 0 = [] from rfl)
  have HR := Hid2.mk (show ∀ k l, rwT t k (l + 1) = rwT t k l ++ [48 + t k l] from fun _ _ => rfl)
  have HRL := Hid2.mk (fun k l => rwT_len t k l)
  have HR0 := Hid2.mk (show ∀ k, rwT t k 0 = [] from fun _ => rfl)
  clear ht
  go_enter Try.func76, Try.ntmps76
  go_wp2_with (first | ((with_reducible apply wpM_box' M 43 (sqs (n : Int) t)); rfl; exact ⟨rfl, rfl⟩; clear M; (try clear C); intro bq w9 h_bq M; have C := M.ruleAll; simp only [Go.Proofs.Ytinjjaoikofkdaa.ruleAll] at C) | (((with_reducible apply wpM_bsl' M 103 0 5 ([]) (#[])); rfl; rfl; rfl; exact bsl_H0; clear M; (try clear C); intro bs w9 h_bs M; have C := M.ruleAll; simp only [Go.Proofs.Ytinjjaoikofkdaa.ruleAll] at C); have M9 := M.asRow 0 rfl w.heap.size 0 1 h_bs rfl (Nat.zero_le _); simp only [List.set_cons_zero] at M9; clear M; (try clear C); have M := M9; clear M9; have C := M.ruleAll; simp only [Go.Proofs.Ytinjjaoikofkdaa.ruleAll] at C) | ((with_reducible apply wpM_lda' M 1 43 0 (sqs (n : Int) t)); rfl; rfl; rfl; exact ⟨rfl, inf_sqs.trans (congrArg some (sqs_size ..).symm), _, und_sqs, rfl⟩; exact whole_of rfl) | (go_at_call 88; ((with_reducible refine (elements_any _ _ _ (by omega) (by omega)).mono ?_); rintro e w1 ⟨g1, cap_g1, rfl, hb, hg, hr⟩; have hsz := M.size; have M9 := M.gain hb (x := .rd g1 n (fun j => .int .u8 (j : Int))) hr (fun b h => by cases h; exact hg); clear M; (try clear C); have M := M9; clear M9; (try simp only [List.set_cons_zero, List.set_cons_succ] at M); have C := M.ruleAll; simp only [Go.Proofs.Ytinjjaoikofkdaa.ruleAll] at C; clear hb hg hr)))
  go_loopw [3, 12, 5, 24, 7] (fun o i _ _ _ wr => ∃ (k : Nat) (pp : Option Addr) (cap : Nat), k ≤ n ∧ i = .int .i64 (k : Int) ∧ o = .slice pp (sqT n t k).length cap ∧ Mm no w wr [.rd g1 n (fun j => .int .u8 (j : Int)), .row w.heap.size (.slice pp (sqT n t k).length cap) ((sqT n t k).length) (u8H (sqT n t k)) 5 1, .box bq (sqs (n : Int) t) 43]) (fun _ i _ _ _ _ => n - (intOf i).toNat)
  case atStart => exact ⟨0, some ⟨bs, 0, none⟩, 0, by omega, rfl, by rw [H0.out]; rfl, M.eq (by rw [H0.out]; rfl)⟩
  case round =>
    obtain ⟨k, pp, cap, hk, rfl, rfl, M9⟩ := hrel
    clear M; (try clear C)
    have M := M9
    clear M9
    by_cases hlt : k < n
    · have hlt' : (k : Int) < (n : Int) := by omega
      have hk10 : (k : Int) < 10 := by omega
      have hk10' : k < 10 := by omega
      have dlt : decide ((k : Int) < (n : Int)) = true := decide_eq_true hlt'
      have hlen := HLEN.out k (by omega)
      have HS0 := HS.out k
      generalize sqT n t k = A at *
      by_cases hk0 : k = 0
      · have HS1 := Hid2.mk (show sqT n t (k + 1) = A ++ rwT t k n by rw [HS0, if_pos hk0, List.append_nil])
        have hk0' : ¬ (0 : Int) < (k : Int) := by omega
        have dk0 : decide ((0 : Int) < (k : Int)) = false := decide_eq_false hk0'
        clear HS0 hk0
        have C := M.ruleAll; simp only [Go.Proofs.Ytinjjaoikofkdaa.ruleAll] at C
        go_wp2_with (first | ((with_reducible apply wpM_lda' M 2 43 0 (sqs (n : Int) t)); rfl; rfl; rfl; exact ⟨rfl, inf_sqs.trans (congrArg some (sqs_size ..).symm), _, und_sqs, rfl⟩; exact whole_of rfl) | (go_at_call 88; ((with_reducible refine (elements_any _ _ _ (by omega) (by omega)).mono ?_); rintro e w1 ⟨g2, cap_g2, rfl, hb, hg, hr⟩; have hsz := M.size; have M9 := M.gain hb (x := .rd g2 n (fun j => .int .u8 (j : Int))) hr (fun b h => by cases h; exact hg); clear M; (try clear C); have M := M9; clear M9; (try simp only [List.set_cons_zero, List.set_cons_succ] at M); have C := M.ruleAll; simp only [Go.Proofs.Ytinjjaoikofkdaa.ruleAll] at C; clear hb hg hr)))
        clear dlt dk0
        obtain ⟨Q, HQ⟩ : ∃ Q, Hid2 (Q = A) := ⟨A, Hid2.mk rfl⟩
        have HQL := Hid2.mk (show Q.length = A.length by rw [HQ.out])
        rw [← HQ.out] at HS1
        have hql : Q.length ≤ 112 := by rw [HQL.out]; omega
        go_loopw [3, 24, 7] (fun o i _ wr => ∃ (l : Nat) (pp : Option Addr) (cap : Nat), l ≤ n ∧ i = .int .i64 (l : Int) ∧ o = .slice pp (Q.length + l) cap ∧ Mm no w wr [.rd g2 n (fun j => .int .u8 (j : Int)), .rd g1 n (fun j => .int .u8 (j : Int)), .row w.heap.size (.slice pp (Q.length + l) cap) (Q.length + l) (u8H (Q ++ rwT t k l)) 5 1, .box bq (sqs (n : Int) t) 43]) (fun _ i _ _ => n - (intOf i).toNat)
        case atStart => exact ⟨0, pp, cap, by omega, rfl, by rw [HQL.out] <;> rfl, M.eq (by rw [HQL.out, HQ.out, HR0.out, List.append_nil]; rfl)⟩
        case round =>
          obtain ⟨l, pp, cap, hl, rfl, rfl, M9⟩ := hrel
          clear M; (try clear C)
          have M := M9
          clear M9
          by_cases hlt2 : l < n
          · have hlt2' : (l : Int) < (n : Int) := by omega
            have hl10 : (l : Int) < 10 := by omega
            have hl10' : l < 10 := by omega
            have c1 := sqs_get (n := (n : Int)) (t := t) hk10' hl10'
            have hz := HT.out k l hlt hlt2
            have HR1 := Hid2.mk (HR.out k l)
            generalize t k l = z at c1 hz HR1
            generalize rwT t k l = U at *
            have hz' : (z : Int) < 10 := by omega
            have C := M.ruleAll; simp only [Go.Proofs.Ytinjjaoikofkdaa.ruleAll] at C
            go_wp2_with (first | ((with_reducible apply wpM_bsl' M 103 1 5 ([(0, .int .u8 (48 + (z : Int)))]) (#[.int .u8 (48 + (z : Int))])); rfl; rfl; rfl; exact bsl_H1 _; clear M; (try clear C); intro bi w9 h_bi M; have C := M.ruleAll; simp only [Go.Proofs.Ytinjjaoikofkdaa.ruleAll] at C) | ((with_reducible apply wpM_app' M 103 3 0 (w.heap.size) (.slice pp (Q.length + l) cap) (Q.length + l) (u8H (Q ++ U)) 5 1 1); rfl; rfl; rfl; rfl; rfl; rfl; rfl; (first | exact .inl (Nat.le_refl _) | exact .inl (by assumption) | exact .inr (by assumption) | exact .inr HDv.out); (first | exact M.size | (have hq := M.size; omega)); exact und_slH; exact inf_elH; rfl; decide; decide; rfl; exact rfl; exact flat_H1 _; omega; clear M; (try clear C); intro v2 w9 far_v2 M; simp only [List.set_cons_zero, List.set_cons_succ, entBlk, entT, List.getElem?_cons_zero, List.getElem?_cons_succ] at M; obtain ⟨pp_v2, cap_v2, rfl⟩ := own_form (M.row 3 rfl); have C := M.ruleAll; simp only [Go.Proofs.Ytinjjaoikofkdaa.ruleAll] at C))
            go_roundw
            case rel => exact ⟨l + 1, pp_v2, cap_v2, by omega, by go_num, rfl, (M.drop 0).eq (by rw [HR1.out, ← List.append_assoc, u8H_app, Int.natCast_add]; rfl)⟩
            case measure => simp [intOf]; omega
          · obtain rfl : l = n := by omega
            have hge : ¬ ((l : Int) < (l : Int)) := by omega
            have C := M.ruleAll; simp only [Go.Proofs.Ytinjjaoikofkdaa.ruleAll] at C
            go_wp2
            go_roundw
            case rel => exact ⟨k + 1, pp, cap, by omega, by go_num, by rw [HS1.out, List.length_append, HRL.out], (M.drop 0).eq (by rw [HS1.out, List.length_append, HRL.out] <;> rfl)⟩
            case measure => simp [intOf]; omega

      · have HS1 := Hid2.mk (show sqT n t (k + 1) = (A ++ [47]) ++ rwT t k n by rw [HS0, if_neg hk0])
        have hk0' : (0 : Int) < (k : Int) := by omega
        have dk0 : decide ((0 : Int) < (k : Int)) = true := decide_eq_true hk0'
        clear HS0 hk0
        have C := M.ruleAll; simp only [Go.Proofs.Ytinjjaoikofkdaa.ruleAll] at C
        go_wp2_with (first | ((with_reducible apply wpM_bsl' M 103 1 5 ([(0, .int .u8 47)]) (#[.int .u8 47])); rfl; rfl; rfl; exact bsl_H1 _; clear M; (try clear C); intro bi w9 h_bi M; have C := M.ruleAll; simp only [Go.Proofs.Ytinjjaoikofkdaa.ruleAll] at C) | ((with_reducible apply wpM_app' M 103 2 0 (w.heap.size) (.slice pp A.length cap) (A.length) (u8H A) 5 1 1); rfl; rfl; rfl; rfl; rfl; rfl; rfl; (first | exact .inl (Nat.le_refl _) | exact .inl (by assumption) | exact .inr (by assumption) | exact .inr HDv.out); (first | exact M.size | (have hq := M.size; omega)); exact und_slH; exact inf_elH; rfl; decide; decide; rfl; exact rfl; exact flat_H1 _; omega; clear M; (try clear C); intro v1 w9 far_v1 M; simp only [List.set_cons_zero, List.set_cons_succ, entBlk, entT, List.getElem?_cons_zero, List.getElem?_cons_succ] at M; obtain ⟨pp_v1, cap_v1, rfl⟩ := own_form (M.row 2 rfl); have C := M.ruleAll; simp only [Go.Proofs.Ytinjjaoikofkdaa.ruleAll] at C) | ((with_reducible apply wpM_lda' M 3 43 0 (sqs (n : Int) t)); rfl; rfl; rfl; exact ⟨rfl, inf_sqs.trans (congrArg some (sqs_size ..).symm), _, und_sqs, rfl⟩; exact whole_of rfl) | (go_at_call 88; ((with_reducible refine (elements_any _ _ _ (by omega) (by omega)).mono ?_); rintro e w1 ⟨g2, cap_g2, rfl, hb, hg, hr⟩; have hsz := M.size; have M9 := M.gain hb (x := .rd g2 n (fun j => .int .u8 (j : Int))) hr (fun b h => by cases h; exact hg); clear M; (try clear C); have M := M9; clear M9; (try simp only [List.set_cons_zero, List.set_cons_succ] at M); have C := M.ruleAll; simp only [Go.Proofs.Ytinjjaoikofkdaa.ruleAll] at C; clear hb hg hr)))
        clear dlt dk0
        obtain ⟨Q, HQ⟩ : ∃ Q, Hid2 (Q = A ++ [47]) := ⟨_, Hid2.mk rfl⟩
        have HQL := Hid2.mk (show Q.length = A.length + 1 by rw [HQ.out, List.length_append, List.length_singleton])
        rw [← HQ.out] at HS1
        have hql : Q.length ≤ 112 := by rw [HQL.out]; omega
        go_loopw [3, 24, 7] (fun o i _ wr => ∃ (l : Nat) (pp : Option Addr) (cap : Nat), l ≤ n ∧ i = .int .i64 (l : Int) ∧ o = .slice pp (Q.length + l) cap ∧ Mm no w wr [.rd g2 n (fun j => .int .u8 (j : Int)), .rd g1 n (fun j => .int .u8 (j : Int)), .row w.heap.size (.slice pp (Q.length + l) cap) (Q.length + l) (u8H (Q ++ rwT t k l)) 5 1, .box bq (sqs (n : Int) t) 43]) (fun _ i _ _ => n - (intOf i).toNat)
        case atStart => exact ⟨0, pp_v1, cap_v1, by omega, rfl, by rw [HQL.out] <;> rfl, (M.sub [0, 2, 3, 4] (by decide)).eq (by rw [HQL.out, HQ.out, HR0.out, List.append_nil, u8H_app]; rfl)⟩
        case round =>
          obtain ⟨l, pp, cap, hl, rfl, rfl, M9⟩ := hrel
          clear M; (try clear C)
          have M := M9
          clear M9
          by_cases hlt2 : l < n
          · have hlt2' : (l : Int) < (n : Int) := by omega
            have hl10 : (l : Int) < 10 := by omega
            have hl10' : l < 10 := by omega
            have c1 := sqs_get (n := (n : Int)) (t := t) hk10' hl10'
            have hz := HT.out k l hlt hlt2
            have HR1 := Hid2.mk (HR.out k l)
            generalize t k l = z at c1 hz HR1
            generalize rwT t k l = U at *
            have hz' : (z : Int) < 10 := by omega
            have C := M.ruleAll; simp only [Go.Proofs.Ytinjjaoikofkdaa.ruleAll] at C
            go_wp2_with (first | ((with_reducible apply wpM_bsl' M 103 1 5 ([(0, .int .u8 (48 + (z : Int)))]) (#[.int .u8 (48 + (z : Int))])); rfl; rfl; rfl; exact bsl_H1 _; clear M; (try clear C); intro bi w9 h_bi M; have C := M.ruleAll; simp only [Go.Proofs.Ytinjjaoikofkdaa.ruleAll] at C) | ((with_reducible apply wpM_app' M 103 3 0 (w.heap.size) (.slice pp (Q.length + l) cap) (Q.length + l) (u8H (Q ++ U)) 5 1 1); rfl; rfl; rfl; rfl; rfl; rfl; rfl; (first | exact .inl (Nat.le_refl _) | exact .inl (by assumption) | exact .inr (by assumption) | exact .inr HDv.out); (first | exact M.size | (have hq := M.size; omega)); exact und_slH; exact inf_elH; rfl; decide; decide; rfl; exact rfl; exact flat_H1 _; omega; clear M; (try clear C); intro v2 w9 far_v2 M; simp only [List.set_cons_zero, List.set_cons_succ, entBlk, entT, List.getElem?_cons_zero, List.getElem?_cons_succ] at M; obtain ⟨pp_v2, cap_v2, rfl⟩ := own_form (M.row 3 rfl); have C := M.ruleAll; simp only [Go.Proofs.Ytinjjaoikofkdaa.ruleAll] at C))
            go_roundw
            case rel => exact ⟨l + 1, pp_v2, cap_v2, by omega, by go_num, rfl, (M.drop 0).eq (by rw [HR1.out, ← List.append_assoc, u8H_app, Int.natCast_add]; rfl)⟩
            case measure => simp [intOf]; omega
          · obtain rfl : l = n := by omega
            have hge : ¬ ((l : Int) < (l : Int)) := by omega
            have C := M.ruleAll; simp only [Go.Proofs.Ytinjjaoikofkdaa.ruleAll] at C
            go_wp2
            go_roundw
            case rel => exact ⟨k + 1, pp, cap, by omega, by go_num, by rw [HS1.out, List.length_append, HRL.out], (M.drop 0).eq (by rw [HS1.out, List.length_append, HRL.out] <;> rfl)⟩
            case measure => simp [intOf]; omega

    · obtain rfl : k = n := by omega
      have hge : ¬ ((k : Int) < (k : Int)) := by omega
      obtain ⟨g, cc, e, hB, _, _⟩ := own_rds (M.row 1 rfl) (by have := HPOS.out; omega)
      cases e
      have HV := conv_row HBY.out (M.row 1 rfl)
      obtain ⟨A, hA⟩ : ∃ A, A = sqT k t k := ⟨_, rfl⟩
      rw [← hA] at HV M ⊢
      have HA := Hid2.mk hA
      clear hA
      have C := M.ruleAll; simp only [Go.Proofs.Ytinjjaoikofkdaa.ruleAll] at C
      go_wp2
      go_ret
      exact ⟨by rw [← HA.out]; rfl, M.below⟩

set_option maxRecDepth 100000 in
set_option maxHeartbeats 4000000 in
theorem l01Text_any (n : Nat) (t : Nat → Nat → Nat) (hn1 : 1 ≤ n) (hn : n ≤ 10) (ht : ∀ x y, x < n → y < n → t x y < 10) (w : World) :
    Calls Try.prog 75 #[.agg (sqs (n : Int) t)] w fun e w' => e = .returned (.string (str (sqT n t n))) ∧ Below w.heap.size w w' := by
  have M := Mm.start no w
  have so := sqs_order (n : Int) t
  have hn' : (n : Int) ≤ 10 := by omega
  have HLEN := Hid2.mk (show ∀ k, k ≤ 10 → (sqT n t k).length ≤ 110 from fun k hk => Nat.le_trans (sqT_len n t k) (Nat.mul_le_mul hk (show n + 1 ≤ 11 by omega)))
  have HBY := Hid2.mk (sqT_byt ht n (Nat.le_refl n))
  have HPOS := Hid2.mk (sqT_pos t hn1)
  have HT := Hid2.mk ht
  have HS := Hid2.mk (show ∀ k, sqT n t (k + 1) = sqT n t k ++ (if k = 0 then [] else [47]) ++ rwT t k n from fun _ => rfl)
  have H0 := Hid2.mk (show sqT n t 0 = [] from rfl)
  have HR := Hid2.mk (show ∀ k l, rwT t k (l + 1) = rwT t k l ++ [48 + t k l] from fun _ _ => rfl)
  have HRL := Hid2.mk (fun k l => rwT_len t k l)
  have HR0 := Hid2.mk (show ∀ k, rwT t k 0 = [] from fun _ => rfl)
  clear ht
  go_enter Try.func75, Try.ntmps75
  go_wp2_with (first | ((with_reducible apply wpM_box' M 43 (sqs (n : Int) t)); rfl; exact ⟨rfl, rfl⟩; clear M; (try clear C); intro bq w9 h_bq M; have C := M.ruleAll; simp only [Go.Proofs.Ytinjjaoikofkdaa.ruleAll] at C) | (((with_reducible apply wpM_bsl' M 103 0 5 ([]) (#[])); rfl; rfl; rfl; exact bsl_H0; clear M; (try clear C); intro bs w9 h_bs M; have C := M.ruleAll; simp only [Go.Proofs.Ytinjjaoikofkdaa.ruleAll] at C); have M9 := M.asRow 0 rfl w.heap.size 0 1 h_bs rfl (Nat.zero_le _); simp only [List.set_cons_zero] at M9; clear M; (try clear C); have M := M9; clear M9; have C := M.ruleAll; simp only [Go.Proofs.Ytinjjaoikofkdaa.ruleAll] at C))
  go_loopw [3, 4, 5] (fun o i _ wr => ∃ (k : Nat) (pp : Option Addr) (cap : Nat), k ≤ n ∧ i = .int .i64 (k : Int) ∧ o = .slice pp (sqT n t k).length cap ∧ Mm no w wr [.row w.heap.size (.slice pp (sqT n t k).length cap) ((sqT n t k).length) (u8H (sqT n t k)) 5 1, .box bq (sqs (n : Int) t) 43]) (fun _ i _ _ => n - (intOf i).toNat)
  case atStart => exact ⟨0, some ⟨bs, 0, none⟩, 0, by omega, rfl, by rw [H0.out]; rfl, M.eq (by rw [H0.out]; rfl)⟩
  case round =>
    obtain ⟨k, pp, cap, hk, rfl, rfl, M9⟩ := hrel
    clear M; (try clear C)
    have M := M9
    clear M9
    by_cases hlt : k < n
    · have hlt' : (k : Int) < (n : Int) := by omega
      have hk10 : (k : Int) < 10 := by omega
      have hk10' : k < 10 := by omega
      have dlt : decide ((k : Int) < (n : Int)) = true := decide_eq_true hlt'
      have hlen := HLEN.out k (by omega)
      have HS0 := HS.out k
      generalize sqT n t k = A at *
      by_cases hk0 : k = 0
      · have HS1 := Hid2.mk (show sqT n t (k + 1) = A ++ rwT t k n by rw [HS0, if_pos hk0, List.append_nil])
        have hk0' : ¬ (0 : Int) < (k : Int) := by omega
        have dk0 : decide ((0 : Int) < (k : Int)) = false := decide_eq_false hk0'
        clear HS0 hk0
        have C := M.ruleAll; simp only [Go.Proofs.Ytinjjaoikofkdaa.ruleAll] at C
        go_wp2
        clear dlt dk0
        obtain ⟨Q, HQ⟩ : ∃ Q, Hid2 (Q = A) := ⟨A, Hid2.mk rfl⟩
        have HQL := Hid2.mk (show Q.length = A.length by rw [HQ.out])
        rw [← HQ.out] at HS1
        have hql : Q.length ≤ 112 := by rw [HQL.out]; omega
        go_loopw [3, 5] (fun o i wr => ∃ (l : Nat) (pp : Option Addr) (cap : Nat), l ≤ n ∧ i = .int .i64 (l : Int) ∧ o = .slice pp (Q.length + l) cap ∧ Mm no w wr [.row w.heap.size (.slice pp (Q.length + l) cap) (Q.length + l) (u8H (Q ++ rwT t k l)) 5 1, .box bq (sqs (n : Int) t) 43]) (fun _ i _ => n - (intOf i).toNat)
        case atStart => exact ⟨0, pp, cap, by omega, rfl, by rw [HQL.out] <;> rfl, M.eq (by rw [HQL.out, HQ.out, HR0.out, List.append_nil]; rfl)⟩
        case round =>
          obtain ⟨l, pp, cap, hl, rfl, rfl, M9⟩ := hrel
          clear M; (try clear C)
          have M := M9
          clear M9
          by_cases hlt2 : l < n
          · have hlt2' : (l : Int) < (n : Int) := by omega
            have hl10 : (l : Int) < 10 := by omega
            have hl10' : l < 10 := by omega
            have c1 := sqs_get (n := (n : Int)) (t := t) hk10' hl10'
            have hz := HT.out k l hlt hlt2
            have HR1 := Hid2.mk (HR.out k l)
            generalize t k l = z at c1 hz HR1
            generalize rwT t k l = U at *
            have hz' : (z : Int) < 10 := by omega
            have C := M.ruleAll; simp only [Go.Proofs.Ytinjjaoikofkdaa.ruleAll] at C
            go_wp2_with (first | ((with_reducible apply wpM_bsl' M 103 1 5 ([(0, .int .u8 (48 + (z : Int)))]) (#[.int .u8 (48 + (z : Int))])); rfl; rfl; rfl; exact bsl_H1 _; clear M; (try clear C); intro bi w9 h_bi M; have C := M.ruleAll; simp only [Go.Proofs.Ytinjjaoikofkdaa.ruleAll] at C) | ((with_reducible apply wpM_app' M 103 1 0 (w.heap.size) (.slice pp (Q.length + l) cap) (Q.length + l) (u8H (Q ++ U)) 5 1 1); rfl; rfl; rfl; rfl; rfl; rfl; rfl; (first | exact .inl (Nat.le_refl _) | exact .inl (by assumption) | exact .inr (by assumption) | exact .inr HDv.out); (first | exact M.size | (have hq := M.size; omega)); exact und_slH; exact inf_elH; rfl; decide; decide; rfl; exact rfl; exact flat_H1 _; omega; clear M; (try clear C); intro v2 w9 far_v2 M; simp only [List.set_cons_zero, List.set_cons_succ, entBlk, entT, List.getElem?_cons_zero, List.getElem?_cons_succ] at M; obtain ⟨pp_v2, cap_v2, rfl⟩ := own_form (M.row 1 rfl); have C := M.ruleAll; simp only [Go.Proofs.Ytinjjaoikofkdaa.ruleAll] at C))
            go_roundw
            case rel => exact ⟨l + 1, pp_v2, cap_v2, by omega, by go_num, rfl, (M.drop 0).eq (by rw [HR1.out, ← List.append_assoc, u8H_app, Int.natCast_add]; rfl)⟩
            case measure => simp [intOf]; omega
          · obtain rfl : l = n := by omega
            have hge : ¬ ((l : Int) < (l : Int)) := by omega
            have C := M.ruleAll; simp only [Go.Proofs.Ytinjjaoikofkdaa.ruleAll] at C
            go_wp2
            go_roundw
            case rel => exact ⟨k + 1, pp, cap, by omega, by go_num, by rw [HS1.out, List.length_append, HRL.out], M.eq (by rw [HS1.out, List.length_append, HRL.out] <;> rfl)⟩
            case measure => simp [intOf]; omega

      · have HS1 := Hid2.mk (show sqT n t (k + 1) = (A ++ [47]) ++ rwT t k n by rw [HS0, if_neg hk0])
        have hk0' : (0 : Int) < (k : Int) := by omega
        have dk0 : decide ((0 : Int) < (k : Int)) = true := decide_eq_true hk0'
        clear HS0 hk0
        have C := M.ruleAll; simp only [Go.Proofs.Ytinjjaoikofkdaa.ruleAll] at C
        go_wp2_with (first | ((with_reducible apply wpM_bsl' M 103 1 5 ([(0, .int .u8 47)]) (#[.int .u8 47])); rfl; rfl; rfl; exact bsl_H1 _; clear M; (try clear C); intro bi w9 h_bi M; have C := M.ruleAll; simp only [Go.Proofs.Ytinjjaoikofkdaa.ruleAll] at C) | ((with_reducible apply wpM_app' M 103 1 0 (w.heap.size) (.slice pp A.length cap) (A.length) (u8H A) 5 1 1); rfl; rfl; rfl; rfl; rfl; rfl; rfl; (first | exact .inl (Nat.le_refl _) | exact .inl (by assumption) | exact .inr (by assumption) | exact .inr HDv.out); (first | exact M.size | (have hq := M.size; omega)); exact und_slH; exact inf_elH; rfl; decide; decide; rfl; exact rfl; exact flat_H1 _; omega; clear M; (try clear C); intro v1 w9 far_v1 M; simp only [List.set_cons_zero, List.set_cons_succ, entBlk, entT, List.getElem?_cons_zero, List.getElem?_cons_succ] at M; obtain ⟨pp_v1, cap_v1, rfl⟩ := own_form (M.row 1 rfl); have C := M.ruleAll; simp only [Go.Proofs.Ytinjjaoikofkdaa.ruleAll] at C))
        clear dlt dk0
        obtain ⟨Q, HQ⟩ : ∃ Q, Hid2 (Q = A ++ [47]) := ⟨_, Hid2.mk rfl⟩
        have HQL := Hid2.mk (show Q.length = A.length + 1 by rw [HQ.out, List.length_append, List.length_singleton])
        rw [← HQ.out] at HS1
        have hql : Q.length ≤ 112 := by rw [HQL.out]; omega
        go_loopw [3, 5] (fun o i wr => ∃ (l : Nat) (pp : Option Addr) (cap : Nat), l ≤ n ∧ i = .int .i64 (l : Int) ∧ o = .slice pp (Q.length + l) cap ∧ Mm no w wr [.row w.heap.size (.slice pp (Q.length + l) cap) (Q.length + l) (u8H (Q ++ rwT t k l)) 5 1, .box bq (sqs (n : Int) t) 43]) (fun _ i _ => n - (intOf i).toNat)
        case atStart => exact ⟨0, pp_v1, cap_v1, by omega, rfl, by rw [HQL.out] <;> rfl, (M.sub [1, 2] (by decide)).eq (by rw [HQL.out, HQ.out, HR0.out, List.append_nil, u8H_app]; rfl)⟩
        case round =>
          obtain ⟨l, pp, cap, hl, rfl, rfl, M9⟩ := hrel
          clear M; (try clear C)
          have M := M9
          clear M9
          by_cases hlt2 : l < n
          · have hlt2' : (l : Int) < (n : Int) := by omega
            have hl10 : (l : Int) < 10 := by omega
            have hl10' : l < 10 := by omega
            have c1 := sqs_get (n := (n : Int)) (t := t) hk10' hl10'
            have hz := HT.out k l hlt hlt2
            have HR1 := Hid2.mk (HR.out k l)
            generalize t k l = z at c1 hz HR1
            generalize rwT t k l = U at *
            have hz' : (z : Int) < 10 := by omega
            have C := M.ruleAll; simp only [Go.Proofs.Ytinjjaoikofkdaa.ruleAll] at C
            go_wp2_with (first | ((with_reducible apply wpM_bsl' M 103 1 5 ([(0, .int .u8 (48 + (z : Int)))]) (#[.int .u8 (48 + (z : Int))])); rfl; rfl; rfl; exact bsl_H1 _; clear M; (try clear C); intro bi w9 h_bi M; have C := M.ruleAll; simp only [Go.Proofs.Ytinjjaoikofkdaa.ruleAll] at C) | ((with_reducible apply wpM_app' M 103 1 0 (w.heap.size) (.slice pp (Q.length + l) cap) (Q.length + l) (u8H (Q ++ U)) 5 1 1); rfl; rfl; rfl; rfl; rfl; rfl; rfl; (first | exact .inl (Nat.le_refl _) | exact .inl (by assumption) | exact .inr (by assumption) | exact .inr HDv.out); (first | exact M.size | (have hq := M.size; omega)); exact und_slH; exact inf_elH; rfl; decide; decide; rfl; exact rfl; exact flat_H1 _; omega; clear M; (try clear C); intro v2 w9 far_v2 M; simp only [List.set_cons_zero, List.set_cons_succ, entBlk, entT, List.getElem?_cons_zero, List.getElem?_cons_succ] at M; obtain ⟨pp_v2, cap_v2, rfl⟩ := own_form (M.row 1 rfl); have C := M.ruleAll; simp only [Go.Proofs.Ytinjjaoikofkdaa.ruleAll] at C))
            go_roundw
            case rel => exact ⟨l + 1, pp_v2, cap_v2, by omega, by go_num, rfl, (M.drop 0).eq (by rw [HR1.out, ← List.append_assoc, u8H_app, Int.natCast_add]; rfl)⟩
            case measure => simp [intOf]; omega
          · obtain rfl : l = n := by omega
            have hge : ¬ ((l : Int) < (l : Int)) := by omega
            have C := M.ruleAll; simp only [Go.Proofs.Ytinjjaoikofkdaa.ruleAll] at C
            go_wp2
            go_roundw
            case rel => exact ⟨k + 1, pp, cap, by omega, by go_num, by rw [HS1.out, List.length_append, HRL.out], M.eq (by rw [HS1.out, List.length_append, HRL.out] <;> rfl)⟩
            case measure => simp [intOf]; omega

    · obtain rfl : k = n := by omega
      have hge : ¬ ((k : Int) < (k : Int)) := by omega
      obtain ⟨g, cc, e, hB, _, _⟩ := own_rds (M.row 0 rfl) (by have := HPOS.out; omega)
      cases e
      have HV := conv_row HBY.out (M.row 0 rfl)
      obtain ⟨A, hA⟩ : ∃ A, A = sqT k t k := ⟨_, rfl⟩
      rw [← hA] at HV M ⊢
      have HA := Hid2.mk hA
      clear hA
      have C := M.ruleAll; simp only [Go.Proofs.Ytinjjaoikofkdaa.ruleAll] at C
      go_wp2
      go_ret
      exact ⟨by rw [← HA.out]; rfl, M.below⟩
end Go.Proofs.Ytinjjaoikofkdaa
