/- The value of a term, for the reference: a contract. -/
import Derived.Test.YtpmemoabkbmljaaDoorC63
import Derived.Test.YtpmemoabkbmljaaDoorK20
namespace Go.Proofs.YtpmemoabkbmljaaDoor
set_option linter.unusedSimpArgs false
set_option linter.unusedVariables false
open Go Go.RowKit

/-- A stack of values, the last one first, as a row. -/
def stkV (s : List Nat) : List Value := s.reverse.map fun (v : Nat) => .int .u8 (v : Int)
theorem stkV_len (s : List Nat) : (stkV s).length = s.length := by simp [stkV]
theorem stkV_push (v : Nat) (s : List Nat) : stkV (v :: s) = stkV s ++ [.int .u8 (v : Int)] := by simp [stkV]
theorem stkV_at1 (c a : Nat) (r : List Nat) : (stkV (c :: a :: r))[r.length]? = some (.int .u8 (a : Int)) := by
  rw [stkV_push, stkV_push, List.append_assoc, List.getElem?_append_right (by rw [stkV_len]; exact Nat.le_refl _), stkV_len]; simp
theorem stkV_at2 (c a : Nat) (r : List Nat) : (stkV (c :: a :: r))[r.length + 1]? = some (.int .u8 (c : Int)) := by
  rw [stkV_push, stkV_push, List.append_assoc, List.getElem?_append_right (by rw [stkV_len]; omega), stkV_len]; simp
theorem stkV_cut (c a : Nat) (r : List Nat) : (stkV (c :: a :: r)).take r.length = stkV r := by
  rw [stkV_push, stkV_push, List.append_assoc, ← stkV_len r, List.take_left']
  rfl
theorem bsl_u80 (w : World) : (Instr.buildSlice 47 0 [].toArray).run Tryd.prog w = .ok (.slice (some ⟨w.heap.size, 0, none⟩) 0 0) (w.alloc (.cells #[] 5)) := by kernel_rfl
theorem bsl_u8 (i : Int) (w : World) : (Instr.buildSlice 47 1 [(0, Value.int .u8 i)].toArray).run Tryd.prog w = .ok (.slice (some ⟨w.heap.size, 0, none⟩) 1 1) (w.alloc (.cells #[.int .u8 i] 5)) := by kernel_rfl

set_option maxRecDepth 100000 in
set_option maxHeartbeats 4000000 in
theorem l03Value_any (n : Int) (t : Nat → Nat → Nat) (hs : IsSq n t) (x y z : Nat) (hx : (x : Int) < n) (hy : (y : Int) < n) (hz : (z : Int) < n) (xs : List Nat) (hT : isTm (elB xs) xs.length = true)
    (w : World) (p : Option Addr) (cap : Nat) (hr : rdq w p xs.length (bytF xs)) :
    Calls Tryd.prog 42 #[.agg (sqs n t), .slice p xs.length cap, .int .u8 (x : Int), .int .u8 (y : Int), .int .u8 (z : Int)] w fun e w' => e = .returned (.int .u8 (evB t x y z (elB xs) xs.length : Nat)) ∧ Below w.heap.size w w' := by
  have M := Mm.start no w
  have F1 := Hid2.mk (fun w1 (hb : Below w.heap.size w w1) => hr.later hb)
  have hn := hs.hi
  have h40 : xs.length ≤ 40 := (isTm_iff.1 hT).2
  have HTM := Hid2.mk hT
  have HAP := Hid2.mk (fun b a c hb ha hc w1 => l03Apply_any n t hs b a c hb ha hc w1)
  have HLT := Hid2.mk (fun k => evTo_lt hs hx hy hz (f := elB xs) k)
  have HLE := Hid2.mk (fun {k v} => @evTo_length t x y z (elB xs) k v)
  have HEV := Hid2.mk (evTo_succ t x y z (elB xs))
  have HE0 := Hid2.mk (show stkV (evTo t x y z (elB xs) 0) = [] from rfl)
  have HEB := Hid2.mk (show evB t x y z (elB xs) xs.length = (evTo t x y z (elB xs) xs.length).headD 0 from rfl)
  have hl0 : lfB x y z 101 = 0 := rfl
  have hl1 : lfB x y z 120 = x := rfl
  have hl2 : lfB x y z 121 = y := rfl
  have hl3 : lfB x y z 122 = z := rfl
  have HL := Hid2.mk (fun {b} h s => @evStep_leaf t x y z b h s)
  have HO := Hid2.mk (fun {b} h c a r => @evStep_op t x y z b h c a r)
  generalize evB t x y z (elB xs) xs.length = res at HEB ⊢
  generalize evTo t x y z (elB xs) = ev at HLT HLE HEV HE0 HEB
  generalize evStep t x y z = st at HEV HL HO
  generalize lfB x y z = lf at hl0 hl1 hl2 hl3 HL
  generalize apB t = ap at HAP HO
  clear hr hT hs hx hy hz
  go_enter Tryd.func42, Tryd.ntmps42
  go_wp2_with (first | ((with_reducible apply wpM_box' M 31 (sqs n t)); rfl; exact ⟨rfl, rfl⟩; clear M; (try clear C); intro bq w9 h_bq M; have C := M.ruleAll; simp only [Go.Proofs.YtpmemoabkbmljaaDoor.ruleAll] at C) | ((with_reducible apply wpM_bsl' M 47 0 5 ([]) (#[])); rfl; rfl; rfl; exact bsl_u80; clear M; (try clear C); intro bo w9 h_bo M; have C := M.ruleAll; simp only [Go.Proofs.YtpmemoabkbmljaaDoor.ruleAll] at C))
  have M9 := M.asRow 0 rfl w.heap.size 0 1 h_bo rfl (Nat.zero_le _)
  clear M; (try clear C)
  have M : Mm no w w9 [.row w.heap.size (.slice (some ⟨bo, 0, none⟩) 0 0) 0 [] 5 1, .box bq (sqs n t) 31] := M9
  clear M9
  have C := M.ruleAll; simp only [Go.Proofs.YtpmemoabkbmljaaDoor.ruleAll] at C
  go_wp2
  go_loopw [12, 11, 13, 14, 51, 57, 63, 69] (fun i v _ _ _ _ _ _ wr => ∃ k u : Nat, k ≤ xs.length ∧ i = .int .i64 (k : Int) ∧ tmTo (elB xs) k = some u ∧ ∃ g cv, v = .slice (some ⟨g, 0, none⟩) u cv ∧ Mm no w wr [.row w.heap.size (.slice (some ⟨g, 0, none⟩) u cv) u (stkV (ev k)) 5 1, .box bq (sqs n t) 31]) (fun i _ _ _ _ _ _ _ _ => xs.length - (intOf i).toNat)
  case atStart => exact ⟨0, 0, by omega, rfl, rfl, bo, 0, rfl, by rw [HE0.out]; exact M⟩
  case round =>
    obtain ⟨k, u, hk, rfl, ht, g, cv, rfl, M9⟩ := hrel
    clear M; (try clear C)
    have M := M9
    clear M9
    have C := M.ruleAll; simp only [Go.Proofs.YtpmemoabkbmljaaDoor.ruleAll] at C
    have hu := tmTo_le ht
    have HT := Hid2.mk ht
    have hlen := HLE.out ht
    clear ht
    obtain ⟨hcv, hcm⟩ := own_cap (M.row 0 rfl)
    by_cases hlt : k < xs.length
    · have hlt' : (k : Int) < (xs.length : Int) := by omega
      obtain ⟨gx, rfl, hrr⟩ := F1.out _ M.below (by omega)
      have hcx : ∀ w1, Below w.heap.size w w1 → w1.cell? ⟨gx, k, none⟩ = some (.int .u8 (elB xs k : Nat)) := fun w1 hb => by
        obtain ⟨g', e, hr⟩ := F1.out w1 hb (by omega)
        cases e
        exact hr.at_ k hlt
      clear hrr
      have hst := HEV.out k
      rcases tm_byte HTM.out hlt HT.out with ⟨hl, hnx⟩ | ⟨hl, ho, h2, hnx⟩
      · rw [HL.out hl] at hst
        have HST := Hid2.mk hst
        have HNX := Hid2.mk hnx
        have hb := leaf_cases hl
        generalize elB xs k = b at hcx hb HST
        have hc0 := hcx _ M.below
        clear hl hst hnx hcx
        rcases hb with rfl | rfl | rfl | rfl
        · go_wp2_with (first | ((with_reducible apply wpM_bsl' M 47 1 5 ([(0, .int .u8 (x : Int))]) (#[.int .u8 (x : Int)])); rfl; rfl; rfl; exact bsl_u8 _; clear M; (try clear C); intro bi w9 h_bi M; have C := M.ruleAll; simp only [Go.Proofs.YtpmemoabkbmljaaDoor.ruleAll] at C) | ((with_reducible apply wpM_app' M 47 1 0 (w.heap.size) (.slice (some ⟨g, 0, none⟩) u cv) (u) (stkV (ev k)) 5 1 1); rfl; rfl; rfl; rfl; rfl; rfl; rfl; (first | exact .inl (Nat.le_refl _) | exact .inl (by assumption) | exact .inr (by assumption) | exact .inr HDv.out); (first | exact M.size | (have hq := M.size; omega)); exact und_sl8; exact inf_el8; rfl; decide; decide; rfl; exact rfl; exact flat_u8 _; omega; clear M; (try clear C); intro v2 w9 far_v2 M; simp only [List.set_cons_zero, List.set_cons_succ, entBlk, entT, List.getElem?_cons_zero, List.getElem?_cons_succ] at M; obtain ⟨pp_v2, cap_v2, rfl⟩ := own_form (M.row 1 rfl); have C := M.ruleAll; simp only [Go.Proofs.YtpmemoabkbmljaaDoor.ruleAll] at C))
          obtain ⟨go, cq, he9, _, _, _⟩ := own_rds (M.row 1 rfl) (by omega)
          cases he9
          go_roundw
          case rel => exact ⟨k + 1, u + 1, by omega, by go_num, HNX.out, go, _, rfl, by rw [HST.out, hl1, stkV_push]; exact M.drop 0⟩
          case measure => simp [intOf]; omega
        · go_wp2_with (first | ((with_reducible apply wpM_bsl' M 47 1 5 ([(0, .int .u8 (y : Int))]) (#[.int .u8 (y : Int)])); rfl; rfl; rfl; exact bsl_u8 _; clear M; (try clear C); intro bi w9 h_bi M; have C := M.ruleAll; simp only [Go.Proofs.YtpmemoabkbmljaaDoor.ruleAll] at C) | ((with_reducible apply wpM_app' M 47 1 0 (w.heap.size) (.slice (some ⟨g, 0, none⟩) u cv) (u) (stkV (ev k)) 5 1 1); rfl; rfl; rfl; rfl; rfl; rfl; rfl; (first | exact .inl (Nat.le_refl _) | exact .inl (by assumption) | exact .inr (by assumption) | exact .inr HDv.out); (first | exact M.size | (have hq := M.size; omega)); exact und_sl8; exact inf_el8; rfl; decide; decide; rfl; exact rfl; exact flat_u8 _; omega; clear M; (try clear C); intro v2 w9 far_v2 M; simp only [List.set_cons_zero, List.set_cons_succ, entBlk, entT, List.getElem?_cons_zero, List.getElem?_cons_succ] at M; obtain ⟨pp_v2, cap_v2, rfl⟩ := own_form (M.row 1 rfl); have C := M.ruleAll; simp only [Go.Proofs.YtpmemoabkbmljaaDoor.ruleAll] at C))
          obtain ⟨go, cq, he9, _, _, _⟩ := own_rds (M.row 1 rfl) (by omega)
          cases he9
          go_roundw
          case rel => exact ⟨k + 1, u + 1, by omega, by go_num, HNX.out, go, _, rfl, by rw [HST.out, hl2, stkV_push]; exact M.drop 0⟩
          case measure => simp [intOf]; omega
        · go_wp2_with (first | ((with_reducible apply wpM_bsl' M 47 1 5 ([(0, .int .u8 (z : Int))]) (#[.int .u8 (z : Int)])); rfl; rfl; rfl; exact bsl_u8 _; clear M; (try clear C); intro bi w9 h_bi M; have C := M.ruleAll; simp only [Go.Proofs.YtpmemoabkbmljaaDoor.ruleAll] at C) | ((with_reducible apply wpM_app' M 47 1 0 (w.heap.size) (.slice (some ⟨g, 0, none⟩) u cv) (u) (stkV (ev k)) 5 1 1); rfl; rfl; rfl; rfl; rfl; rfl; rfl; (first | exact .inl (Nat.le_refl _) | exact .inl (by assumption) | exact .inr (by assumption) | exact .inr HDv.out); (first | exact M.size | (have hq := M.size; omega)); exact und_sl8; exact inf_el8; rfl; decide; decide; rfl; exact rfl; exact flat_u8 _; omega; clear M; (try clear C); intro v2 w9 far_v2 M; simp only [List.set_cons_zero, List.set_cons_succ, entBlk, entT, List.getElem?_cons_zero, List.getElem?_cons_succ] at M; obtain ⟨pp_v2, cap_v2, rfl⟩ := own_form (M.row 1 rfl); have C := M.ruleAll; simp only [Go.Proofs.YtpmemoabkbmljaaDoor.ruleAll] at C))
          obtain ⟨go, cq, he9, _, _, _⟩ := own_rds (M.row 1 rfl) (by omega)
          cases he9
          go_roundw
          case rel => exact ⟨k + 1, u + 1, by omega, by go_num, HNX.out, go, _, rfl, by rw [HST.out, hl3, stkV_push]; exact M.drop 0⟩
          case measure => simp [intOf]; omega
        · go_wp2_with (first | ((with_reducible apply wpM_bsl' M 47 1 5 ([(0, .int .u8 0)]) (#[.int .u8 0])); rfl; rfl; rfl; exact bsl_u8 _; clear M; (try clear C); intro bi w9 h_bi M; have C := M.ruleAll; simp only [Go.Proofs.YtpmemoabkbmljaaDoor.ruleAll] at C) | ((with_reducible apply wpM_app' M 47 1 0 (w.heap.size) (.slice (some ⟨g, 0, none⟩) u cv) (u) (stkV (ev k)) 5 1 1); rfl; rfl; rfl; rfl; rfl; rfl; rfl; (first | exact .inl (Nat.le_refl _) | exact .inl (by assumption) | exact .inr (by assumption) | exact .inr HDv.out); (first | exact M.size | (have hq := M.size; omega)); exact und_sl8; exact inf_el8; rfl; decide; decide; rfl; exact rfl; exact flat_u8 _; omega; clear M; (try clear C); intro v2 w9 far_v2 M; simp only [List.set_cons_zero, List.set_cons_succ, entBlk, entT, List.getElem?_cons_zero, List.getElem?_cons_succ] at M; obtain ⟨pp_v2, cap_v2, rfl⟩ := own_form (M.row 1 rfl); have C := M.ruleAll; simp only [Go.Proofs.YtpmemoabkbmljaaDoor.ruleAll] at C))
          obtain ⟨go, cq, he9, _, _, _⟩ := own_rds (M.row 1 rfl) (by omega)
          cases he9
          go_roundw
          case rel => exact ⟨k + 1, u + 1, by omega, by go_num, HNX.out, go, _, rfl, by rw [HST.out, hl0, stkV_push]; exact M.drop 0⟩
          case measure => simp [intOf]; omega
      · obtain ⟨m, hm⟩ : ∃ m, u = m + 2 := ⟨u - 2, by omega⟩
        obtain ⟨c, a, r, hr⟩ : ∃ c a r, ev k = c :: a :: r := by
          revert hlen
          rcases ev k with _ | ⟨c, _ | ⟨a, r⟩⟩
          · intro h; simp at h; omega
          · intro h; simp at h; omega
          · intro _; exact ⟨c, a, r, rfl⟩
        have hrl : r.length = m := by rw [hr] at hlen; simp at hlen; omega
        have hcn := HLT.out k c (by rw [hr]; simp)
        have han := HLT.out k a (by rw [hr]; simp)
        have hcut : (stkV (ev k)).take m = stkV r := by rw [hr, ← hrl]; exact stkV_cut c a r
        have HC := Hid2.mk (show ∀ w2, Mm no w w2 [.row w.heap.size (.slice (some ⟨g, 0, none⟩) u cv) u (stkV (ev k)) 5 1, .box bq (sqs n t) 31] → w2.cell? ⟨g, m, none⟩ = some (.int .u8 (a : Int)) ∧ w2.cell? ⟨g, m + 1, none⟩ = some (.int .u8 (c : Int)) from fun w2 M => by
          have hown := M.row 0 rfl
          rw [hr] at hown
          have h1 := stkV_at1 c a r
          have h2 := stkV_at2 c a r
          rw [hrl] at h1 h2
          exact ⟨(World.ownsRow.cellAt hown m (by omega)).trans h1, (World.ownsRow.cellAt hown (m + 1) (by omega)).trans h2⟩)
        have HA := fun w1 => HAP.out (elB xs k) a c ho han hcn w1
        rw [hr, HO.out hl] at hst
        have HST := Hid2.mk hst
        have HNX := Hid2.mk (show tmTo (elB xs) (k + 1) = some (m + 1) by rw [hnx]; congr 1; omega)
        have HCX := Hid2.mk hcx
        have HCUT := Hid2.mk hcut
        have hu1 : (u : Int) - 1 = (m : Int) + 1 := by omega
        have hu2 : (u : Int) - 2 = (m : Int) := by omega
        have hmu : (m : Int) < (u : Int) := by omega
        have hmu1 : (m : Int) + 1 < (u : Int) := by omega
        have hmc : (m : Int) ≤ (cv : Int) := by omega
        have hm40 : (m : Int) + 1 < 40 := by omega
        have hmle : m ≤ u := by omega
        obtain ⟨n1, n2, n3, n4⟩ := leaf_none hl
        have e1 : ((elB xs k : Int) == 120) = false := neI n1
        have e2 : ((elB xs k : Int) == 121) = false := neI n2
        have e3 : ((elB xs k : Int) == 122) = false := neI n3
        have e4 : ((elB xs k : Int) == 101) = false := neI n4
        have hc0 := hcx _ M.below
        generalize elB xs k = b at hc0 HA HST HCX e1 e2 e3 e4
        clear hl ho h2 hst hnx hr hrl hcn han hcut hcx hm hlen n1 n2 n3 n4
        go_wp2
        apply wp_region_mm M 15 (by kernel_rfl) (by kernel_rfl)
        · simp only [List.take_succ_cons, List.take_zero]
          repeat (first | exact wpText_nil | (apply wpText_cons; (intro w2 M; have C := M.ruleAll; simp only [Go.Proofs.YtpmemoabkbmljaaDoor.ruleAll] at C; have hd0 := HCX.out _ M.below; have hd1 := (HC.out _ M).1; have hd2 := (HC.out _ M).2; go_wp2_with (first | ((with_reducible apply wpM_lda' M 1 31 0 (sqs n t)); rfl; rfl; rfl; exact ⟨rfl, inf_sqs.trans (congrArg some (sqs_size ..).symm), _, und_sqs, rfl⟩; exact whole_of rfl)); exact ⟨rfl, rfl, M⟩); rfl))
        clear M; (try clear C)
        intro w2 M
        simp only [List.drop_succ_cons, List.drop_zero]
        have M7 := M.cutRow 0 rfl hmle
        simp only [List.set_cons_zero] at M7
        rw [HCUT.out] at M7
        clear M
        have M := M7
        clear M7
        have C := M.ruleAll; simp only [Go.Proofs.YtpmemoabkbmljaaDoor.ruleAll] at C
        generalize ap b a c = val at HA HST
        go_wp2_with (first | (go_at_call 60; ((with_reducible refine (HA _).mono ?_); rintro e w1 ⟨rfl, hb⟩; have hsz := M.size; (try (have G9 := G.later hb; clear G; have G := G9; clear G9)); have M9 := M.later hb; clear M; (try clear C); have M := M9; clear M9; have C := M.ruleAll; simp only [Go.Proofs.YtpmemoabkbmljaaDoor.ruleAll] at C)) | ((with_reducible apply wpM_bsl' M 47 1 5 ([(0, .int .u8 (val : Int))]) (#[.int .u8 (val : Int)])); rfl; rfl; rfl; exact bsl_u8 _; clear M; (try clear C); intro bi w9 h_bi M; have C := M.ruleAll; simp only [Go.Proofs.YtpmemoabkbmljaaDoor.ruleAll] at C) | ((with_reducible apply wpM_app' M 47 1 0 (w.heap.size) (.slice (some ⟨g, 0, none⟩) m cv) (m) (stkV r) 5 1 1); rfl; rfl; rfl; rfl; rfl; rfl; rfl; (first | exact .inl (Nat.le_refl _) | exact .inl (by assumption) | exact .inr (by assumption) | exact .inr HDv.out); (first | exact M.size | (have hq := M.size; omega)); exact und_sl8; exact inf_el8; rfl; decide; decide; rfl; exact rfl; exact flat_u8 _; omega; clear M; (try clear C); intro v2 w9 far_v2 M; simp only [List.set_cons_zero, List.set_cons_succ, entBlk, entT, List.getElem?_cons_zero, List.getElem?_cons_succ] at M; obtain ⟨pp_v2, cap_v2, rfl⟩ := own_form (M.row 1 rfl); have C := M.ruleAll; simp only [Go.Proofs.YtpmemoabkbmljaaDoor.ruleAll] at C))
        obtain ⟨go, cq, he9, _, _, _⟩ := own_rds (M.row 1 rfl) (by omega)
        cases he9
        go_roundw
        case rel => exact ⟨k + 1, m + 1, by omega, by go_num, HNX.out, go, _, rfl, by rw [HST.out, stkV_push]; exact M.drop 0⟩
        case measure => simp [intOf]; omega
    · obtain rfl : k = xs.length := by omega
      have hge : ¬ ((xs.length : Int) < (xs.length : Int)) := by omega
      obtain rfl : u = 1 := by
        have h1 := (isTm_iff.1 HTM.out).1.symm.trans HT.out
        cases h1; rfl
      obtain ⟨v, hv⟩ : ∃ v, ev xs.length = [v] := List.length_eq_one_iff.1 hlen
      have hown := M.row 0 rfl
      rw [hv] at hown HEB
      have e1 : wr.cell? ⟨g, 0, none⟩ = some (.int .u8 (v : Int)) := World.ownsRow.cellAt hown 0 (by omega)
      have hres : res = v := HEB.out
      subst hres
      clear hlen hv hown
      go_wp2
      go_ret
      exact ⟨rfl, M.below⟩
end Go.Proofs.YtpmemoabkbmljaaDoor
