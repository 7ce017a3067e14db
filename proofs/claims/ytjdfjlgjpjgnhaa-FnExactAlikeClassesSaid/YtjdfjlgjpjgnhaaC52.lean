/- Classes of loops, for the reference: contracts. -/
import Derived.Test.YtjdfjlgjpjgnhaaC43
namespace Go.Proofs.Ytjdfjlgjpjgnhaa
set_option linter.unusedSimpArgs false
set_option linter.unusedVariables false
open Go Go.RowKit

/-- The code of a list of loops. -/
noncomputable def listCode (ls : List Sqr) : Int := if ls.all lpB = true then (if 30 < ls.length then 2 else 0) else 1
theorem lpB_hi {q : Sqr} (h : lpB q = true) : q.n ≤ 10 := (isLp_true.1 h).sq.hi

set_option maxRecDepth 100000 in
set_option maxHeartbeats 2000000 in
theorem l11List_any (ls : List Sqr) (hlen : ls.length ≤ 1048576) (hby : ∀ q ∈ ls, Byt2 q.t) (w : World) (g cap : Nat) (hr : rds w g (ls.length * 101) (fun j => (slC ls).getD j undef)) :
    Calls Try.prog 80 #[.slice (some ⟨g, 0, none⟩) ls.length cap, .int .i64 30, .int .i64 10] w fun e w' => e = .returned (.int .i64 (listCode ls)) ∧ Below w.heap.size w w' := by
  have M := Mm.start no w
  have F1 := Hid2.mk (fun w1 (hb : Below w.heap.size w w1) => hr.later hb)
  have HBY := Hid2.mk hby
  clear hr hby
  go_enter Try.func80, Try.ntmps80
  go_wp2
  go_loopw [7] (fun i wr => ∃ k : Nat, k ≤ ls.length ∧ i = .int .i64 (k : Int) ∧ (ls.take k).all lpB = true ∧ Mm no w wr []) (fun i _ => ls.length - (intOf i).toNat)
  case atStart => exact ⟨0, by omega, rfl, rfl, M⟩
  case round =>
    obtain ⟨k, hk, rfl, hl, M9⟩ := hrel
    clear M
    have M := M9
    clear M9
    have HL := Hid2.mk hl
    clear hl
    by_cases hlt : k < ls.length
    · have hlt' : (k : Int) < (ls.length : Int) := by omega
      have hall := all_take lpB ls hlt
      have hfail := @all_fails _ lpB ls k hlt
      have H := fun w1 => l01Loop_any ls[k].n ls[k].t w1 (HBY.out _ (List.getElem_mem hlt))
      have hcell : ∀ w1, Below w.heap.size w w1 → ∀ j v, (sqs ls[k].n ls[k].t)[j]? = some v → w1.cell? ⟨g, k * 101 + j, none⟩ = some v := fun w1 hb => sq_cells (F1.out w1 hb) hlt
      have HC := Hid2.mk hcell
      generalize ls[k] = q at hall hfail H HC
      have hlp : lpB q = isLp q.n q.t := rfl
      rw [← hlp] at H
      clear hcell hlp
      cases hv : lpB q with
      | true =>
        simp only [hv] at H
        have HST := Hid2.mk (show (ls.take (k + 1)).all lpB = true by rw [hall, HL.out, hv]; rfl)
        clear hall hfail hv
        go_wp2_with (first | (refine wpList_load_part rfl 30 _ rfl (g) (k * 101) rfl (sqs q.n q.t) _ und_sqs rfl inf_sqs (HC.out _ M.below) ?_) | (go_at_call 73; ((with_reducible refine (H _).mono ?_); rintro e w1 ⟨rfl, hb⟩; have M9 := M.later hb; clear M; have M := M9; clear M9)))
        go_roundw
        case rel => exact ⟨k + 1, by omega, by go_num, HST.out, M⟩
        case measure => simp [intOf]; omega
      | false =>
        simp only [hv] at H
        have HST := Hid2.mk (hfail hv)
        clear hall hfail hv
        go_wp2_with (first | (refine wpList_load_part rfl 30 _ rfl (g) (k * 101) rfl (sqs q.n q.t) _ und_sqs rfl inf_sqs (HC.out _ M.below) ?_) | (go_at_call 73; ((with_reducible refine (H _).mono ?_); rintro e w1 ⟨rfl, hb⟩; have M9 := M.later hb; clear M; have M := M9; clear M9)))
        go_ret
        exact ⟨by unfold listCode; rw [HST.out]; rfl, M.below⟩
    · obtain rfl : k = ls.length := by omega
      have hge : ¬ ((ls.length : Int) < (ls.length : Int)) := by omega
      have hAll : ls.all lpB = true := by rw [← HL.out, List.take_length]
      have HA := Hid2.mk hAll
      clear hAll
      by_cases h30 : 30 < ls.length
      · have h30' : (30 : Int) < (ls.length : Int) := by omega
        go_wp2
        go_ret
        exact ⟨by unfold listCode; rw [if_pos HA.out, if_pos h30]; rfl, M.below⟩
      · have h30' : ¬ (30 : Int) < (ls.length : Int) := by omega
        go_wp2
        go_loopw [8] (fun i wr => ∃ k : Nat, k ≤ ls.length ∧ i = .int .i64 (k : Int) ∧ Mm no w wr []) (fun i _ => ls.length - (intOf i).toNat)
        case atStart => exact ⟨0, by omega, rfl, M⟩
        case round =>
          obtain ⟨k, hk, rfl, M9⟩ := hrel
          clear M
          have M := M9
          clear M9
          by_cases hlt : k < ls.length
          · have hlt' : (k : Int) < (ls.length : Int) := by omega
            have hhd : ((F1.out _ M.below).at_ (k * 101) (by omega)) = ((F1.out _ M.below).at_ (k * 101) (by omega)) := rfl
            have hcell := (F1.out _ M.below).at_ (k * 101) (by omega)
            rw [sq_head hlt] at hcell
            have h10 : ¬ (10 < ls[k].n) := by
              have := lpB_hi (List.all_eq_true.1 HA.out _ (List.getElem_mem hlt)); omega
            generalize ls[k].n = z at hcell h10
            clear hhd
            go_wp2
            go_roundw
            case rel => exact ⟨k + 1, by omega, by go_num, M⟩
            case measure => simp [intOf]; omega
          · obtain rfl : k = ls.length := by omega
            have hge : ¬ ((ls.length : Int) < (ls.length : Int)) := by omega
            go_wp2
            go_ret
            exact ⟨by unfold listCode; rw [if_pos HA.out, if_neg h30]; rfl, M.below⟩

/-- What holds while the class of a number is looked for. -/
def Seek (ls : List Sqr) (g : Nat) (w : World) (same : Nat → Nat → Bool) (cls : List (List Nat)) (vs : List Value) (go cv i : Nat) (met : Value) (k : Nat) (wr : World) : Prop :=
  (met = .bool false ∧ (∀ j (h : j < cls.length), j < k → same (cls[j].headD 0) i = false) ∧ Mm no w wr (.rd g (ls.length * 101) (fun j => (slC ls).getD j undef) :: .row w.heap.size (.slice (some ⟨go, 0, none⟩) cls.length cv) cls.length vs 69 1 :: clsE w.heap.size 2 vs cls)) ∨
  (met = .bool true ∧ ∃ j v', cls.findIdx? (fun c => same (c.headD 0) i) = some j ∧ Mm no w wr (.rd g (ls.length * 101) (fun j => (slC ls).getD j undef) :: .row w.heap.size (.slice (some ⟨go, 0, none⟩) cls.length cv) cls.length (vs.set j v') 69 1 :: clsE w.heap.size 2 (vs.set j v') (cls.modify j (· ++ [i]))))

set_option maxRecDepth 100000 in
set_option maxHeartbeats 4000000 in
theorem l11Classes_any (ls : List Sqr) (hlen : ls.length ≤ 1048576) (hok : ∀ q ∈ ls, okS q) (w : World) (g cap : Nat) (hr : rds w g (ls.length * 101) (fun j => (slC ls).getD j undef)) :
    Calls Try.prog 81 #[.slice (some ⟨g, 0, none⟩) ls.length cap, .bool false] w fun e w' => ∃ v, e = .returned v ∧ ClsRes w.heap.size w w' v (clsTo (alkAt ls) ls.length) 69 2 := by
  have M := (Mm.start no w).add (x := .rd g (ls.length * 101) (fun j => (slC ls).getD j undef)) hr fun _ h => by cases h
  have HOK := Hid2.mk hok
  clear hr hok
  generalize hsame : alkAt ls = same
  have C := M.ruleAll; simp only [Go.Proofs.Ytjdfjlgjpjgnhaa.ruleAll] at C
  go_enter Try.func81, Try.ntmps81
  go_wp2_with (first | ((with_reducible apply wpM_bsl' M 60 0 69 ([]) (#[])); rfl; rfl; rfl; exact bsl_cls0; clear M; (try clear C); intro bo w9 h_bo M; have C := M.ruleAll; simp only [Go.Proofs.Ytjdfjlgjpjgnhaa.ruleAll] at C))
  have M9 := M.asRow 0 rfl w.heap.size 0 1 h_bo rfl (Nat.zero_le _)
  clear M; (try clear C)
  have M : Mm no w w9 (.rd g (ls.length * 101) (fun j => (slC ls).getD j undef) :: .row w.heap.size (.slice (some ⟨bo, 0, none⟩) 0 0) 0 [] 69 1 :: clsE w.heap.size 2 [] []) := M9.sub [1, 0] (by decide)
  clear M9
  have C := M.ruleAll; simp only [Go.Proofs.Ytjdfjlgjpjgnhaa.ruleAll] at C
  go_wp2
  go_loopw [6, 5] (fun i v wr => ∃ k : Nat, k ≤ ls.length ∧ i = .int .i64 (k : Int) ∧ ∃ go cv vs, v = .slice (some ⟨go, 0, none⟩) (clsTo same k).length cv ∧ vs.length = (clsTo same k).length ∧ Mm no w wr (.rd g (ls.length * 101) (fun j => (slC ls).getD j undef) :: .row w.heap.size (.slice (some ⟨go, 0, none⟩) (clsTo same k).length cv) (clsTo same k).length vs 69 1 :: clsE w.heap.size 2 vs (clsTo same k))) (fun i _ _ => ls.length - (intOf i).toNat)
  case atStart => exact ⟨0, by omega, rfl, bo, 0, [], rfl, rfl, M⟩
  case round =>
    obtain ⟨i, hi, rfl, go, cv, vs, rfl, hvl, M9⟩ := hrel
    clear M; (try clear C)
    have M := M9
    clear M9
    have C := M.ruleAll; simp only [Go.Proofs.Ytjdfjlgjpjgnhaa.ruleAll] at C
    by_cases hlt : i < ls.length
    · have hlt' : (i : Int) < (ls.length : Int) := by omega
      have dlt : decide ((i : Int) < (ls.length : Int)) = true := decide_eq_true hlt'
      have hgood := clsTo_good (same := same) i
      have hle := clsTo_le (same := same) i
      have hsz := clsTo_size (same := same) i
      have hstep : clsTo same (i + 1) = clsStep same (clsTo same i) i := rfl
      have HSTEP := Hid2.mk hstep
      generalize clsTo same i = cls at hgood hle hsz HSTEP hvl M ⊢
      clear hstep
      go_wp2
      go_loopw [8, 7] (fun k met wr => ∃ k' : Nat, k' ≤ cls.length ∧ k = .int .i64 (k' : Int) ∧ Seek ls g w same cls vs go cv i met k' wr) (fun k _ _ => cls.length - (intOf k).toNat)
      case atStart => exact ⟨0, by omega, rfl, .inl ⟨rfl, fun j _ h => by omega, M⟩⟩
      case round =>
        obtain ⟨k, hk, rfl, hS⟩ := hrel
        clear M; (try clear C)
        rcases hS with ⟨rfl, hl, M⟩ | ⟨rfl, j, v', hfi, M⟩
        · have C := M.ruleAll; simp only [Go.Proofs.Ytjdfjlgjpjgnhaa.ruleAll] at C
          have HL := Hid2.mk hl
          clear hl
          by_cases hk2 : k < cls.length
          · have hk2' : (k : Int) < (cls.length : Int) := by omega
            have hown : wr.ownsRow w.heap.size 2 1 (vs[k]'(by omega)) cls[k].length (ints cls[k]) := show Ent.holds wr (.row w.heap.size (vs[k]'(by omega)) cls[k].length (ints cls[k]) 2 1) from M.ents (2 + k) _ (by rw [Nat.add_comm]; exact clsE_get (by omega) hk2)
            obtain ⟨hne, hxs⟩ := hgood cls[k] (List.getElem_mem hk2)
            obtain ⟨x, c', hc⟩ : ∃ x c', cls[k] = x :: c' := by
              cases h : cls[k] with
              | nil => exact absurd h hne
              | cons x c' => exact ⟨x, c', rfl⟩
            have hx : x < i := hxs x (by rw [hc]; simp)
            have hnn : 0 < cls[k].length := by rw [hc]; simp
            obtain ⟨gk, ck, hvk, hcell, _⟩ := own_head hown hnn
            have hcell2 : wr.cell? ⟨gk, 0, none⟩ = some (.int .i64 (x : Int)) := by rw [hcell, hc]; rfl
            have hce : wr.cell? ⟨go, k, none⟩ = some (.slice (some ⟨gk, 0, none⟩) cls[k].length ck) := by
              rw [World.ownsRow.cellAt (M.row 1 rfl) k (by omega), ← hvk]; exact List.getElem?_eq_getElem _
            have hx' : (x : Int) < (ls.length : Int) := by omega
            have hn0 : (0 : Int) < (cls[k].length : Int) := by omega
            have HG := Hid2.mk (show (clsE w.heap.size 2 vs cls)[k]? = some (.row w.heap.size (.slice (some ⟨gk, 0, none⟩) cls[k].length ck) cls[k].length (ints cls[k]) 2 1) by rw [← hvk]; exact clsE_get (by omega) hk2)
            have HV := Hid2.mk (show vs[k]? = some (.slice (some ⟨gk, 0, none⟩) cls[k].length ck) by rw [← hvk]; exact List.getElem?_eq_getElem _)
            have hF := fun w1 => l11Alike_sq ls[x] ls[i] w1 (HOK.out _ (List.getElem_mem (by omega))) (HOK.out _ (List.getElem_mem hlt))
            have hsm : same (cls[k].headD 0) i = alkB ls[x] ls[i] := by
              rw [hc, ← hsame]
              show alkB (ls.getD x sq00) (ls.getD i sq00) = _
              rw [getD_at (show x < ls.length by omega), getD_at hlt]
            have hcx : ∀ {w3}, rds w3 g (ls.length * 101) (fun j => (slC ls).getD j undef) → ∀ j v, (sqs (ls[x]'(by omega)).n (ls[x]'(by omega)).t)[j]? = some v → w3.cell? ⟨g, x * 101 + j, none⟩ = some v := fun h => sq_cells h (by omega)
            have hci : ∀ {w3}, rds w3 g (ls.length * 101) (fun j => (slC ls).getD j undef) → ∀ j v, (sqs ls[i].n ls[i].t)[j]? = some v → w3.cell? ⟨g, i * 101 + j, none⟩ = some v := fun h => sq_cells h hlt
            have HSM := Hid2.mk hsm
            generalize ls[x]'(by omega) = q at hF hcx HSM
            generalize ls[i] = r at hF hci HSM
            have HCX := Hid2.mk @hcx
            have HCI := Hid2.mk @hci
            generalize alkP q r = f at hF
            generalize alkB q r = b at hF HSM
            have HLE := Hid2.mk (hsz cls[k] (List.getElem_mem hk2))
            have hz := zero_plc
            clear hown hvk hcell hsm hcx hci hc
            go_wp2_with (first | (refine wpList_load_part rfl 30 _ rfl (g) (x * 101) rfl (sqs q.n q.t) _ und_sqs rfl inf_sqs (HCX.out (by first | exact M.rd 0 rfl | exact M.rd 1 rfl)) ?_) | ((with_reducible apply wpM_alloc' M 30 (sqs 0 fun _ _ => 0)); rfl; exact ⟨rfl, _, zero_sqs _, rfl⟩; clear M; (try clear C); intro b9 w9 h_b9 M; have C := M.ruleAll; simp only [Go.Proofs.Ytjdfjlgjpjgnhaa.ruleAll] at C) | ((with_reducible apply wpM_sta' M 0 30 (sqs q.n q.t)); rfl; rfl; rfl; rfl; (first | exact .inl (by assumption) | exact .inr rfl | exact .inr (by assumption)); exact ⟨rfl, inf_sqs.trans (congrArg some (sqs_size ..).symm), flat_sqs _ _⟩; (simp only [entCells, List.getElem?_cons_zero, List.getElem?_cons_succ, sqs_size, sqs_size]); clear M; (try clear C); intro w9 M; simp only [List.set_cons_zero, List.set_cons_succ, entBlk, entT, List.getElem?_cons_zero, List.getElem?_cons_succ] at M; have C := M.ruleAll; simp only [Go.Proofs.Ytjdfjlgjpjgnhaa.ruleAll] at C))
            clear hce hcell2
            apply wp_region_mmf2 M [0, 1, 2, 3, 4, 5, 6, 7, 8] 9 10 11 _ _ (StW2 w f) (by kernel_rfl) (by kernel_rfl) rfl rfl rfl rfl rfl
            case ht => (repeat (first | exact wpTextG_nil | (apply wpTextG_cons; (intro g9 w2 hG; obtain ⟨Lg9, hSt9, G⟩ := hG; have M := G.suffix; have C := M.ruleAll; simp only [Go.Proofs.Ytjdfjlgjpjgnhaa.ruleAll] at C; go_wp2_with (first | ((with_reducible apply wpM_lda' M 0 30 0 (sqs q.n q.t)); rfl; rfl; rfl; exact ⟨rfl, inf_sqs.trans (congrArg some (sqs_size ..).symm), _, und_sqs, rfl⟩; exact whole_of rfl) | (refine wpList_load_part rfl 30 _ rfl (g) (i * 101) rfl (sqs r.n r.t) _ und_sqs rfl inf_sqs (HCI.out (M.rd 1 rfl)) ?_) | (go_at_call 123; ((with_reducible refine (hF _).mono ?_); rintro e w1 ⟨rfl, hb⟩; have hsz := M.size; (try (have G9 := G.later hb; clear G; have G := G9; clear G9)); have M9 := M.later hb; clear M; (try clear C); have M := M9; clear M9; have C := M.ruleAll; simp only [Go.Proofs.Ytjdfjlgjpjgnhaa.ruleAll] at C))); exact ⟨rfl, rfl, Lg9, hSt9, G⟩); rfl)))
            case hA =>
              intro Lg w2 h M
              obtain rfl : Lg = [] := h
              simp only [List.nil_append] at M
              refine yield_walk (ops := #[]) rfl rfl (by simp [Act.put]) ?_
              go_wp2_with (first | ((with_reducible apply wpM_alloc' M 33 (bys fun _ => 0)); rfl; exact ⟨rfl, _, zero_plc _, rfl⟩; clear M; (try clear C); intro b6 w9 h_b6 M; have C := M.ruleAll; simp only [Go.Proofs.Ytjdfjlgjpjgnhaa.ruleAll] at C))
              exact ⟨[_], ⟨b6, rfl, by assumption, rfl⟩, M⟩
            case hA2 =>
              intro v Lg w2 h M
              obtain ⟨b6, rfl, hb6, rfl⟩ := h
              refine yield_store (ops := #[]) (by exact rfl) (by exact rfl) ?_
              simp only [List.cons_append, List.nil_append] at M
              have C := M.ruleAll; simp only [Go.Proofs.Ytjdfjlgjpjgnhaa.ruleAll] at C
              go_wp2_with (first | ((with_reducible apply wpM_sta' M 0 33 (bys f)); rfl; rfl; rfl; rfl; (first | exact .inl (by assumption) | exact .inr rfl | exact .inr (by assumption)); exact ⟨rfl, inf_plc.trans (congrArg some (bys_size ..).symm), flat_bys _⟩; (simp only [entCells, List.getElem?_cons_zero, List.getElem?_cons_succ, bys_size, bys_size]); clear M; (try clear C); intro w9 M; simp only [List.set_cons_zero, List.set_cons_succ, entBlk, entT, List.getElem?_cons_zero, List.getElem?_cons_succ] at M; have C := M.ruleAll; simp only [Go.Proofs.Ytjdfjlgjpjgnhaa.ruleAll] at C))
              exact ⟨[_], ⟨⟨b6, rfl, hb6, rfl⟩, rfl⟩, M⟩
            clear M; (try clear C)
            intro v u9 Lg w2 h M
            obtain ⟨⟨b6, rfl, hb6, rfl⟩, rfl⟩ := h
            have M8 := (M.drop 0).drop 0
            clear M; (try clear C)
            have M : Mm no w w2 (.rd g (ls.length * 101) (fun j => (slC ls).getD j undef) :: .row w.heap.size (.slice (some ⟨go, 0, none⟩) cls.length cv) cls.length vs 69 1 :: clsE w.heap.size 2 vs cls) := M8
            clear M8
            simp only [List.drop_succ_cons, List.drop_zero]
            have C := M.ruleAll; simp only [Go.Proofs.Ytjdfjlgjpjgnhaa.ruleAll] at C
            cases b with
            | false =>
              go_wp2
              go_roundw
              case rel =>
                refine ⟨k + 1, by omega, by go_num, .inl ⟨rfl, fun j hj h1 => ?_, M⟩⟩
                rcases Nat.lt_or_eq_of_le (Nat.lt_succ_iff.1 h1) with h2 | rfl
                · exact HL.out j hj h2
                · exact HSM.out
              case measure => simp [intOf]; omega
            | true =>
              have hcj : w2.cell? ⟨go, k, none⟩ = some (.slice (some ⟨gk, 0, none⟩) cls[k].length ck) := by rw [World.ownsRow.cellAt (M.row 1 rfl) k (by omega)]; exact HV.out
              go_wp2_with (first | ((with_reducible apply wpM_bsl' M 69 1 2 ([(0, .int .i64 (i : Int))]) (#[.int .i64 (i : Int)])); rfl; rfl; rfl; exact bsl_i64 _; clear M; (try clear C); intro bi w9 h_bi M; have C := M.ruleAll; simp only [Go.Proofs.Ytjdfjlgjpjgnhaa.ruleAll] at C) | ((with_reducible apply wpM_app' M 69 (k + 3) 0 w.heap.size (.slice (some ⟨gk, 0, none⟩) cls[k].length ck) (cls[k].length) (ints cls[k]) 2 1 8); rfl; exact HG.out; rfl; rfl; rfl; rfl; rfl; exact .inl (Nat.le_refl _); exact M.size; exact und_sli; exact inf_eli; rfl; decide; decide; rfl; rfl; exact flat_c1 rfl; (have := HLE.out; omega); clear M; (try clear C); intro v2 w9 far_v2 M; obtain ⟨pp_v2, cap_v2, rfl⟩ := own_set (i := k + 3) M (show _ = some _ from HG.out); simp only [List.set_cons_zero, List.set_cons_succ, entCells, List.getElem?_cons_zero] at M; have C := M.ruleAll; simp only [Go.Proofs.Ytjdfjlgjpjgnhaa.ruleAll] at C) | ((with_reducible apply wpM_rst' M 2 69 w.heap.size go (cls.length) cv 69 (vs) (k) (.slice pp_v2 (cls[k].length + 1) cap_v2)); rfl; rfl; rfl; rfl; exact ⟨rfl, rfl, inf_slc⟩; exact .inl (Nat.le_refl _); omega; clear M; (try clear C); intro w9 M; simp only [List.set_cons_zero, List.set_cons_succ] at M; have C := M.ruleAll; simp only [Go.Proofs.Ytjdfjlgjpjgnhaa.ruleAll] at C))
              have M8 : Mm no w w9 (.rd g (ls.length * 101) (fun j => (slC ls).getD j undef) :: .row w.heap.size (.slice (some ⟨go, 0, none⟩) cls.length cv) cls.length (vs.set k (.slice pp_v2 (cls[k].length + 1) cap_v2)) 69 1 :: clsE w.heap.size 2 (vs.set k (.slice pp_v2 (cls[k].length + 1) cap_v2)) (cls.modify k (· ++ [i]))) := by
                have h := M.drop 0
                rw [← clsE_set _ hk2]
                exact h
              clear M; (try clear C)
              go_roundw
              case rel =>
                exact ⟨k + 1, by omega, by go_num, .inr ⟨rfl, k, .slice pp_v2 (cls[k].length + 1) cap_v2, List.findIdx?_eq_some_iff_getElem.2 ⟨hk2, HSM.out, fun j hj => by rw [HL.out j (Nat.lt_trans hj hk2) hj]; simp⟩, M8⟩⟩
              case measure => simp [intOf]; omega
          · obtain rfl : k = cls.length := by omega
            have hge : ¬ ((cls.length : Int) < (cls.length : Int)) := by omega
            have hfi : cls.findIdx? (fun c => same (c.headD 0) i) = none := by
              rw [List.findIdx?_eq_none_iff]
              intro c hc
              obtain ⟨j, hj, rfl⟩ := List.getElem_of_mem hc
              exact HL.out j hj hj
            have HST := Hid2.mk (show clsTo same (i + 1) = cls ++ [[i]] by rw [HSTEP.out]; unfold clsStep; rw [hfi])
            have HE := Hid2.mk (fun v => clsE_new (B := w.heap.size) (e := 2) hvl v [i])
            clear hfi
            go_wp2_with (first | ((with_reducible apply wpM_bsl' M 69 1 2 ([(0, .int .i64 (i : Int))]) (#[.int .i64 (i : Int)])); rfl; rfl; rfl; exact bsl_i64 _; clear M; (try clear C); intro bi w9 h_bi M; have C := M.ruleAll; simp only [Go.Proofs.Ytjdfjlgjpjgnhaa.ruleAll] at C) | ((with_reducible apply wpM_bsl' M 60 1 69 ([(0, .slice (some ⟨bi, 0, none⟩) 1 1)]) (#[.slice (some ⟨bi, 0, none⟩) 1 1])); rfl; rfl; rfl; exact bsl_cls1 _; clear M; (try clear C); intro bn w9 h_bn M; have C := M.ruleAll; simp only [Go.Proofs.Ytjdfjlgjpjgnhaa.ruleAll] at C) | ((with_reducible apply wpM_app' M 60 3 0 (w.heap.size) (.slice (some ⟨go, 0, none⟩) cls.length cv) (cls.length) (vs) 69 1 24); rfl; rfl; rfl; rfl; rfl; rfl; rfl; (first | exact .inl (Nat.le_refl _) | exact .inl (by assumption) | exact .inr (by assumption) | exact .inr HDv.out); (first | exact M.size | (have hq := M.size; omega)); exact und_slc; exact inf_elc; rfl; decide; decide; rfl; exact rfl; exact flat_c1 rfl; omega; clear M; (try clear C); intro v2 w9 far_v2 M; simp only [List.set_cons_zero, List.set_cons_succ, entBlk, entT, List.getElem?_cons_zero, List.getElem?_cons_succ] at M; obtain ⟨pp_v2, cap_v2, rfl⟩ := own_form (M.row 3 rfl); have C := M.ruleAll; simp only [Go.Proofs.Ytjdfjlgjpjgnhaa.ruleAll] at C))
            have M6 : Mm no w w9 (.box bi #[.int .i64 (i : Int)] 2 :: .rd g (ls.length * 101) (fun j => (slC ls).getD j undef) :: .row w.heap.size (.slice pp_v2 (cls.length + 1) cap_v2) (cls.length + 1) (vs ++ [.slice (some ⟨bi, 0, none⟩) 1 1]) 69 1 :: clsE w.heap.size 2 vs cls) := M.drop 0
            have M7 := M6.asRow 0 rfl w.heap.size 1 1 h_bi rfl (by decide)
            have M8 := M7.perm (show List.Perm (.row w.heap.size (.slice (some ⟨bi, 0, none⟩) 1 1) 1 [.int .i64 (i : Int)] 2 1 :: .rd g (ls.length * 101) (fun j => (slC ls).getD j undef) :: .row w.heap.size (.slice pp_v2 (cls.length + 1) cap_v2) (cls.length + 1) (vs ++ [.slice (some ⟨bi, 0, none⟩) 1 1]) 69 1 :: clsE w.heap.size 2 vs cls) (.rd g (ls.length * 101) (fun j => (slC ls).getD j undef) :: .row w.heap.size (.slice pp_v2 (cls.length + 1) cap_v2) (cls.length + 1) (vs ++ [.slice (some ⟨bi, 0, none⟩) 1 1]) 69 1 :: clsE w.heap.size 2 (vs ++ [.slice (some ⟨bi, 0, none⟩) 1 1]) (cls ++ [[i]])) by rw [HE.out]; exact (List.perm_append_singleton _ (.rd g (ls.length * 101) (fun j => (slC ls).getD j undef) :: .row w.heap.size (.slice pp_v2 (cls.length + 1) cap_v2) (cls.length + 1) (vs ++ [.slice (some ⟨bi, 0, none⟩) 1 1]) 69 1 :: clsE w.heap.size 2 vs cls)).symm)
            clear M; (try clear C)
            obtain ⟨g3, c3, he9, _, _, _⟩ := own_rds (M8.row 1 rfl) (by omega)
            cases he9
            go_roundw
            case rel =>
              refine ⟨i + 1, by omega, by go_num, g3, cap_v2, vs ++ [.slice (some ⟨bi, 0, none⟩) 1 1], ?_, ?_, ?_⟩
              · rw [HST.out, List.length_append]; rfl
              · rw [HST.out, List.length_append, List.length_append, hvl]; rfl
              · rw [HST.out, List.length_append]; exact M8
            case measure => simp [intOf]; omega
        · have C := M.ruleAll; simp only [Go.Proofs.Ytjdfjlgjpjgnhaa.ruleAll] at C
          have HST := Hid2.mk (show clsTo same (i + 1) = cls.modify j (· ++ [i]) by rw [HSTEP.out]; unfold clsStep; rw [hfi])
          clear hfi
          by_cases hk2 : k < cls.length
          · have hk2' : (k : Int) < (cls.length : Int) := by omega
            go_wp2
            go_roundw
            case rel =>
              refine ⟨i + 1, by omega, by go_num, go, cv, vs.set j v', ?_, ?_, ?_⟩
              · rw [HST.out, List.length_modify]
              · rw [HST.out, List.length_modify, List.length_set]; exact hvl
              · rw [HST.out, List.length_modify]; exact M
            case measure => simp [intOf]; omega
          · have hk2' : ¬ (k : Int) < (cls.length : Int) := by omega
            go_wp2
            go_roundw
            case rel =>
              refine ⟨i + 1, by omega, by go_num, go, cv, vs.set j v', ?_, ?_, ?_⟩
              · rw [HST.out, List.length_modify]
              · rw [HST.out, List.length_modify, List.length_set]; exact hvl
              · rw [HST.out, List.length_modify]; exact M
            case measure => simp [intOf]; omega
    · obtain rfl : i = ls.length := by omega
      have hge : ¬ ((ls.length : Int) < (ls.length : Int)) := by omega
      go_wp2
      go_ret
      exact ⟨_, rfl, vs, hvl, M.drop 0⟩
end Go.Proofs.Ytjdfjlgjpjgnhaa
