/- Classes of akin loops, for the reference: contracts. Printed by gen/j4.py out of C52. -/
import Derived.Test.YtinjjaoikofkdaaJ3
import Derived.Test.YtinjjaoikofkdaaC43
import Derived.Test.YtinjjaoikofkdaaK9
namespace Go.Proofs.Ytinjjaoikofkdaa
set_option linter.unusedSimpArgs false
set_option linter.unusedVariables false
open Go Go.RowKit

/-- The code of a list of loops. -/
noncomputable def listCode (ls : List Sqr) : Int := if ls.all lpB = true then (if 12 < ls.length ∨ (ls.any fun q => decide (7 < q.n)) = true then 2 else 0) else 1
/-- Of two loops of a list: whether they are akin. -/
noncomputable def aknAt (ls : List Sqr) (j i : Nat) : Bool := aknB (ls.getD j sq00) (ls.getD i sq00)
theorem lpB_hi {q : Sqr} (h : lpB q = true) : q.n ≤ 10 := (isLp_true.1 h).sq.hi

set_option maxRecDepth 100000 in
set_option maxHeartbeats 2000000 in
theorem l11List_any (ls : List Sqr) (hlen : ls.length ≤ 1048576) (hby : ∀ q ∈ ls, Byt2 q.t) (w : World) (g cap : Nat) (hr : rds w g (ls.length * 101) (fun j => (slC ls).getD j undef)) :
    Calls Try.prog 57 #[.slice (some ⟨g, 0, none⟩) ls.length cap, .int .i64 12, .int .i64 7] w fun e w' => e = .returned (.int .i64 (listCode ls)) ∧ Below w.heap.size w w' := by
  have M := Mm.start no w
  have F1 := Hid2.mk (fun w1 (hb : Below w.heap.size w w1) => hr.later hb)
  have HBY := Hid2.mk hby
  clear hr hby
  go_enter Try.func57, Try.ntmps57
  go_wp2
  go_loopw [7] (fun i wr => ∃ k : Nat, k ≤ ls.length ∧ i = .int .i64 (k : Int) ∧ (ls.take k).all lpB = true ∧ Mm no w wr []) (fun i _ => ls.length - (intOf i).toNat)
  case atStart => exact ⟨0, by omega, rfl, rfl, M⟩
  case round =>
    obtain ⟨k, hk, rfl, hl, M9⟩ := hrel
    clear M
    have M := M9
    clear M9
    have HL := Hid2.mk hl
    clear hl
    by_cases hlt : k < ls.length
    · have hlt' : (k : Int) < (ls.length : Int) := by omega
      have hall := all_take lpB ls hlt
      have hfail := @all_fails _ lpB ls k hlt
      have H := fun w1 => l01Loop_any ls[k].n ls[k].t w1 (HBY.out _ (List.getElem_mem hlt))
      have hcell : ∀ w1, Below w.heap.size w w1 → ∀ j v, (sqs ls[k].n ls[k].t)[j]? = some v → w1.cell? ⟨g, k * 101 + j, none⟩ = some v := fun w1 hb => sq_cells (F1.out w1 hb) hlt
      have HC := Hid2.mk hcell
      generalize ls[k] = q at hall hfail H HC
      have hlp : lpB q = isLp q.n q.t := rfl
      rw [← hlp] at H
      clear hcell hlp
      cases hv : lpB q with
      | true =>
        simp only [hv] at H
        have HST := Hid2.mk (show (ls.take (k + 1)).all lpB = true by rw [hall, HL.out, hv]; rfl)
        clear hall hfail hv
        go_wp2_with (first | (refine wpList_load_part rfl 43 _ rfl (g) (k * 101) rfl (sqs q.n q.t) _ und_sqs rfl inf_sqs (HC.out _ M.below) ?_) | (go_at_call 41; ((with_reducible refine (H _).mono ?_); rintro e w1 ⟨rfl, hb⟩; have M9 := M.later hb; clear M; have M := M9; clear M9)))
        go_roundw
        case rel => exact ⟨k + 1, by omega, by go_num, HST.out, M⟩
        case measure => simp [intOf]; omega
      | false =>
        simp only [hv] at H
        have HST := Hid2.mk (hfail hv)
        clear hall hfail hv
        go_wp2_with (first | (refine wpList_load_part rfl 43 _ rfl (g) (k * 101) rfl (sqs q.n q.t) _ und_sqs rfl inf_sqs (HC.out _ M.below) ?_) | (go_at_call 41; ((with_reducible refine (H _).mono ?_); rintro e w1 ⟨rfl, hb⟩; have M9 := M.later hb; clear M; have M := M9; clear M9)))
        go_ret
        exact ⟨by unfold listCode; rw [HST.out]; rfl, M.below⟩
    · obtain rfl : k = ls.length := by omega
      have hge : ¬ ((ls.length : Int) < (ls.length : Int)) := by omega
      have hAll : ls.all lpB = true := by rw [← HL.out, List.take_length]
      have HA := Hid2.mk hAll
      clear hAll
      by_cases h30 : 12 < ls.length
      · have h30' : (12 : Int) < (ls.length : Int) := by omega
        go_wp2
        go_ret
        exact ⟨by unfold listCode; rw [if_pos HA.out, if_pos (.inl h30)]; rfl, M.below⟩
      · have h30' : ¬ (12 : Int) < (ls.length : Int) := by omega
        go_wp2
        go_loopw [8] (fun i wr => ∃ k : Nat, k ≤ ls.length ∧ i = .int .i64 (k : Int) ∧ (ls.take k).all (fun q => !decide (7 < q.n)) = true ∧ Mm no w wr []) (fun i _ => ls.length - (intOf i).toNat)
        case atStart => exact ⟨0, by omega, rfl, rfl, M⟩
        case round =>
          obtain ⟨k, hk, rfl, hl2, M9⟩ := hrel
          clear M
          have M := M9
          clear M9
          have HL2 := Hid2.mk hl2
          clear hl2
          by_cases hlt : k < ls.length
          · have hlt' : (k : Int) < (ls.length : Int) := by omega
            have hcell := (F1.out _ M.below).at_ (k * 101) (by omega)
            rw [sq_head hlt] at hcell
            have hall := all_take (fun q : Sqr => !decide (7 < q.n)) ls hlt
            have hmem : ls[k] ∈ ls := List.getElem_mem hlt
            by_cases h7 : 7 < ls[k].n
            · have HST := Hid2.mk (show (ls.any fun q => decide (7 < q.n)) = true from List.any_eq_true.2 ⟨_, hmem, decide_eq_true h7⟩)
              generalize ls[k].n = z at hcell h7
              clear hall hmem
              go_wp2
              go_ret
              exact ⟨by unfold listCode; rw [if_pos HA.out, if_pos (.inr HST.out)]; rfl, M.below⟩
            · have HST := Hid2.mk (show (ls.take (k + 1)).all (fun q => !decide (7 < q.n)) = true by rw [hall, HL2.out, decide_eq_false h7]; rfl)
              generalize ls[k].n = z at hcell h7
              clear hall hmem
              go_wp2
              go_roundw
              case rel => exact ⟨k + 1, by omega, by go_num, HST.out, M⟩
              case measure => simp [intOf]; omega
          · obtain rfl : k = ls.length := by omega
            have hge : ¬ ((ls.length : Int) < (ls.length : Int)) := by omega
            have HN := Hid2.mk (show ¬ (12 < ls.length ∨ (ls.any fun q => decide (7 < q.n)) = true) from fun h => h.elim h30 fun h => by
              obtain ⟨q, hq, h7⟩ := List.any_eq_true.1 h
              have h8 := HL2.out
              rw [List.take_length] at h8
              have := List.all_eq_true.1 h8 q hq
              rw [h7] at this; cases this)
            go_wp2
            go_ret
            exact ⟨by unfold listCode; rw [if_pos HA.out, if_neg HN.out]; rfl, M.below⟩

/-- What holds while the class of a number is looked for. -/
def Seek (ls : List Sqr) (g : Nat) (w : World) (same : Nat → Nat → Bool) (cls : List (List Nat)) (vs : List Value) (go cv i : Nat) (met : Value) (k : Nat) (wr : World) : Prop :=
  (met = .bool false ∧ (∀ j (h : j < cls.length), j < k → same (cls[j].headD 0) i = false) ∧ Mm no w wr (.rd g (ls.length * 101) (fun j => (slC ls).getD j undef) :: .row w.heap.size (.slice (some ⟨go, 0, none⟩) cls.length cv) cls.length vs 85 1 :: clsE w.heap.size 2 vs cls)) ∨
  (met = .bool true ∧ ∃ j v', cls.findIdx? (fun c => same (c.headD 0) i) = some j ∧ Mm no w wr (.rd g (ls.length * 101) (fun j => (slC ls).getD j undef) :: .row w.heap.size (.slice (some ⟨go, 0, none⟩) cls.length cv) cls.length (vs.set j v') 85 1 :: clsE w.heap.size 2 (vs.set j v') (cls.modify j (· ++ [i]))))

set_option maxRecDepth 100000 in
set_option maxHeartbeats 4000000 in
theorem l11Classes_any (ls : List Sqr) (hlen : ls.length ≤ 1048576) (hok : ∀ q ∈ ls, okS q) (h7 : ∀ q ∈ ls, q.n ≤ 7) (w : World) (g cap : Nat) (hr : rds w g (ls.length * 101) (fun j => (slC ls).getD j undef)) :
    Calls Try.prog 58 #[.slice (some ⟨g, 0, none⟩) ls.length cap, .bool true] w fun e w' => ∃ v, e = .returned v ∧ ClsRes w.heap.size w w' v (clsTo (aknAt ls) ls.length) 85 2 := by
  have M := (Mm.start no w).add (x := .rd g (ls.length * 101) (fun j => (slC ls).getD j undef)) hr fun _ h => by cases h
  have HOK := Hid2.mk hok
  have H77 := Hid2.mk h7
  clear hr hok h7
  generalize hsame : aknAt ls = same
  have C := M.ruleAll; simp only [Go.Proofs.Ytinjjaoikofkdaa.ruleAll] at C
  go_enter Try.func58, Try.ntmps58
  go_wp2_with (first | ((with_reducible apply wpM_bsl' M 50 0 85 ([]) (#[])); rfl; rfl; rfl; exact bsl_cls0; clear M; (try clear C); intro bo w9 h_bo M; have C := M.ruleAll; simp only [Go.Proofs.Ytinjjaoikofkdaa.ruleAll] at C))
  have M9 := M.asRow 0 rfl w.heap.size 0 1 h_bo rfl (Nat.zero_le _)
  clear M; (try clear C)
  have M : Mm no w w9 (.rd g (ls.length * 101) (fun j => (slC ls).getD j undef) :: .row w.heap.size (.slice (some ⟨bo, 0, none⟩) 0 0) 0 [] 85 1 :: clsE w.heap.size 2 [] []) := M9.sub [1, 0] (by decide)
  clear M9
  have C := M.ruleAll; simp only [Go.Proofs.Ytinjjaoikofkdaa.ruleAll] at C
  go_wp2
  go_loopw [6, 5] (fun i v wr => ∃ k : Nat, k ≤ ls.length ∧ i = .int .i64 (k : Int) ∧ ∃ go cv vs, v = .slice (some ⟨go, 0, none⟩) (clsTo same k).length cv ∧ vs.length = (clsTo same k).length ∧ Mm no w wr (.rd g (ls.length * 101) (fun j => (slC ls).getD j undef) :: .row w.heap.size (.slice (some ⟨go, 0, none⟩) (clsTo same k).length cv) (clsTo same k).length vs 85 1 :: clsE w.heap.size 2 vs (clsTo same k))) (fun i _ _ => ls.length - (intOf i).toNat)
  case atStart => exact ⟨0, by omega, rfl, bo, 0, [], rfl, rfl, M⟩
  case round =>
    obtain ⟨i, hi, rfl, go, cv, vs, rfl, hvl, M9⟩ := hrel
    clear M; (try clear C)
    have M := M9
    clear M9
    have C := M.ruleAll; simp only [Go.Proofs.Ytinjjaoikofkdaa.ruleAll] at C
    by_cases hlt : i < ls.length
    · have hlt' : (i : Int) < (ls.length : Int) := by omega
      have dlt : decide ((i : Int) < (ls.length : Int)) = true := decide_eq_true hlt'
      have hgood := clsTo_good (same := same) i
      have hle := clsTo_le (same := same) i
      have hsz := clsTo_size (same := same) i
      have hstep : clsTo same (i + 1) = clsStep same (clsTo same i) i := rfl
      have HSTEP := Hid2.mk hstep
      generalize clsTo same i = cls at hgood hle hsz HSTEP hvl M ⊢
      clear hstep
      go_wp2
      go_loopw [8, 7] (fun k met wr => ∃ k' : Nat, k' ≤ cls.length ∧ k = .int .i64 (k' : Int) ∧ Seek ls g w same cls vs go cv i met k' wr) (fun k _ _ => cls.length - (intOf k).toNat)
      case atStart => exact ⟨0, by omega, rfl, .inl ⟨rfl, fun j _ h => by omega, M⟩⟩
      case round =>
        obtain ⟨k, hk, rfl, hS⟩ := hrel
        clear M; (try clear C)
        rcases hS with ⟨rfl, hl, M⟩ | ⟨rfl, j, v', hfi, M⟩
        · have C := M.ruleAll; simp only [Go.Proofs.Ytinjjaoikofkdaa.ruleAll] at C
          have HL := Hid2.mk hl
          clear hl
          by_cases hk2 : k < cls.length
          · have hk2' : (k : Int) < (cls.length : Int) := by omega
            have hown : wr.ownsRow w.heap.size 2 1 (vs[k]'(by omega)) cls[k].length (ints cls[k]) := show Ent.holds wr (.row w.heap.size (vs[k]'(by omega)) cls[k].length (ints cls[k]) 2 1) from M.ents (2 + k) _ (by rw [Nat.add_comm]; exact clsE_get (by omega) hk2)
            obtain ⟨hne, hxs⟩ := hgood cls[k] (List.getElem_mem hk2)
            obtain ⟨x, c', hc⟩ : ∃ x c', cls[k] = x :: c' := by
              cases h : cls[k] with
              | nil => exact absurd h hne
              | cons x c' => exact ⟨x, c', rfl⟩
            have hx : x < i := hxs x (by rw [hc]; simp)
            have hnn : 0 < cls[k].length := by rw [hc]; simp
            obtain ⟨gk, ck, hvk, hcell, _⟩ := own_head hown hnn
            have hcell2 : wr.cell? ⟨gk, 0, none⟩ = some (.int .i64 (x : Int)) := by rw [hcell, hc]; rfl
            have hce : wr.cell? ⟨go, k, none⟩ = some (.slice (some ⟨gk, 0, none⟩) cls[k].length ck) := by
              rw [World.ownsRow.cellAt (M.row 1 rfl) k (by omega), ← hvk]; exact List.getElem?_eq_getElem _
            have hx' : (x : Int) < (ls.length : Int) := by omega
            have hn0 : (0 : Int) < (cls[k].length : Int) := by omega
            have HG := Hid2.mk (show (clsE w.heap.size 2 vs cls)[k]? = some (.row w.heap.size (.slice (some ⟨gk, 0, none⟩) cls[k].length ck) cls[k].length (ints cls[k]) 2 1) by rw [← hvk]; exact clsE_get (by omega) hk2)
            have HV := Hid2.mk (show vs[k]? = some (.slice (some ⟨gk, 0, none⟩) cls[k].length ck) by rw [← hvk]; exact List.getElem?_eq_getElem _)
            have hF := fun w1 => l11Akin_sq ls[x] ls[i] w1 (HOK.out _ (List.getElem_mem (by omega))) (HOK.out _ (List.getElem_mem hlt)) (H77.out _ (List.getElem_mem (by omega))) (H77.out _ (List.getElem_mem hlt))
            have hsm : same (cls[k].headD 0) i = aknB ls[x] ls[i] := by
              rw [hc, ← hsame]
              show aknB (ls.getD x sq00) (ls.getD i sq00) = _
              rw [getD_at (show x < ls.length by omega), getD_at hlt]
            have hcx : ∀ {w3}, rds w3 g (ls.length * 101) (fun j => (slC ls).getD j undef) → ∀ j v, (sqs (ls[x]'(by omega)).n (ls[x]'(by omega)).t)[j]? = some v → w3.cell? ⟨g, x * 101 + j, none⟩ = some v := fun h => sq_cells h (by omega)
            have hci : ∀ {w3}, rds w3 g (ls.length * 101) (fun j => (slC ls).getD j undef) → ∀ j v, (sqs ls[i].n ls[i].t)[j]? = some v → w3.cell? ⟨g, i * 101 + j, none⟩ = some v := fun h => sq_cells h hlt
            have HSM := Hid2.mk hsm
            generalize ls[x]'(by omega) = q at hF hcx HSM
            generalize ls[i] = r at hF hci HSM
            have HCX := Hid2.mk @hcx
            have HCI := Hid2.mk @hci
            generalize aknB q r = b at hF HSM
            have HLE := Hid2.mk (hsz cls[k] (List.getElem_mem hk2))
            clear hown hvk hcell hsm hcx hci hc
            go_wp2_with (first | (refine wpList_load_part rfl 43 _ rfl (g) (x * 101) rfl (sqs q.n q.t) _ und_sqs rfl inf_sqs (HCX.out (by first | exact M.rd 0 rfl | exact M.rd 1 rfl)) ?_) | ((with_reducible apply wpM_alloc' M 43 (sqs 0 fun _ _ => 0)); rfl; exact ⟨rfl, _, zero_sqs _, rfl⟩; clear M; (try clear C); intro b9 w9 h_b9 M; have C := M.ruleAll; simp only [Go.Proofs.Ytinjjaoikofkdaa.ruleAll] at C) | ((with_reducible apply wpM_sta' M 0 43 (sqs q.n q.t)); rfl; rfl; rfl; rfl; (first | exact .inl (by assumption) | exact .inr rfl | exact .inr (by assumption)); exact ⟨rfl, inf_sqs.trans (congrArg some (sqs_size ..).symm), flat_sqs _ _⟩; (simp only [entCells, List.getElem?_cons_zero, List.getElem?_cons_succ, sqs_size, sqs_size]); clear M; (try clear C); intro w9 M; simp only [List.set_cons_zero, List.set_cons_succ, entBlk, entT, List.getElem?_cons_zero, List.getElem?_cons_succ] at M; have C := M.ruleAll; simp only [Go.Proofs.Ytinjjaoikofkdaa.ruleAll] at C))
            clear hce hcell2
            apply wp_region_mm M 6 (by kernel_rfl) (by kernel_rfl); (simp only [List.take_succ_cons, List.take_zero]; repeat (first | exact wpText_nil | (apply wpText_cons; (intro w2 M; have C := M.ruleAll; simp only [Go.Proofs.Ytinjjaoikofkdaa.ruleAll] at C; go_wp2_with (first | ((with_reducible apply wpM_lda' M 0 43 0 (sqs q.n q.t)); rfl; rfl; rfl; exact ⟨rfl, inf_sqs.trans (congrArg some (sqs_size ..).symm), _, und_sqs, rfl⟩; exact whole_of rfl) | (refine wpList_load_part rfl 43 _ rfl (g) (i * 101) rfl (sqs r.n r.t) _ und_sqs rfl inf_sqs (HCI.out (M.rd 1 rfl)) ?_) | (go_at_call 78; ((with_reducible refine (hF _).mono ?_); rintro e w1 ⟨rfl, hb⟩; have hsz := M.size; (try (have G9 := G.later hb; clear G; have G := G9; clear G9)); have M9 := M.later hb; clear M; (try clear C); have M := M9; clear M9; have C := M.ruleAll; simp only [Go.Proofs.Ytinjjaoikofkdaa.ruleAll] at C))); exact ⟨rfl, rfl, M⟩); rfl))); (clear M; (try clear C); intro w2 M; simp only [List.drop_succ_cons, List.drop_zero]; have C := M.ruleAll; simp only [Go.Proofs.Ytinjjaoikofkdaa.ruleAll] at C)
            have M8 := M.drop 0
            clear M; (try clear C)
            have M : Mm no w w2 (.rd g (ls.length * 101) (fun j => (slC ls).getD j undef) :: .row w.heap.size (.slice (some ⟨go, 0, none⟩) cls.length cv) cls.length vs 85 1 :: clsE w.heap.size 2 vs cls) := M8
            clear M8
            have C := M.ruleAll; simp only [Go.Proofs.Ytinjjaoikofkdaa.ruleAll] at C
            cases b with
            | false =>
              go_wp2
              go_roundw
              case rel =>
                refine ⟨k + 1, by omega, by go_num, .inl ⟨rfl, fun j hj h1 => ?_, M⟩⟩
                rcases Nat.lt_or_eq_of_le (Nat.lt_succ_iff.1 h1) with h2 | rfl
                · exact HL.out j hj h2
                · exact HSM.out
              case measure => simp [intOf]; omega
            | true =>
              have hcj : w2.cell? ⟨go, k, none⟩ = some (.slice (some ⟨gk, 0, none⟩) cls[k].length ck) := by rw [World.ownsRow.cellAt (M.row 1 rfl) k (by omega)]; exact HV.out
              go_wp2_with (first | ((with_reducible apply wpM_bsl' M 85 1 2 ([(0, .int .i64 (i : Int))]) (#[.int .i64 (i : Int)])); rfl; rfl; rfl; exact bsl_i64 _; clear M; (try clear C); intro bi w9 h_bi M; have C := M.ruleAll; simp only [Go.Proofs.Ytinjjaoikofkdaa.ruleAll] at C) | ((with_reducible apply wpM_app' M 85 (k + 3) 0 w.heap.size (.slice (some ⟨gk, 0, none⟩) cls[k].length ck) (cls[k].length) (ints cls[k]) 2 1 8); rfl; exact HG.out; rfl; rfl; rfl; rfl; rfl; exact .inl (Nat.le_refl _); exact M.size; exact und_sli; exact inf_eli; rfl; decide; decide; rfl; rfl; exact flat_c1 rfl; (have := HLE.out; omega); clear M; (try clear C); intro v2 w9 far_v2 M; obtain ⟨pp_v2, cap_v2, rfl⟩ := own_set (i := k + 3) M (show _ = some _ from HG.out); simp only [List.set_cons_zero, List.set_cons_succ, entCells, List.getElem?_cons_zero] at M; have C := M.ruleAll; simp only [Go.Proofs.Ytinjjaoikofkdaa.ruleAll] at C) | ((with_reducible apply wpM_rst' M 2 85 w.heap.size go (cls.length) cv 85 (vs) (k) (.slice pp_v2 (cls[k].length + 1) cap_v2)); rfl; rfl; rfl; rfl; exact ⟨rfl, rfl, inf_slc⟩; exact .inl (Nat.le_refl _); omega; clear M; (try clear C); intro w9 M; simp only [List.set_cons_zero, List.set_cons_succ] at M; have C := M.ruleAll; simp only [Go.Proofs.Ytinjjaoikofkdaa.ruleAll] at C))
              have M8 : Mm no w w9 (.rd g (ls.length * 101) (fun j => (slC ls).getD j undef) :: .row w.heap.size (.slice (some ⟨go, 0, none⟩) cls.length cv) cls.length (vs.set k (.slice pp_v2 (cls[k].length + 1) cap_v2)) 85 1 :: clsE w.heap.size 2 (vs.set k (.slice pp_v2 (cls[k].length + 1) cap_v2)) (cls.modify k (· ++ [i]))) := by
                have h := M.drop 0
                rw [← clsE_set _ hk2]
                exact h
              clear M; (try clear C)
              go_roundw
              case rel =>
                exact ⟨k + 1, by omega, by go_num, .inr ⟨rfl, k, .slice pp_v2 (cls[k].length + 1) cap_v2, List.findIdx?_eq_some_iff_getElem.2 ⟨hk2, HSM.out, fun j hj => by rw [HL.out j (Nat.lt_trans hj hk2) hj]; simp⟩, M8⟩⟩
              case measure => simp [intOf]; omega
          · obtain rfl : k = cls.length := by omega
            have hge : ¬ ((cls.length : Int) < (cls.length : Int)) := by omega
            have hfi : cls.findIdx? (fun c => same (c.headD 0) i) = none := by
              rw [List.findIdx?_eq_none_iff]
              intro c hc
              obtain ⟨j, hj, rfl⟩ := List.getElem_of_mem hc
              exact HL.out j hj hj
            have HST := Hid2.mk (show clsTo same (i + 1) = cls ++ [[i]] by rw [HSTEP.out]; unfold clsStep; rw [hfi])
            have HE := Hid2.mk (fun v => clsE_new (B := w.heap.size) (e := 2) hvl v [i])
            clear hfi
            go_wp2_with (first | ((with_reducible apply wpM_bsl' M 85 1 2 ([(0, .int .i64 (i : Int))]) (#[.int .i64 (i : Int)])); rfl; rfl; rfl; exact bsl_i64 _; clear M; (try clear C); intro bi w9 h_bi M; have C := M.ruleAll; simp only [Go.Proofs.Ytinjjaoikofkdaa.ruleAll] at C) | ((with_reducible apply wpM_bsl' M 50 1 85 ([(0, .slice (some ⟨bi, 0, none⟩) 1 1)]) (#[.slice (some ⟨bi, 0, none⟩) 1 1])); rfl; rfl; rfl; exact bsl_cls1 _; clear M; (try clear C); intro bn w9 h_bn M; have C := M.ruleAll; simp only [Go.Proofs.Ytinjjaoikofkdaa.ruleAll] at C) | ((with_reducible apply wpM_app' M 50 3 0 (w.heap.size) (.slice (some ⟨go, 0, none⟩) cls.length cv) (cls.length) (vs) 85 1 24); rfl; rfl; rfl; rfl; rfl; rfl; rfl; (first | exact .inl (Nat.le_refl _) | exact .inl (by assumption) | exact .inr (by assumption) | exact .inr HDv.out); (first | exact M.size | (have hq := M.size; omega)); exact und_slc; exact inf_elc; rfl; decide; decide; rfl; exact rfl; exact flat_c1 rfl; omega; clear M; (try clear C); intro v2 w9 far_v2 M; simp only [List.set_cons_zero, List.set_cons_succ, entBlk, entT, List.getElem?_cons_zero, List.getElem?_cons_succ] at M; obtain ⟨pp_v2, cap_v2, rfl⟩ := own_form (M.row 3 rfl); have C := M.ruleAll; simp only [Go.Proofs.Ytinjjaoikofkdaa.ruleAll] at C))
            have M6 : Mm no w w9 (.box bi #[.int .i64 (i : Int)] 2 :: .rd g (ls.length * 101) (fun j => (slC ls).getD j undef) :: .row w.heap.size (.slice pp_v2 (cls.length + 1) cap_v2) (cls.length + 1) (vs ++ [.slice (some ⟨bi, 0, none⟩) 1 1]) 85 1 :: clsE w.heap.size 2 vs cls) := M.drop 0
            have M7 := M6.asRow 0 rfl w.heap.size 1 1 h_bi rfl (by decide)
            have M8 := M7.perm (show List.Perm (.row w.heap.size (.slice (some ⟨bi, 0, none⟩) 1 1) 1 [.int .i64 (i : Int)] 2 1 :: .rd g (ls.length * 101) (fun j => (slC ls).getD j undef) :: .row w.heap.size (.slice pp_v2 (cls.length + 1) cap_v2) (cls.length + 1) (vs ++ [.slice (some ⟨bi, 0, none⟩) 1 1]) 85 1 :: clsE w.heap.size 2 vs cls) (.rd g (ls.length * 101) (fun j => (slC ls).getD j undef) :: .row w.heap.size (.slice pp_v2 (cls.length + 1) cap_v2) (cls.length + 1) (vs ++ [.slice (some ⟨bi, 0, none⟩) 1 1]) 85 1 :: clsE w.heap.size 2 (vs ++ [.slice (some ⟨bi, 0, none⟩) 1 1]) (cls ++ [[i]])) by rw [HE.out]; exact (List.perm_append_singleton _ (.rd g (ls.length * 101) (fun j => (slC ls).getD j undef) :: .row w.heap.size (.slice pp_v2 (cls.length + 1) cap_v2) (cls.length + 1) (vs ++ [.slice (some ⟨bi, 0, none⟩) 1 1]) 85 1 :: clsE w.heap.size 2 vs cls)).symm)
            clear M; (try clear C)
            obtain ⟨g3, c3, he9, _, _, _⟩ := own_rds (M8.row 1 rfl) (by omega)
            cases he9
            go_roundw
            case rel =>
              refine ⟨i + 1, by omega, by go_num, g3, cap_v2, vs ++ [.slice (some ⟨bi, 0, none⟩) 1 1], ?_, ?_, ?_⟩
              · rw [HST.out, List.length_append]; rfl
              · rw [HST.out, List.length_append, List.length_append, hvl]; rfl
              · rw [HST.out, List.length_append]; exact M8
            case measure => simp [intOf]; omega
        · have C := M.ruleAll; simp only [Go.Proofs.Ytinjjaoikofkdaa.ruleAll] at C
          have HST := Hid2.mk (show clsTo same (i + 1) = cls.modify j (· ++ [i]) by rw [HSTEP.out]; unfold clsStep; rw [hfi])
          clear hfi
          by_cases hk2 : k < cls.length
          · have hk2' : (k : Int) < (cls.length : Int) := by omega
            go_wp2
            go_roundw
            case rel =>
              refine ⟨i + 1, by omega, by go_num, go, cv, vs.set j v', ?_, ?_, ?_⟩
              · rw [HST.out, List.length_modify]
              · rw [HST.out, List.length_modify, List.length_set]; exact hvl
              · rw [HST.out, List.length_modify]; exact M
            case measure => simp [intOf]; omega
          · have hk2' : ¬ (k : Int) < (cls.length : Int) := by omega
            go_wp2
            go_roundw
            case rel =>
              refine ⟨i + 1, by omega, by go_num, go, cv, vs.set j v', ?_, ?_, ?_⟩
              · rw [HST.out, List.length_modify]
              · rw [HST.out, List.length_modify, List.length_set]; exact hvl
              · rw [HST.out, List.length_modify]; exact M
            case measure => simp [intOf]; omega
    · obtain rfl : i = ls.length := by omega
      have hge : ¬ ((ls.length : Int) < (ls.length : Int)) := by omega
      go_wp2
      go_ret
      exact ⟨_, rfl, vs, hvl, M.drop 0⟩
end Go.Proofs.Ytinjjaoikofkdaa

/- Lists of lists of numbers in the laws: compared, marked, held. Printed by gen/j5.py. -/
namespace Go.Proofs.Ytinjjaoikofkdaa
set_option linter.unusedSimpArgs false
set_option linter.unusedVariables false
open Go Go.RowKit

/-- The number at a place. -/
def elI (xs : List Int) (j : Nat) : Int := xs.getD j 0
/-- A row of numbers. -/
def intF (xs : List Int) (j : Nat) : Value := .int .i64 (elI xs j)
theorem und_sl64 : Try.prog.underlying 85 = some (.slice 2) := by kernel_rfl
theorem inf_el64 : (Try.prog.info? 2).map (fun i => (i.zero, i.size, i.bytes)) = some (some (.int .i64 0), 1, 8) := by kernel_rfl
def intC (xs : List Int) (cs : Array Value) : Prop := cs.size = xs.length ∧ ∀ j, j < xs.length → cs[j]? = some (intF xs j)

set_option maxRecDepth 100000 in
set_option maxHeartbeats 1000000 in
theorem eqInt64S_any (xs : List Int) (hn : xs.length ≤ 9223372036854775807) (w : World) (p1 p2 : Option Addr) (c1 c2 : Nat) (h1 : rdq w p1 xs.length (intF xs)) (h2 : rdq w p2 xs.length (intF xs)) :
    Calls Try.prog 62 #[.slice p1 xs.length c1, .slice p2 xs.length c2] w fun e w' => e = .returned (.bool true) ∧ Below w.heap.size w w' := by
  have M := Mm.start no w
  have he : ((xs.length : Int) == (xs.length : Int)) = true := by simp
  have F1 := Hid2.mk (fun w1 (hb : Below w.heap.size w w1) => h1.later hb)
  have F2 := Hid2.mk (fun w1 (hb : Below w.heap.size w w1) => h2.later hb)
  clear h1 h2
  go_enter Try.func62, Try.ntmps62
  go_wp2
  go_loopw [5] (fun i wr => ∃ k : Nat, k ≤ xs.length ∧ i = .int .i64 (k : Int) ∧ Mm no w wr []) (fun i _ => xs.length - (intOf i).toNat)
  case atStart => exact ⟨0, by omega, rfl, M⟩
  case round =>
    obtain ⟨k, hk, rfl, M9⟩ := hrel
    clear M
    have M := M9
    clear M9
    by_cases hlt : k < xs.length
    · have hlt' : (k : Int) < (xs.length : Int) := by omega
      obtain ⟨g1, rfl, _⟩ := F1.out _ M.below (by omega)
      obtain ⟨g2, rfl, _⟩ := F2.out _ M.below (by omega)
      have hc1 : ∀ w1, Below w.heap.size w w1 → w1.cell? ⟨g1, k, none⟩ = some (.int .i64 (elI xs k)) := fun w1 hb => by
        obtain ⟨g, e, hr⟩ := F1.out w1 hb (by omega)
        cases e
        exact hr.at_ k hlt
      have hc2 : ∀ w1, Below w.heap.size w w1 → w1.cell? ⟨g2, k, none⟩ = some (.int .i64 (elI xs k)) := fun w1 hb => by
        obtain ⟨g, e, hr⟩ := F2.out w1 hb (by omega)
        cases e
        exact hr.at_ k hlt
      generalize elI xs k = x at hc1 hc2
      have hx : (x == x) = true := by simp
      have C1 := Hid2.mk hc1
      have C2 := Hid2.mk hc2
      clear hc1 hc2
      go_wp2
      apply wp_region_mm M 8 (by kernel_rfl) (by kernel_rfl)
      · simp only [List.take_succ_cons, List.take_zero]
        repeat (first | exact wpText_nil | (apply wpText_cons; (intro w2 M; have hd1 := C1.out _ M.below; have hd2 := C2.out _ M.below; go_wp2; exact ⟨rfl, rfl, M⟩); rfl))
      clear M
      intro w2 M
      simp only [List.drop_succ_cons, List.drop_zero]
      go_wp2
      go_roundw
      case rel => exact ⟨k + 1, by omega, by go_num, M⟩
      case measure => simp [intOf]; omega
    · obtain rfl : k = xs.length := by omega
      have hge : ¬ ((xs.length : Int) < (xs.length : Int)) := by omega
      go_wp2
      go_ret
      exact ⟨rfl, M.below⟩

theorem rdq.congr {w : World} {p : Option Addr} {n : Nat} {f f' : Nat → Value} (h : rdq w p n f) (he : ∀ j, j < n → f j = f' j) : rdq w p n f' := fun hn => by
  obtain ⟨g, e, hr⟩ := h hn
  exact ⟨g, e, hr.lt, fun j hj => by rw [← he j hj]; exact hr.at_ j hj⟩
def toI (c : List Nat) : List Int := c.map fun (i : Nat) => (i : Int)
theorem toI_len (c : List Nat) : (toI c).length = c.length := by simp [toI]
theorem ints_getD (c : List Nat) {j : Nat} (hj : j < c.length) : (ints c).getD j undef = intF (toI c) j := by
  unfold intF elI toI ints
  rw [List.getD_eq_getElem?_getD, List.getD_eq_getElem?_getD, List.getElem?_map, List.getElem?_map, List.getElem?_eq_getElem hj]
  rfl
/-- A list of lists of numbers that a slice of slices holds, read. -/
def ClsHere (w : World) (v : Value) (cls : List (List Nat)) : Prop :=
  ∃ (pp : Option Addr) (cap : Nat) (vs : List Value), v = .slice pp cls.length cap ∧ vs.length = cls.length ∧ rdq w pp cls.length (fun j => vs.getD j undef) ∧ ∀ k (hk : k < cls.length), ∃ p c, vs.getD k undef = .slice p cls[k].length c ∧ rdq w p cls[k].length (intF (toI cls[k]))
theorem ClsHere.kept {w w' : World} {v : Value} {cls : List (List Nat)} (h : ClsHere w v cls) (hk : ∀ p n f, rdq w p n f → rdq w' p n f) : ClsHere w' v cls := by
  obtain ⟨pp, cap, vs, e, hl, hr, hc⟩ := h
  exact ⟨pp, cap, vs, e, hl, hk _ _ _ hr, fun k hk' => by
    obtain ⟨p, c, e, hr⟩ := hc k hk'
    exact ⟨p, c, e, hk _ _ _ hr⟩⟩
theorem ClsHere.later {w w' : World} {v : Value} {cls : List (List Nat)} (h : ClsHere w v cls) (hb : Below w.heap.size w w') : ClsHere w' v cls := h.kept fun _ _ _ h => h.later hb
theorem ClsHere.of {w : World} {B eo ei : Nat} {v : Value} {vs : List Value} {cls : List (List Nat)} (hvl : vs.length = cls.length) (hE : ∀ x ∈ Ent.row B v cls.length vs eo 1 :: clsE B ei vs cls, x.holds w) : ClsHere w v cls := by
  have h0 : w.ownsRow B eo 1 v cls.length vs := hE _ (List.mem_cons_self ..)
  obtain ⟨pp, cap, rfl⟩ := own_form h0
  have hr := rdq_of_own h0
  rw [Nat.mul_one] at hr
  refine ⟨pp, cap, vs, rfl, hvl, hr, fun k hk => ?_⟩
  have h1 : w.ownsRow B ei 1 (vs[k]'(by omega)) cls[k].length (ints cls[k]) := hE (.row B (vs[k]'(by omega)) cls[k].length (ints cls[k]) ei 1) (List.mem_cons_of_mem _ (List.mem_of_getElem? (clsE_get (by omega) hk)))
  obtain ⟨p, c, e⟩ := own_form h1
  rw [e] at h1
  have hr1 := rdq_of_own h1
  rw [Nat.mul_one] at hr1
  exact ⟨p, c, by rw [getD_at (by omega)]; exact e, hr1.congr fun j hj => ints_getD _ hj⟩

set_option maxRecDepth 100000 in
set_option maxHeartbeats 1000000 in
theorem eqInt64SS_any (cls : List (List Nat)) (hn : cls.length ≤ 1048576) (hc : ∀ c ∈ cls, c.length ≤ 1048576) (w : World) (v1 v2 : Value) (h1 : ClsHere w v1 cls) (h2 : ClsHere w v2 cls) :
    Calls Try.prog 23 #[v1, v2] w fun e w' => e = .returned (.bool true) ∧ Below w.heap.size w w' := by
  obtain ⟨p1, c1, vs1, rfl, hl1, hr1, hk1⟩ := h1
  obtain ⟨p2, c2, vs2, rfl, hl2, hr2, hk2⟩ := h2
  have M := Mm.start no w
  have he : ((cls.length : Int) == (cls.length : Int)) = true := by simp
  have F1 := Hid2.mk (fun w1 (hb : Below w.heap.size w w1) => hr1.later hb)
  have F2 := Hid2.mk (fun w1 (hb : Below w.heap.size w w1) => hr2.later hb)
  have HK1 := Hid2.mk hk1
  have HK2 := Hid2.mk hk2
  have HC := Hid2.mk hc
  clear hr1 hr2 hk1 hk2 hc
  go_enter Try.func23, Try.ntmps23
  go_wp2
  go_loopw [5] (fun i wr => ∃ k : Nat, k ≤ cls.length ∧ i = .int .i64 (k : Int) ∧ Mm no w wr []) (fun i _ => cls.length - (intOf i).toNat)
  case atStart => exact ⟨0, by omega, rfl, M⟩
  case round =>
    obtain ⟨k, hk, rfl, M9⟩ := hrel
    clear M
    have M := M9
    clear M9
    by_cases hlt : k < cls.length
    · have hlt' : (k : Int) < (cls.length : Int) := by omega
      obtain ⟨g1, rfl, _⟩ := F1.out _ M.below (by omega)
      obtain ⟨g2, rfl, _⟩ := F2.out _ M.below (by omega)
      obtain ⟨q1, d1, e1, hq1⟩ := HK1.out k hlt
      obtain ⟨q2, d2, e2, hq2⟩ := HK2.out k hlt
      have hc1 : ∀ w1, Below w.heap.size w w1 → w1.cell? ⟨g1, k, none⟩ = some (.slice q1 cls[k].length d1) := fun w1 hb => by
        obtain ⟨g, e, hr⟩ := F1.out w1 hb (by omega)
        cases e
        rw [hr.at_ k hlt, e1]
      have hc2 : ∀ w1, Below w.heap.size w w1 → w1.cell? ⟨g2, k, none⟩ = some (.slice q2 cls[k].length d2) := fun w1 hb => by
        obtain ⟨g, e, hr⟩ := F2.out w1 hb (by omega)
        cases e
        rw [hr.at_ k hlt, e2]
      have HE := fun w1 (hb : Below w.heap.size w w1) => eqInt64S_any (toI cls[k]) (by rw [toI_len]; have := HC.out _ (List.getElem_mem hlt); omega) w1 q1 q2 d1 d2 (by rw [toI_len]; exact hq1.later hb) (by rw [toI_len]; exact hq2.later hb)
      rw [toI_len] at HE
      have C1 := Hid2.mk hc1
      have C2 := Hid2.mk hc2
      clear hc1 hc2 e1 e2 hq1 hq2
      go_wp2
      apply wp_region_mm M 8 (by kernel_rfl) (by kernel_rfl)
      · simp only [List.take_succ_cons, List.take_zero]
        repeat (first | exact wpText_nil | (apply wpText_cons; (intro w2 M; have hd1 := C1.out _ M.below; have hd2 := C2.out _ M.below; go_wp2; exact ⟨rfl, rfl, M⟩); rfl))
      clear M
      intro w2 M
      simp only [List.drop_succ_cons, List.drop_zero]
      go_wp2_with (first | (go_at_call 62; ((with_reducible refine (HE _ M.below).mono ?_); rintro e w1 ⟨rfl, hb⟩; have hsz := M.size; have M9 := M.later hb; clear M; (try clear C); have M := M9; clear M9; (try simp only [List.set_cons_zero, List.set_cons_succ] at M); have C := M.ruleAll; simp only [Go.Proofs.Ytinjjaoikofkdaa.ruleAll] at C)))
      go_roundw
      case rel => exact ⟨k + 1, by omega, by go_num, M⟩
      case measure => simp [intOf]; omega
    · obtain rfl : k = cls.length := by omega
      have hge : ¬ ((cls.length : Int) < (cls.length : Int)) := by omega
      go_wp2
      go_ret
      exact ⟨rfl, M.below⟩

/-- n numbers from k on. -/
def mkV (k : Int) (n : Nat) : List Value := (List.range n).map fun (j : Nat) => .int .i64 (k + (j : Int))
theorem mkV_get {k : Int} {n j : Nat} (hj : j < n) : (mkV k n)[j]? = some (.int .i64 (k + (j : Int))) := by
  unfold mkV; rw [List.getElem?_map, List.getElem?_range hj]; rfl

set_option maxRecDepth 100000 in
set_option maxHeartbeats 1000000 in
theorem markInt64S_any (B : Nat) (v : Value) (n : Nat) (xs : List Value) (k : Int) (h0 : 0 ≤ k) (h1 : k + (n : Int) ≤ 4611686018427387904) (w : World) (h : w.ownsRow B 2 1 v n xs) :
    Calls Try.prog 64 #[v, .int .i64 k] w fun e w' => e = .returned (.int .i64 (k + (n : Int))) ∧ Kept (fun b => v.ownBlock = some b) w w' ∧ w'.ownsRow B 2 1 v n (mkV k n) := by
  have hlen : xs.length = n := by have := h.1; omega
  have M := ((Mm.start no w).only (fun b => v.ownBlock = some b)).add (x := .row B v n xs 2 1) h fun _ h => by cases h
  obtain ⟨pp, cap, rfl⟩ := own_form h
  clear h
  go_enter Try.func64, Try.ntmps64
  go_wp2
  go_loopw [5, 1] (fun i z wr => ∃ j : Nat, j ≤ n ∧ i = .int .i64 (j : Int) ∧ z = .int .i64 (k + (j : Int)) ∧ ∃ cur : List Value, cur.length = n ∧ (∀ t, t < j → cur[t]? = some (.int .i64 (k + (t : Int)))) ∧ Mm (fun b => (Value.slice pp n cap).ownBlock = some b) w wr [.row B (.slice pp n cap) n cur 2 1]) (fun i _ _ => n - (intOf i).toNat)
  case atStart => exact ⟨0, by omega, rfl, by simp, xs, hlen, fun t h => by omega, M⟩
  case round =>
    obtain ⟨j, hj, rfl, rfl, cur, hcl, hcur, M9⟩ := hrel
    clear M
    have M := M9
    clear M9
    have HCU := Hid2.mk hcur
    clear hcur
    by_cases hlt : j < n
    · have hlt' : (j : Int) < (n : Int) := by omega
      obtain ⟨g, cap', he, _, _, _⟩ := own_rds (M.row 0 rfl) (by omega)
      cases he
      have hown := M.row 0 rfl
      have hcell := World.ownsRow.cellAt hown j (by omega)
      rw [List.getElem?_eq_getElem (show j < cur.length by omega)] at hcell
      have hw : wrap64 (k + (j : Int) + 1) = k + ((j + 1 : Nat) : Int) := by rw [wrap_small _ (by omega) (by omega)]; omega
      clear hown
      go_wp2_with (first | ((with_reducible apply wpM_rst' M 0 2 B g n cap 2 cur j (.int .i64 (k + (j : Int)))); rfl; rfl; rfl; rfl; exact ⟨rfl, rfl, by kernel_rfl⟩; exact .inr rfl; exact hlt; (clear M; intro w9 M)))
      go_roundw
      case rel =>
        refine ⟨j + 1, by omega, by go_num, by first | rfl | (congr 1; omega), cur.set j (.int .i64 (k + (j : Int))), by rw [List.length_set]; exact hcl, fun t ht => ?_, M⟩
        rw [List.getElem?_set]
        split
        · rename_i e; subst e; rw [if_pos (by omega)]
        · exact HCU.out t (by omega)
      case measure => simp [intOf]; omega
    · obtain rfl : j = n := by omega
      have hge : ¬ ((j : Int) < (j : Int)) := by omega
      have e : cur = mkV k j := by
        apply List.ext_getElem?
        intro t
        rcases Nat.lt_or_ge t j with ht | ht
        · rw [HCU.out t ht, mkV_get ht]
        · rw [List.getElem?_eq_none (by omega), List.getElem?_eq_none (by simp [mkV]; exact ht)]
      have HE := Hid2.mk e
      clear e
      go_wp2
      go_ret
      exact ⟨rfl, M.kept, by rw [← HE.out]; exact M.row 0 rfl⟩

set_option maxRecDepth 100000 in
set_option maxHeartbeats 1000000 in
theorem heldInt64S_any (p : Option Addr) (n cap : Nat) (k : Int) (h0 : 0 ≤ k) (h1 : k + (n : Int) ≤ 4611686018427387904) (w : World) (h : rdq w p n (fun j => .int .i64 (k + (j : Int)))) :
    Calls Try.prog 65 #[.slice p n cap, .int .i64 k] w fun e w' => e = .returned (.int .i64 (k + (n : Int))) ∧ Below w.heap.size w w' := by
  have M := Mm.start no w
  have F1 := Hid2.mk (fun w1 (hb : Below w.heap.size w w1) => h.later hb)
  clear h
  go_enter Try.func65, Try.ntmps65
  go_wp2
  go_loopw [5, 1] (fun i z wr => ∃ j : Nat, j ≤ n ∧ i = .int .i64 (j : Int) ∧ z = .int .i64 (k + (j : Int)) ∧ Mm no w wr []) (fun i _ _ => n - (intOf i).toNat)
  case atStart => exact ⟨0, by omega, rfl, by simp, M⟩
  case round =>
    obtain ⟨j, hj, rfl, rfl, M9⟩ := hrel
    clear M
    have M := M9
    clear M9
    by_cases hlt : j < n
    · have hlt' : (j : Int) < (n : Int) := by omega
      obtain ⟨g, rfl, hr⟩ := F1.out _ M.below (by omega)
      have hcell := hr.at_ j hlt
      have hx : (k + (j : Int) == k + (j : Int)) = true := by simp
      have hw : wrap64 (k + (j : Int) + 1) = k + ((j + 1 : Nat) : Int) := by rw [wrap_small _ (by omega) (by omega)]; omega
      clear hr
      go_wp2
      go_roundw
      case rel => exact ⟨j + 1, by omega, by go_num, by first | rfl | (congr 1; omega), M⟩
      case measure => simp [intOf]; omega
    · obtain rfl : j = n := by omega
      have hge : ¬ ((j : Int) < (j : Int)) := by omega
      go_wp2
      go_ret
      exact ⟨rfl, M.below⟩

set_option maxRecDepth 100000 in
set_option maxHeartbeats 1000000 in
theorem markSquareS_any (g n t : Nat) (cs : Array Value) (hcs : cs.size = n * 101) (hn : n ≤ 1048576) (cap : Nat) (k : Int) (h0 : 0 ≤ k) (h1 : k ≤ 1048576) (w : World) (h : blk w g cs t) :
    Calls Try.prog 25 #[.slice (some ⟨g, 0, none⟩) n cap, .int .i64 k] w fun e w' => e = .returned (.int .i64 (k + (n : Int))) ∧ w.grownBy w' (some g) ∧ ∃ cs' : Array Value, blk w' g cs' t := by
  have M := ((Mm.start no w).only (fun b => b = g)).add (x := .box g cs t) h fun _ h => by cases h
  clear h
  have C := M.ruleAll; simp only [Go.Proofs.Ytinjjaoikofkdaa.ruleAll] at C
  go_enter Try.func25, Try.ntmps25
  go_wp2
  go_loopw [5, 1] (fun i z wr => ∃ j : Nat, j ≤ n ∧ i = .int .i64 (j : Int) ∧ z = .int .i64 (k + (j : Int)) ∧ ∃ cur : Array Value, cur.size = n * 101 ∧ Mm (fun b => b = g) w wr [.box g cur t]) (fun i _ _ => n - (intOf i).toNat)
  case atStart => exact ⟨0, by omega, rfl, by simp, cs, hcs, M⟩
  case round =>
    obtain ⟨j, hj, rfl, rfl, cur, hcl, M9⟩ := hrel
    clear M; (try clear C)
    have M := M9
    clear M9
    have C := M.ruleAll; simp only [Go.Proofs.Ytinjjaoikofkdaa.ruleAll] at C
    by_cases hlt : j < n
    · have hlt' : (j : Int) < (n : Int) := by omega
      have hw : wrap64 (k + (j : Int) + 1) = k + ((j + 1 : Nat) : Int) := by rw [wrap_small _ (by omega) (by omega)]; omega
      go_wp2_with (first | ((with_reducible apply wpM_st' M 0 2 (j * 101) (cur.setIfInBounds (j * 101) (.int .i64 (k + (j : Int))))); rfl; rfl; rfl; exact .inr rfl; exact ⟨rfl, rfl, by kernel_rfl⟩; exact Nat.lt_of_lt_of_eq (show j * 101 < n * 101 by omega) hcl.symm; exact rfl; (clear M; (try clear C); intro w9 M; simp only [List.set_cons_zero, entBlk, entT, List.getElem?_cons_zero] at M; have C := M.ruleAll; simp only [Go.Proofs.Ytinjjaoikofkdaa.ruleAll] at C)))
      go_roundw
      case rel => exact ⟨j + 1, by omega, by go_num, by first | rfl | (congr 1; omega), _, by rw [Array.size_setIfInBounds]; exact hcl, M⟩
      case measure => simp [intOf]; omega
    · obtain rfl : j = n := by omega
      have hge : ¬ ((j : Int) < (j : Int)) := by omega
      go_wp2
      go_ret
      exact ⟨rfl, M.kept.grown, cur, M.box 0 rfl⟩

def tot (cls : List (List Nat)) : Nat := (cls.map List.length).sum
theorem tot_take {cls : List (List Nat)} {j : Nat} (hj : j < cls.length) : tot (cls.take (j + 1)) = tot (cls.take j) + cls[j].length := by
  unfold tot
  rw [List.take_succ_eq_append_getElem hj, List.map_append, List.sum_append]; simp
theorem tot_le {cls : List (List Nat)} {m : Nat} (h : ∀ c ∈ cls, c.length ≤ m) : tot cls ≤ cls.length * m := by
  unfold tot
  induction cls with
  | nil => simp
  | cons c l ih =>
    have h1 := h c (List.mem_cons_self ..)
    have h2 := ih fun c hc => h c (List.mem_cons_of_mem _ hc)
    simp only [List.map_cons, List.sum_cons, List.length_cons, Nat.succ_mul]
    omega
/-- The contents of the rows as far as j have been marked. -/
def mkdTo (k : Int) (cls : List (List Nat)) (j : Nat) : List (List Value) := (List.range cls.length).map fun t => if t < j then mkV (k + (tot (cls.take t) : Nat)) (cls.getD t []).length else ints (cls.getD t [])
theorem mkdTo_len (k : Int) (cls : List (List Nat)) (j : Nat) : (mkdTo k cls j).length = cls.length := by simp [mkdTo]
theorem mkdTo_get {k : Int} {cls : List (List Nat)} {j t : Nat} (ht : t < cls.length) : (mkdTo k cls j)[t]? = some (if t < j then mkV (k + (tot (cls.take t) : Nat)) cls[t].length else ints cls[t]) := by
  unfold mkdTo
  rw [List.getElem?_map, List.getElem?_range ht, Option.map_some, getD_at ht]
theorem mkdTo_set {k : Int} {cls : List (List Nat)} {j : Nat} (hj : j < cls.length) : (mkdTo k cls j).set j (mkV (k + (tot (cls.take j) : Nat)) cls[j].length) = mkdTo k cls (j + 1) := by
  apply List.ext_getElem?
  intro t
  rw [List.getElem?_set, mkdTo_len]
  rcases Nat.lt_or_ge t cls.length with ht | ht
  · by_cases e : j = t
    · subst e; rw [if_pos rfl, if_pos hj, mkdTo_get hj, if_pos (by omega)]
    · rw [if_neg e, mkdTo_get ht, mkdTo_get ht]
      by_cases h2 : t < j
      · rw [if_pos h2, if_pos (by omega)]
      · rw [if_neg h2, if_neg (by omega)]
  · rw [if_neg (by omega), List.getElem?_eq_none (by rw [mkdTo_len]; exact ht), List.getElem?_eq_none (by rw [mkdTo_len]; exact ht)]
def clsM (B e : Nat) (vs : List Value) (css : List (List Value)) : List Ent := List.zipWith (fun v c => .row B v c.length c e 1) vs css
theorem clsM_get {B e : Nat} {vs : List Value} {css : List (List Value)} {k : Nat} {v : Value} {c : List Value} (hv : vs[k]? = some v) (hc : css[k]? = some c) : (clsM B e vs css)[k]? = some (.row B v c.length c e 1) := by
  simp [clsM, List.getElem?_zipWith, hv, hc]
theorem clsM_set {B e : Nat} {vs : List Value} {css : List (List Value)} {k : Nat} {v : Value} (hv : vs[k]? = some v) (c : List Value) : (clsM B e vs css).set k (.row B v c.length c e 1) = clsM B e vs (css.set k c) := by
  apply List.ext_getElem?
  intro j
  simp only [clsM, List.getElem?_set, List.getElem?_zipWith, List.length_zipWith]
  by_cases hj : k = j
  · subst hj
    have hlt := (List.getElem?_eq_some_iff.1 hv).1
    by_cases hc : k < css.length
    · have : k < min vs.length css.length := by omega
      simp [hc, hv, this]
    · have : ¬ k < min vs.length css.length := by omega
      simp [hc, hv, this]
  · simp [hj]
theorem clsM_zero (B e : Nat) (vs : List Value) (cls : List (List Nat)) (k : Int) : clsM B e vs (mkdTo k cls 0) = clsE B e vs cls := by
  apply List.ext_getElem?
  intro j
  simp only [clsM, clsE, List.getElem?_zipWith]
  rcases Nat.lt_or_ge j cls.length with hj | hj
  · rw [mkdTo_get hj, if_neg (by omega), List.getElem?_eq_getElem hj]
    cases vs[j]? <;> simp [ints_len]
  · rw [List.getElem?_eq_none (l := mkdTo k cls 0) (by rw [mkdTo_len]; exact hj), List.getElem?_eq_none (l := cls) hj]
    cases vs[j]? <;> rfl

set_option maxRecDepth 100000 in
set_option maxHeartbeats 1000000 in
theorem markInt64SS_any (cls : List (List Nat)) (vs : List Value) (hvl : vs.length = cls.length) (hn : cls.length ≤ 1048576) (hc : ∀ c ∈ cls, c.length ≤ 1048576) (B : Nat) (v : Value) (k : Int) (h0 : 0 ≤ k) (h1 : k ≤ 1048576) (L : List Ent) (w0 w : World) (hB : w0.heap.size ≤ B)
    (M : Mm no w0 w (.row B v cls.length vs 85 1 :: (clsE B 2 vs cls ++ L))) :
    Calls Try.prog 26 #[v, .int .i64 k] w fun e w' => e = .returned (.int .i64 (k + (tot cls : Nat))) ∧ Mm no w0 w' (.row B v cls.length vs 85 1 :: (clsM B 2 vs (mkdTo k cls cls.length) ++ L)) := by
  have M9 := M
  rw [← clsM_zero B 2 vs cls k] at M9
  clear M
  have M := M9
  clear M9
  have htl : ∀ j, tot (cls.take j) ≤ 1099511627776 := fun j => by
    have h2 := tot_le (cls := cls.take j) (m := 1048576) fun c h => hc c (List.mem_of_mem_take h)
    have h3 : (cls.take j).length ≤ 1048576 := by rw [List.length_take]; omega
    have h4 : (cls.take j).length * 1048576 ≤ 1048576 * 1048576 := Nat.mul_le_mul_right _ h3
    omega
  have HTL := Hid2.mk htl
  have HC := Hid2.mk hc
  clear htl hc
  obtain ⟨pp, cap, rfl⟩ := own_form (M.row 0 rfl)
  go_enter Try.func26, Try.ntmps26
  go_wp2
  go_loopw [5, 1] (fun i z wr => ∃ j : Nat, j ≤ cls.length ∧ i = .int .i64 (j : Int) ∧ z = .int .i64 (k + (tot (cls.take j) : Nat)) ∧ Mm no w0 wr (.row B (.slice pp cls.length cap) cls.length vs 85 1 :: (clsM B 2 vs (mkdTo k cls j) ++ L))) (fun i _ _ => cls.length - (intOf i).toNat)
  case atStart => exact ⟨0, by omega, rfl, by simp [tot], M⟩
  case round =>
    obtain ⟨j, hj, rfl, rfl, M9⟩ := hrel
    clear M
    have M := M9
    clear M9
    by_cases hlt : j < cls.length
    · have hlt' : (j : Int) < (cls.length : Int) := by omega
      obtain ⟨g, cap', he, _, _, _⟩ := own_rds (M.row 0 rfl) (by omega)
      cases he
      have hvj : vs[j]? = some (vs[j]'(by omega)) := List.getElem?_eq_getElem _
      have hcell : wr.cell? ⟨g, j, none⟩ = some (vs[j]'(by omega)) := by rw [World.ownsRow.cellAt (M.row 0 rfl) j (by omega)]; exact hvj
      have hget : (clsM B 2 vs (mkdTo k cls j))[j]? = some (.row B (vs[j]'(by omega)) (ints cls[j]).length (ints cls[j]) 2 1) := clsM_get hvj (by rw [mkdTo_get hlt, if_neg (by omega)])
      have hget2 : (.row B (.slice (some ⟨g, 0, none⟩) cls.length cap) cls.length vs 85 1 :: (clsM B 2 vs (mkdTo k cls j) ++ L))[j + 1]? = some (.row B (vs[j]'(by omega)) (ints cls[j]).length (ints cls[j]) 2 1) := by
        rw [List.getElem?_cons_succ, List.getElem?_append_left (List.getElem?_eq_some_iff.1 hget).1]; exact hget
      have hown : wr.ownsRow B 2 1 (vs[j]'(by omega)) cls[j].length (ints cls[j]) := by
        have := M.row (j + 1) hget2
        rwa [ints_len] at this
      have hjl := HC.out cls[j] (List.getElem_mem hlt)
      have htj := HTL.out j
      have HM := markInt64S_any B (vs[j]'(by omega)) cls[j].length (ints cls[j]) (k + (tot (cls.take j) : Nat)) (by omega) (by omega) wr hown
      have htt := tot_take hlt
      have HNX := Hid2.mk (fun w' (hk : Kept (fun b => (vs[j]'(by omega)).ownBlock = some b) wr w') (ho : w'.ownsRow B 2 1 (vs[j]'(by omega)) cls[j].length (mkV (k + (tot (cls.take j) : Nat)) cls[j].length)) =>
        show Mm no w0 w' (.row B (.slice (some ⟨g, 0, none⟩) cls.length cap) cls.length vs 85 1 :: (clsM B 2 vs (mkdTo k cls (j + 1)) ++ L)) by
          have hl : (mkV (k + (tot (cls.take j) : Nat)) cls[j].length).length = cls[j].length := by simp [mkV]
          have h9 := M.set (j + 1) hget2 hk (fun _ h => h) (fun b hb h => by have := (World.ownsRow.lt hown b h).1; omega) (y := .row B (vs[j]'(by omega)) (mkV (k + (tot (cls.take j) : Nat)) cls[j].length).length (mkV (k + (tot (cls.take j) : Nat)) cls[j].length) 2 1) (by rw [hl]; exact ho) (fun b h => .inl h)
          rw [List.set_cons_succ, List.set_append_left _ _ (List.getElem?_eq_some_iff.1 hget).1, clsM_set hvj, mkdTo_set hlt] at h9
          exact h9)
      generalize vs[j]'(by omega) = vj at hcell HM HNX
      have hz : k + ((tot (cls.take j) : Nat) : Int) + (cls[j].length : Int) = k + ((tot (cls.take (j + 1)) : Nat) : Int) := by rw [htt]; omega
      rw [hz] at HM
      have HLT := Hid2.mk hlt
      clear hvj hget hget2 hown htt hz htj hjl
      go_wp2_with (first | (go_at_call 64; fail))
      refine HM.mono ?_
      rintro e w1 ⟨rfl, hk9, ho9⟩
      have M8 := HNX.out w1 hk9 ho9
      clear M
      go_wp2
      go_roundw
      case rel => exact ⟨j + 1, by have := HLT.out; omega, by go_num, rfl, M8⟩
      case measure => have := HLT.out; simp [intOf]; omega
    · obtain rfl : j = cls.length := by omega
      have hge : ¬ ((cls.length : Int) < (cls.length : Int)) := by omega
      go_wp2
      go_ret
      exact ⟨rfl, M⟩

/-- A list of lists that has been marked, read. -/
def MkHere (w : World) (v : Value) (k : Int) (cls : List (List Nat)) : Prop :=
  ∃ (pp : Option Addr) (cap : Nat) (vs : List Value), v = .slice pp cls.length cap ∧ rdq w pp cls.length (fun j => vs.getD j undef) ∧ ∀ j (hj : j < cls.length), ∃ p c, vs.getD j undef = .slice p cls[j].length c ∧ rdq w p cls[j].length (fun t => .int .i64 (k + (tot (cls.take j) : Nat) + (t : Int)))
theorem MkHere.later {w w' : World} {v : Value} {k : Int} {cls : List (List Nat)} (h : MkHere w v k cls) (hb : Below w.heap.size w w') : MkHere w' v k cls := by
  obtain ⟨pp, cap, vs, e, hr, hc⟩ := h
  exact ⟨pp, cap, vs, e, hr.later hb, fun j hj => by
    obtain ⟨p, c, e, h2⟩ := hc j hj
    exact ⟨p, c, e, h2.later hb⟩⟩
theorem MkHere.of {w0 w : World} {B eo ei : Nat} {v : Value} {vs : List Value} {cls : List (List Nat)} {k : Int} {L : List Ent} (hvl : vs.length = cls.length) (M : Mm no w0 w (.row B v cls.length vs eo 1 :: (clsM B ei vs (mkdTo k cls cls.length) ++ L))) : MkHere w v k cls := by
  have h0 := M.row 0 rfl
  obtain ⟨pp, cap, rfl⟩ := own_form h0
  have hr := rdq_of_own h0
  rw [Nat.mul_one] at hr
  refine ⟨pp, cap, vs, rfl, hr, fun j hj => ?_⟩
  have hvj : vs[j]? = some (vs[j]'(by omega)) := List.getElem?_eq_getElem _
  have hget := clsM_get (B := B) (e := ei) hvj (mkdTo_get (k := k) (j := cls.length) hj)
  rw [if_pos hj] at hget
  have h1 := M.mem (x := .row B (vs[j]'(by omega)) (mkV (k + (tot (cls.take j) : Nat)) cls[j].length).length (mkV (k + (tot (cls.take j) : Nat)) cls[j].length) ei 1) (List.mem_cons_of_mem _ (List.mem_append_left _ (List.mem_of_getElem? hget)))
  have hl : (mkV (k + (tot (cls.take j) : Nat)) cls[j].length).length = cls[j].length := by simp [mkV]
  rw [hl] at h1
  have h2 : w.ownsRow B ei 1 (vs[j]'(by omega)) cls[j].length (mkV (k + (tot (cls.take j) : Nat)) cls[j].length) := h1
  obtain ⟨p, c, e⟩ := own_form h2
  rw [e] at h2
  have h3 := rdq_of_own h2
  rw [Nat.mul_one] at h3
  exact ⟨p, c, by rw [getD_at (by omega)]; exact e, h3.congr fun t ht => by rw [List.getD_eq_getElem?_getD, mkV_get ht]; rfl⟩

set_option maxRecDepth 100000 in
set_option maxHeartbeats 1000000 in
theorem heldInt64SS_any (cls : List (List Nat)) (hn : cls.length ≤ 1048576) (hc : ∀ c ∈ cls, c.length ≤ 1048576) (v : Value) (k : Int) (h0 : 0 ≤ k) (h1 : k ≤ 1048576) (w : World) (h : MkHere w v k cls) :
    Calls Try.prog 27 #[v, .int .i64 k] w fun e w' => e = .returned (.int .i64 (k + (tot cls : Nat))) ∧ Below w.heap.size w w' := by
  obtain ⟨pp, cap, vs, rfl, hr, hk⟩ := h
  have M := Mm.start no w
  have htl : ∀ j, tot (cls.take j) ≤ 1099511627776 := fun j => by
    have h2 := tot_le (cls := cls.take j) (m := 1048576) fun c h => hc c (List.mem_of_mem_take h)
    have h3 : (cls.take j).length ≤ 1048576 := by rw [List.length_take]; omega
    have h4 : (cls.take j).length * 1048576 ≤ 1048576 * 1048576 := Nat.mul_le_mul_right _ h3
    omega
  have HTL := Hid2.mk htl
  have HC := Hid2.mk hc
  have F1 := Hid2.mk (fun w1 (hb : Below w.heap.size w w1) => hr.later hb)
  have HK := Hid2.mk hk
  clear htl hc hr hk
  go_enter Try.func27, Try.ntmps27
  go_wp2
  go_loopw [5, 1] (fun i z wr => ∃ j : Nat, j ≤ cls.length ∧ i = .int .i64 (j : Int) ∧ z = .int .i64 (k + (tot (cls.take j) : Nat)) ∧ Mm no w wr []) (fun i _ _ => cls.length - (intOf i).toNat)
  case atStart => exact ⟨0, by omega, rfl, by simp [tot], M⟩
  case round =>
    obtain ⟨j, hj, rfl, rfl, M9⟩ := hrel
    clear M
    have M := M9
    clear M9
    by_cases hlt : j < cls.length
    · have hlt' : (j : Int) < (cls.length : Int) := by omega
      obtain ⟨g, rfl, hr⟩ := F1.out _ M.below (by omega)
      obtain ⟨p, c, e, h2⟩ := HK.out j hlt
      have hcell := hr.at_ j hlt
      rw [e] at hcell
      have hjl := HC.out cls[j] (List.getElem_mem hlt)
      have htj := HTL.out j
      have HM := fun w1 (hb : Below w.heap.size w w1) => heldInt64S_any p cls[j].length c (k + (tot (cls.take j) : Nat)) (by omega) (by omega) w1 (h2.later hb)
      have hz : k + ((tot (cls.take j) : Nat) : Int) + (cls[j].length : Int) = k + ((tot (cls.take (j + 1)) : Nat) : Int) := by rw [tot_take hlt]; omega
      rw [hz] at HM
      have hnn : ¬ (k + ((tot (cls.take (j + 1)) : Nat) : Int) < 0) := by omega
      clear hr e h2 hjl htj hz
      go_wp2_with (first | (go_at_call 65; ((with_reducible refine (HM _ M.below).mono ?_); rintro e w1 ⟨rfl, hb⟩; have hsz := M.size; have M9 := M.later hb; clear M; (try clear C); have M := M9; clear M9; (try simp only [List.set_cons_zero, List.set_cons_succ] at M); have C := M.ruleAll; simp only [Go.Proofs.Ytinjjaoikofkdaa.ruleAll] at C)))
      go_roundw
      case rel => exact ⟨j + 1, by omega, by go_num, rfl, M⟩
      case measure => simp [intOf]; omega
    · obtain rfl : j = cls.length := by omega
      have hge : ¬ ((cls.length : Int) < (cls.length : Int)) := by omega
      go_wp2
      go_ret
      exact ⟨rfl, M.below⟩

end Go.Proofs.Ytinjjaoikofkdaa

/- Classes of akin loops, for the program and for the reference, and the law's walk. Printed by gen/j6.py out of C55, C56. -/
namespace Go.Proofs.Ytinjjaoikofkdaa
set_option linter.unusedSimpArgs false
set_option linter.unusedVariables false
open Go Go.RowKit

/-- The classes that are handed back. -/
noncomputable def clsOut (ls : List Sqr) : List (List Nat) := if listCode ls = 0 then clsTo (aknAt ls) ls.length else []
/-- What is handed back. -/
def ClsPost (ls : List Sqr) (w : World) (e : Ending) (w' : World) : Prop := ∃ v, e = .returned (.tuple #[v, .int .i64 (listCode ls)]) ∧ ClsRes w.heap.size w w' v (clsOut ls) 85 2
theorem ClsPost.nil {ls : List Sqr} {w w' : World} {c : Int} (h : listCode ls = c) (hc : c ≠ 0) (hb : Below w.heap.size w w') : ClsPost ls w (.returned (.tuple #[.slice none 0 0, .int .i64 c])) w' := by
  subst h
  refine ⟨_, rfl, [], by unfold clsOut; rw [if_neg hc]; rfl, ?_⟩
  unfold clsOut
  rw [if_neg hc]
  exact ((Mm.start no w).later hb).nilRow w.heap.size 85 1
theorem rows_lower {B B' : Nat} (h : B' ≤ B) {w : World} : ∀ (vs : List Value) (cls : List (List Nat)) (e : Nat), (∀ x ∈ clsE B e vs cls, x.holds w) → ∀ x ∈ clsE B' e vs cls, x.holds w
  | [], _, _, _ => fun x hx => by simp [clsE] at hx
  | _ :: _, [], _, _ => fun x hx => by simp [clsE] at hx
  | v :: vs, c :: cls, e, hh => fun x hx => by
    have h1 : Ent.holds w (.row B v c.length (ints c) e 1) := hh _ (by simp [clsE])
    have hx' : x = .row B' v c.length (ints c) e 1 ∨ x ∈ clsE B' e vs cls := by simpa [clsE] using hx
    rcases hx' with rfl | hx'
    · exact own_mono h1 h
    · refine rows_lower h vs cls e (fun y hy => hh y ?_) x hx'
      simp only [clsE, List.zipWith_cons_cons, List.mem_cons]
      exact .inr hy
theorem apart_lower {B B' : Nat} (e : Nat) : ∀ (vs : List Value) (cls : List (List Nat)), (clsE B e vs cls).map Ent.place = (clsE B' e vs cls).map Ent.place
  | [], _ => by simp [clsE]
  | _ :: _, [] => by simp [clsE]
  | v :: vs, c :: cls => by
    have := apart_lower e vs cls (B := B) (B' := B')
    simp only [clsE, List.zipWith_cons_cons, List.map_cons] at *
    rw [this]; rfl
/-- Rows that lie above a place lie above a lower one. -/
theorem clsRes_lower {w0 w1 w' : World} {v : Value} {vs : List Value} {cls : List (List Nat)} {eo ei : Nat} (hsz : w0.heap.size ≤ w1.heap.size) (hb : Below w0.heap.size w0 w1) (M : Mm no w1 w' (.row w1.heap.size v cls.length vs eo 1 :: clsE w1.heap.size ei vs cls)) :
    Mm no w0 w' (.row w0.heap.size v cls.length vs eo 1 :: clsE w0.heap.size ei vs cls) := by
  have hk : Kept no w0 w' := (Kept.of_below hb no).trans M.kept fun _ _ h => h.elim
  refine .of_pair hk (fun x hx => ?_) ?_
  · rcases List.mem_cons.1 hx with rfl | hx
    · exact own_mono (M.row 0 rfl) hsz
    · exact rows_lower hsz vs cls ei (fun y hy => M.mem (List.mem_cons_of_mem _ hy)) x hx
  · have hp := M.pair
    have e : (Ent.row w1.heap.size v cls.length vs eo 1 :: clsE w1.heap.size ei vs cls).map Ent.place = (Ent.row w0.heap.size v cls.length vs eo 1 :: clsE w0.heap.size ei vs cls).map Ent.place := by
      rw [List.map_cons, List.map_cons, apart_lower ei vs cls (B' := w0.heap.size)]; rfl
    have h1 : ((Ent.row w1.heap.size v cls.length vs eo 1 :: clsE w1.heap.size ei vs cls).map Ent.place).Pairwise (fun p q => ∀ b, p b → q b → False) := List.pairwise_map.2 hp
    rw [e] at h1
    have h2 := List.pairwise_map.1 h1
    exact h2.imp fun h => h
theorem listCode_1 {ls : List Sqr} (h : ls.all lpB = false) : listCode ls = 1 := by unfold listCode; rw [if_neg (by rw [h]; simp)]
theorem listCode_2 {ls : List Sqr} (h : ls.all lpB = true) (h2 : 12 < ls.length ∨ (ls.any fun q => decide (7 < q.n)) = true) : listCode ls = 2 := by unfold listCode; rw [if_pos h, if_pos h2]
theorem listCode_0 {ls : List Sqr} (h : ls.all lpB = true) (h2 : ¬ (12 < ls.length ∨ (ls.any fun q => decide (7 < q.n)) = true)) : listCode ls = 0 := by unfold listCode; rw [if_pos h, if_neg h2]
theorem listCode_ok {ls : List Sqr} (h : listCode ls = 0) : ls.all lpB = true ∧ ∀ q ∈ ls, q.n ≤ 7 := by
  unfold listCode at h
  split at h
  · rename_i h1
    split at h
    · cases h
    · rename_i h2
      refine ⟨h1, fun q hq => ?_⟩
      rcases Int.lt_or_le 7 q.n with h3 | h3
      · exact absurd (.inr (List.any_eq_true.2 ⟨q, hq, decide_eq_true h3⟩)) h2
      · exact h3
  · cases h

set_option maxRecDepth 100000 in
set_option maxHeartbeats 1000000 in
theorem implAkinClasses_any (ls : List Sqr) (hlen : ls.length ≤ 1048576) (hby : ∀ q ∈ ls, Byt2 q.t) (w : World) (g cap : Nat) (hr : rds w g (ls.length * 101) (fun j => (slC ls).getD j undef)) :
    Calls Try.prog 22 #[.slice (some ⟨g, 0, none⟩) ls.length cap] w (ClsPost ls w) := by
  have M := Mm.start no w
  have HA := fun w1 (hb : Below w.heap.size w w1) => areLoops_any ls (by omega) hby w1 g cap (hr.later hb)
  cases ha : ls.all lpB with
  | false =>
    have HC := Hid2.mk (listCode_1 ha)
    simp only [ha] at HA
    clear hr hby ha
    go_enter Try.func22, Try.ntmps22
    go_wp2_with (first | (go_at_call 59; ((with_reducible refine (HA _ M.below).mono ?_); rintro e w1 ⟨rfl, hb⟩; have hsz := M.size; have M9 := M.later hb; clear M; (try clear C); have M := M9; clear M9; (try simp only [List.set_cons_zero, List.set_cons_succ] at M); have C := M.ruleAll; simp only [Go.Proofs.Ytinjjaoikofkdaa.ruleAll] at C)))
    go_ret2
    exact ClsPost.nil HC.out (by decide) M.below
  | true =>
    have HX := fun w1 (hb : Below w.heap.size w w1) => containsFunc_any ls (by omega) w1 g cap (hr.later hb) 49 #[] (fun q => decide (7 < q.n)) (enters_of (P := Try.prog) (f := 49) (by exact Try.func49) (by kernel_rfl) rfl) fun q _ w2 _ => isLarge_any q w2
    by_cases h30 : 12 < ls.length
    · have HC := Hid2.mk (listCode_2 ha (.inl h30))
      have h30' : (12 : Int) < (ls.length : Int) := by omega
      simp only [ha] at HA
      clear hr hby ha HX
      go_enter Try.func22, Try.ntmps22
      go_wp2_with (first | (go_at_call 59; ((with_reducible refine (HA _ M.below).mono ?_); rintro e w1 ⟨rfl, hb⟩; have hsz := M.size; have M9 := M.later hb; clear M; (try clear C); have M := M9; clear M9; (try simp only [List.set_cons_zero, List.set_cons_succ] at M); have C := M.ruleAll; simp only [Go.Proofs.Ytinjjaoikofkdaa.ruleAll] at C)) | (go_at_call 52; ((with_reducible refine (HX _ M.below).mono ?_); rintro e w1 ⟨rfl, hb⟩; have hsz := M.size; have M9 := M.later hb; clear M; (try clear C); have M := M9; clear M9; (try simp only [List.set_cons_zero, List.set_cons_succ] at M); have C := M.ruleAll; simp only [Go.Proofs.Ytinjjaoikofkdaa.ruleAll] at C)))
      go_ret2
      exact ClsPost.nil HC.out (by decide) M.below
    cases hx : ls.any fun q => decide (7 < q.n) with
    | true =>
      have HC := Hid2.mk (listCode_2 ha (.inr hx))
      have h30' : ¬ (12 : Int) < (ls.length : Int) := by omega
      simp only [ha] at HA
      simp only [hx] at HX
      clear hr hby ha hx
      go_enter Try.func22, Try.ntmps22
      go_wp2_with (first | (go_at_call 59; ((with_reducible refine (HA _ M.below).mono ?_); rintro e w1 ⟨rfl, hb⟩; have hsz := M.size; have M9 := M.later hb; clear M; (try clear C); have M := M9; clear M9; (try simp only [List.set_cons_zero, List.set_cons_succ] at M); have C := M.ruleAll; simp only [Go.Proofs.Ytinjjaoikofkdaa.ruleAll] at C)) | (go_at_call 52; ((with_reducible refine (HX _ M.below).mono ?_); rintro e w1 ⟨rfl, hb⟩; have hsz := M.size; have M9 := M.later hb; clear M; (try clear C); have M := M9; clear M9; (try simp only [List.set_cons_zero, List.set_cons_succ] at M); have C := M.ruleAll; simp only [Go.Proofs.Ytinjjaoikofkdaa.ruleAll] at C)))
      go_ret2
      exact ClsPost.nil HC.out (by decide) M.below
    | false =>
      have HC := Hid2.mk (listCode_0 ha (fun h => h.elim h30 fun h => by rw [hx] at h; cases h))
      have h30' : ¬ (12 : Int) < (ls.length : Int) := by omega
      simp only [hx] at HX
      have hok : ∀ q ∈ ls, okS q := fun q hq => lpB_ok (hby q hq) (List.all_eq_true.1 ha q hq)
      have HK := fun w1 (hb : Below w.heap.size w w1) => classesOf_any ls hlen aknB w1 g cap 61 (enters_of (P := Try.prog) (f := 61) (by exact Try.func61) (by kernel_rfl) rfl) (fun q hq r hr w2 => akin_sq q r w2 (hok q hq) (hok r hr)) (hr.later hb)
      have hcl : (fun j i => aknB (ls.getD j sq00) (ls.getD i sq00)) = aknAt ls := rfl
      rw [hcl] at HK
      have HO := Hid2.mk (show clsOut ls = clsTo (aknAt ls) ls.length by unfold clsOut; rw [if_pos HC.out])
      generalize clsTo (aknAt ls) ls.length = cls at HK HO
      simp only [ha] at HA
      clear hr hby ha hcl hok hx
      go_enter Try.func22, Try.ntmps22
      go_wp2_with (first | (go_at_call 59; ((with_reducible refine (HA _ M.below).mono ?_); rintro e w1 ⟨rfl, hb⟩; have hsz := M.size; have M9 := M.later hb; clear M; (try clear C); have M := M9; clear M9; (try simp only [List.set_cons_zero, List.set_cons_succ] at M); have C := M.ruleAll; simp only [Go.Proofs.Ytinjjaoikofkdaa.ruleAll] at C)) | (go_at_call 52; ((with_reducible refine (HX _ M.below).mono ?_); rintro e w1 ⟨rfl, hb⟩; have hsz := M.size; have M9 := M.later hb; clear M; (try clear C); have M := M9; clear M9; (try simp only [List.set_cons_zero, List.set_cons_succ] at M); have C := M.ruleAll; simp only [Go.Proofs.Ytinjjaoikofkdaa.ruleAll] at C)) | (go_at_call 60; fail))
      refine (HK _ M.below).mono ?_
      rintro e w1 ⟨v, rfl, vs, hvl, M'⟩
      have hsz := M.size
      have hb := M.below
      clear M
      go_wp2
      go_ret2
      refine ⟨v, by rw [HC.out]; rfl, vs, by rw [HO.out]; exact hvl, ?_⟩
      rw [HO.out]
      exact clsRes_lower hsz hb M'

set_option maxRecDepth 100000 in
set_option maxHeartbeats 1000000 in
theorem specAkinClasses_any (ls : List Sqr) (hlen : ls.length ≤ 1048576) (hby : ∀ q ∈ ls, Byt2 q.t) (w : World) (g cap : Nat) (hr : rds w g (ls.length * 101) (fun j => (slC ls).getD j undef)) :
    Calls Try.prog 20 #[.slice (some ⟨g, 0, none⟩) ls.length cap] w (ClsPost ls w) := by
  have M := Mm.start no w
  have HA := fun w1 (hb : Below w.heap.size w w1) => l11List_any ls hlen hby w1 g cap (hr.later hb)
  by_cases hc0 : listCode ls = 0
  · have hok : ∀ q ∈ ls, okS q := fun q hq => lpB_ok (hby q hq) (List.all_eq_true.1 (listCode_ok hc0).1 q hq)
    have HK := fun w1 (hb : Below w.heap.size w w1) => l11Classes_any ls hlen hok (listCode_ok hc0).2 w1 g cap (hr.later hb)
    have HO := Hid2.mk (show clsOut ls = clsTo (aknAt ls) ls.length by unfold clsOut; rw [if_pos hc0])
    have HC := Hid2.mk hc0
    rw [hc0] at HA
    generalize clsTo (aknAt ls) ls.length = cls at HK HO
    clear hr hby hok hc0
    go_enter Try.func20, Try.ntmps20
    go_wp2_with (first | (go_at_call 57; ((with_reducible refine (HA _ M.below).mono ?_); rintro e w1 ⟨rfl, hb⟩; have hsz := M.size; have M9 := M.later hb; clear M; (try clear C); have M := M9; clear M9; (try simp only [List.set_cons_zero, List.set_cons_succ] at M); have C := M.ruleAll; simp only [Go.Proofs.Ytinjjaoikofkdaa.ruleAll] at C)) | (go_at_call 58; fail))
    refine (HK _ M.below).mono ?_
    rintro e w1 ⟨v, rfl, vs, hvl, M'⟩
    have hsz := M.size
    have hb := M.below
    clear M
    go_wp2
    go_ret2
    refine ⟨v, by rw [HC.out]; rfl, vs, by rw [HO.out]; exact hvl, ?_⟩
    rw [HO.out]
    exact clsRes_lower hsz hb M'
  · have HC := Hid2.mk hc0
    obtain ⟨c, hc⟩ : ∃ c, c = listCode ls := ⟨_, rfl⟩
    rw [← hc] at HA
    have hne : (c == 0) = false := beq_eq_false_iff_ne.2 (by rw [hc]; exact hc0)
    have HCC := Hid2.mk hc
    clear hr hby hc0 hc
    go_enter Try.func20, Try.ntmps20
    go_wp2_with (first | (go_at_call 57; ((with_reducible refine (HA _ M.below).mono ?_); rintro e w1 ⟨rfl, hb⟩; have hsz := M.size; have M9 := M.later hb; clear M; (try clear C); have M := M9; clear M9; (try simp only [List.set_cons_zero, List.set_cons_succ] at M); have C := M.ruleAll; simp only [Go.Proofs.Ytinjjaoikofkdaa.ruleAll] at C)))
    go_ret2
    exact ClsPost.nil HCC.out.symm (by rw [HCC.out]; exact HC.out) M.below
/-- Some entries are told as one thing that holds while they do. -/
theorem Mm.fold {D : Nat → Prop} {w0 w : World} {A L : List Ent} {R : World → Prop} (M : Mm D w0 w (A ++ L)) (hR : ∀ w', (∀ x ∈ A, x.holds w') → R w') : Mm D w0 w (.res (fun k => ∃ x ∈ A, x.place k) R :: L) := by
  have hp := List.pairwise_append.1 M.pair
  refine .of_pair M.kept (fun x hx => ?_) (List.pairwise_cons.2 ⟨fun y hy b h1 h2 => ?_, hp.2.1⟩)
  · rcases List.mem_cons.1 hx with rfl | hx
    · refine ⟨fun k ⟨x, hx, hk⟩ => Ent.lt (M.mem (List.mem_append_left _ hx)) hk, fun E w' hk hd => hR w' fun x hx => Ent.holds_of (M.mem (List.mem_append_left _ hx)) hk fun b hb => hd b ⟨x, hx, hb⟩⟩
    · exact M.mem (List.mem_append_right _ hx)
  · obtain ⟨x, hx, hb⟩ := h1
    exact hp.2.2 x hx y hy b hb h2
theorem Mm.swap {D : Nat → Prop} {w0 w : World} (A B : List Ent) (M : Mm D w0 w (A ++ B)) : Mm D w0 w (B ++ A) := M.perm List.perm_append_comm
theorem cls_new {w w' : World} {v : Value} {vs : List Value} {cls : List (List Nat)} {eo ei : Nat} (M : Mm no w w' (.row w.heap.size v cls.length vs eo 1 :: clsE w.heap.size ei vs cls)) : ∀ x ∈ Ent.row w.heap.size v cls.length vs eo 1 :: clsE w.heap.size ei vs cls, ∀ b, x.place b → w.heap.size ≤ b := fun x hx b hb => by
  rcases List.mem_cons.1 hx with rfl | h
  · exact (World.ownsRow.lt (M.row 0 rfl) b hb).1
  · obtain ⟨i, hi⟩ := List.getElem?_of_mem h
    have h2 := M.ents (i + 1) x (by rw [List.getElem?_cons_succ]; exact hi)
    simp only [clsE, List.getElem?_zipWith] at hi
    split at hi
    · rename_i v' c' _ _
      have e := Option.some.inj hi
      subst e
      exact (World.ownsRow.lt h2 b hb).1
    · cases hi
theorem clsOut_le (ls : List Sqr) : (clsOut ls).length ≤ ls.length := by
  unfold clsOut; split
  · exact clsTo_le _
  · simp
theorem clsOut_size (ls : List Sqr) : ∀ c ∈ clsOut ls, c.length ≤ ls.length := by
  unfold clsOut; split
  · exact fun c hc => clsTo_size _ c hc
  · intro c hc; cases hc

set_option maxRecDepth 100000 in
set_option maxHeartbeats 4000000 in
theorem lawAkin_any (ls : List Sqr) (hm : ls.length ≤ maxLen) (hby : ∀ q ∈ ls, Byt2 q.t) (w : World) (p : Option Addr) (cap : Nat) (hr : rdp w p (ls.length * 101) (fun j => (slC ls).getD j undef)) :
    Calls Try.prog 6 #[.slice p ls.length cap] w fun e w' => e = .returned (.bool true) ∧ Below w.heap.size w w' := by
  have M := Mm.start no w
  have HS := fun w1 => szSquareS_any ls.length hm w1 p cap 1048576 (by omega) (by omega)
  have R1 := Hid2.mk (fun w1 (hb : Below w.heap.size w w1) => hr.later hb)
  have HBY := Hid2.mk hby
  clear hr hby
  go_enter Try.func6, Try.ntmps6
  go_wp2_with (first | (go_at_call 19; fail))
  refine (HS _).mono ?_
  rintro e w1 ⟨r, rfl, hr, hb⟩
  have M9 := M.later hb
  clear M
  have M := M9
  clear M9 hb HS
  by_cases hneg : r < 0
  · go_wp2
    go_ret
    exact ⟨rfl, M.below⟩
  · obtain ⟨_, q1⟩ := hr (by omega)
    have hn : ls.length ≤ 1048576 := by omega
    have HT := fun w1 (hb : Below w.heap.size w w1) => toSquareS_any ls hn w1 p cap (R1.out w1 hb)
    have HSP := Hid2.mk (fun w1 g (h : rds w1 g (ls.length * 101) (fun j => (slC ls).getD j undef)) => specAkinClasses_any ls hn HBY.out w1 g ls.length h)
    have HIM := Hid2.mk (fun w1 g (h : rds w1 g (ls.length * 101) (fun j => (slC ls).getD j undef)) => implAkinClasses_any ls hn HBY.out w1 g ls.length h)
    have hcl : (clsOut ls).length ≤ 1048576 := Nat.le_trans (clsOut_le ls) hn
    have hcs : ∀ c ∈ clsOut ls, c.length ≤ 1048576 := fun c hc => Nat.le_trans (clsOut_size ls c hc) hn
    have HEQ := Hid2.mk (fun w1 v1 v2 (h1 : ClsHere w1 v1 (clsOut ls)) (h2 : ClsHere w1 v2 (clsOut ls)) => eqInt64SS_any (clsOut ls) hcl hcs w1 v1 v2 h1 h2)
    have HHD := Hid2.mk (fun w1 v (h : MkHere w1 v 1 (clsOut ls)) => heldInt64SS_any (clsOut ls) hcl hcs v 1 (by omega) (by omega) w1 h)
    have HMK := Hid2.mk (fun vs (hvl : vs.length = (clsOut ls).length) B v L w1 (hB : w.heap.size ≤ B) M => markInt64SS_any (clsOut ls) vs hvl hcl hcs B v 1 (by omega) (by omega) L w w1 hB M)
    unfold ClsPost at HSP HIM
    generalize clsOut ls = cls at HSP HIM HEQ HHD HMK
    generalize listCode ls = d at HSP HIM
    have hdd : (d == d) = true := by simp
    have HN := Hid2.mk hn
    clear hr hcl hcs q1 hn
    -- the reference
    go_wp2_with (first | (go_at_call 21; fail))
    refine (HT _ M.below).mono ?_
    rintro e w1 ⟨g1, rfl, hg1, cs1, hs1, M'⟩
    have M9 := M.join1 M' (new_box hg1)
    clear M M'
    have M := M9
    clear M9
    go_wp2_with (first | (go_at_call 20; fail))
    refine (HSP.out _ _ ((M.box 0 rfl).rds hs1.2)).mono ?_
    rintro e w1 ⟨vw, rfl, vsw, hvw, M'⟩
    have M9 := ((M.drop 0).join M' (cls_new M')).fold (R := fun w' => ClsHere w' vw cls) fun w' h => ClsHere.of hvw h
    clear M M'
    have M := M9
    clear M9 hs1 hg1
    generalize (fun k => ∃ x ∈ Ent.row _ vw cls.length vsw 85 1 :: clsE _ 2 vsw cls, x.place k) = DW at M
    have M9 : Mm no w w1 [.res DW fun w' => ClsHere w' vw cls] := M
    clear M
    have M := M9
    clear M9
    -- the argument's copy and the program
    go_wp2_with (first | (go_at_call 21; fail))
    refine (HT _ M.below).mono ?_
    rintro e w4 ⟨g0, rfl, hg0, cs0, hs0, M'⟩
    have M9 := M.join1 M' (new_box hg0)
    have hg09 : w.heap.size ≤ g0 := by have := M.size; omega
    clear M M'
    have M := M9
    clear M9 hg0
    go_wp2_with (first | (go_at_call 22; fail))
    refine (HIM.out _ _ ((M.box 0 rfl).rds hs0.2)).mono ?_
    rintro e w5 ⟨vg, rfl, vsg, hvg, M'⟩
    have M9 := M.join M' (cls_new M')
    have hBB := M.size
    clear M M'
    generalize w4.heap.size = B at M9 hBB
    have M : Mm no w w5 (.row B vg cls.length vsg 85 1 :: (clsE B 2 vsg cls ++ [.box g0 cs0 43, .res DW fun w' => ClsHere w' vw cls])) := M9
    clear M9
    -- the first comparison
    have FG : ∀ {w'} {T : List Ent}, Mm no w w' (.row B vg cls.length vsg 85 1 :: (clsE B 2 vsg cls ++ T)) → ClsHere w' vg cls := fun M => ClsHere.of hvg fun x hx => M.mem (by
      rcases List.mem_cons.1 hx with rfl | h
      · exact List.mem_cons_self ..
      · exact List.mem_cons_of_mem _ (List.mem_append_left _ h))
    have FW : ∀ {w'} {A T : List Ent}, Mm no w w' (A ++ (T ++ [.res DW fun w' => ClsHere w' vw cls])) → ClsHere w' vw cls := fun {w'} {A T} M => Ent.res_now (D := DW) (M.mem (List.mem_append_right _ (List.mem_append_right _ (List.mem_cons_self ..))))
    go_wp2_with (first | (go_at_call 23; fail))
    refine (HEQ.out _ _ _ (FG M) (FW (A := .row B vg cls.length vsg 85 1 :: clsE B 2 vsg cls) (T := [.box g0 cs0 43]) M)).mono ?_
    rintro e w6 ⟨rfl, hb⟩
    have M9 := M.later hb
    clear M
    have M := M9
    clear M9 hb
    go_wp2_with (first | (go_at_call 21; fail))
    refine (HT _ M.below).mono ?_
    rintro e w7 ⟨g5, rfl, hg5, cs5, hs5, M'⟩
    have M9 := M.join1 M' (new_box hg5)
    clear M M'
    have M := M9
    clear M9 hg5
    have hx0 : ∀ {w'} {A T : List Ent}, Mm no w w' (A ++ (.box g0 cs0 43 :: T)) → rds w' g0 (ls.length * 101) (fun j => (slC ls).getD j undef) := fun M => ((Mm.suffix M).box 0 rfl).rds hs0.2
    have HE := eqSquareS_any ls (by have := HN.out; omega) w7 (some ⟨g0, 0, none⟩) (some ⟨g5, 0, none⟩) ls.length ls.length (hx0 (A := .box g5 cs5 43 :: .row B vg cls.length vsg 85 1 :: clsE B 2 vsg cls) M).rdq ((M.box 0 rfl).rds hs5.2).rdq
    clear hx0
    go_wp2_with (first | (go_at_call 24; fail))
    refine HE.mono ?_
    rintro e w8 ⟨rfl, hb⟩
    have M9 := (M.later hb).drop 0
    clear M HE hs5
    have M : Mm no w w8 (.row B vg cls.length vsg 85 1 :: (clsE B 2 vsg cls ++ [.box g0 cs0 43, .res DW fun w' => ClsHere w' vw cls])) := M9
    clear M9 hb
    -- the argument's copy is marked
    have M9 : Mm no w w8 (.box g0 cs0 43 :: .res DW (fun w' => ClsHere w' vw cls) :: (.row B vg cls.length vsg 85 1 :: clsE B 2 vsg cls)) := Mm.swap (Ent.row B vg cls.length vsg 85 1 :: clsE B 2 vsg cls) [Ent.box g0 cs0 43, Ent.res DW fun w' => ClsHere w' vw cls] M
    clear M
    have M := M9
    clear M9
    have HMS := markSquareS_any g0 ls.length 43 cs0 hs0.1 HN.out ls.length 1 (by omega) (by omega) w8 (M.box 0 rfl)
    go_wp2_with (first | (go_at_call 25; fail))
    refine HMS.mono ?_
    rintro e w9 ⟨rfl, hgr, cs9, hb9⟩
    have M9 := M.wrote 0 rfl (.inl hg09) hgr hb9
    clear M HMS
    have M10 : Mm no w w9 ((.row B vg cls.length vsg 85 1 :: clsE B 2 vsg cls) ++ [.box g0 cs9 43, .res DW fun w' => ClsHere w' vw cls]) := Mm.swap [Ent.box g0 cs9 43, Ent.res DW fun w' => ClsHere w' vw cls] (Ent.row B vg cls.length vsg 85 1 :: clsE B 2 vsg cls) M9
    have M : Mm no w w9 (.row B vg cls.length vsg 85 1 :: (clsE B 2 vsg cls ++ [.box g0 cs9 43, .res DW fun w' => ClsHere w' vw cls])) := M10
    clear M9 M10 hgr hb9 hs0
    have hk0 : ¬ ((1 : Int) + (ls.length : Int) < 0) := by omega
    go_wp2_with (first | (go_at_call 23; fail))
    refine (HEQ.out _ _ _ (FG M) (FW (A := .row B vg cls.length vsg 85 1 :: clsE B 2 vsg cls) (T := [.box g0 cs9 43]) M)).mono ?_
    rintro e w10 ⟨rfl, hb⟩
    have M9 := M.later hb
    clear M
    have M := M9
    clear M9 hb
    -- what was handed back is marked, and holds
    go_wp2_with (first | (go_at_call 26; fail))
    refine (HMK.out vsg hvg B vg [.box g0 cs9 43, .res DW fun w' => ClsHere w' vw cls] w10 hBB M).mono ?_
    rintro e w11 ⟨rfl, M9⟩
    clear M
    have M := M9
    clear M9
    have hq0 : ¬ ((1 : Int) + ((tot cls : Nat) : Int) < 0) := by omega
    have hqq : ((1 : Int) + ((tot cls : Nat) : Int) == 1 + ((tot cls : Nat) : Int)) = true := by simp
    go_wp2_with (first | (go_at_call 27; fail))
    refine (HHD.out _ _ (MkHere.of hvg M)).mono ?_
    rintro e w12 ⟨rfl, hb⟩
    have M9 := M.later hb
    clear M
    have M := M9
    clear M9 hb
    -- once more
    go_wp2_with (first | (go_at_call 21; fail))
    refine (HT _ M.below).mono ?_
    rintro e w13 ⟨g7, rfl, hg7, cs7, hs7, M'⟩
    have M9 := M.join1 M' (new_box hg7)
    clear M M'
    have M := M9
    clear M9 hg7
    go_wp2_with (first | (go_at_call 22; fail))
    refine (HIM.out _ _ ((M.box 0 rfl).rds hs7.2)).mono ?_
    rintro e w14 ⟨vh, rfl, vsh, hvh, M'⟩
    have FH : ClsHere w14 vh cls := ClsHere.of hvh fun x hx => M'.mem hx
    have M9 := (M.later M'.below).drop 0
    clear M M' hs7
    have M : Mm no w w14 (.row B vg cls.length vsg 85 1 :: (clsM B 2 vsg (mkdTo 1 cls cls.length) ++ [.box g0 cs9 43, .res DW fun w' => ClsHere w' vw cls])) := M9
    clear M9
    go_wp2_with (first | (go_at_call 23; fail))
    refine (HEQ.out _ _ _ FH (FW (A := .row B vg cls.length vsg 85 1 :: clsM B 2 vsg (mkdTo 1 cls cls.length)) (T := [.box g0 cs9 43]) M)).mono ?_
    rintro e w15 ⟨rfl, hb⟩
    have M9 := M.later hb
    clear M FH
    have M := M9
    clear M9 hb
    go_wp2_with (first | (go_at_call 27; fail))
    refine (HHD.out _ _ (MkHere.of hvg M)).mono ?_
    rintro e w16 ⟨rfl, hb⟩
    have M9 := M.later hb
    clear M
    have M := M9
    clear M9 hb
    go_wp2
    go_ret
    exact ⟨rfl, M.below⟩
end Go.Proofs.Ytinjjaoikofkdaa

