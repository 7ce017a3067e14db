/- Books, for the reference: a contract. -/
import Derived.Test.YtinjjaoikofkdaaB0
import Derived.Test.YtinjjaoikofkdaaK9
namespace Go.Proofs.Ytinjjaoikofkdaa
set_option linter.unusedSimpArgs false
set_option linter.unusedVariables false
open Go Go.RowKit

/-- A new variable and a place. -/
def StW3 (w0 : World) (p : Int) : List Value → List Ent → Prop
  | [], Lg => Lg = []
  | [v], Lg => ∃ b, v = .pointer (some ⟨b, 0, none⟩) ∧ w0.heap.size ≤ b ∧ Lg = [.box b (bys fun _ => 0) 70]
  | v :: u :: _, Lg => (∃ b, v = .pointer (some ⟨b, 0, none⟩) ∧ w0.heap.size ≤ b ∧ Lg = [.box b (bys fun _ => 0) 70]) ∧ u = .int .i64 p

set_option maxRecDepth 100000 in
set_option maxHeartbeats 4000000 in
theorem l11Is_any (ns : List ByteArray) (ls : List Sqr) (hn : ns.length ≤ 1048576) (hm : ls.length ≤ 1048576) (hsz : ∀ x ∈ ns, x.size ≤ 1048576) (hby : ∀ q ∈ ls, Byt2 q.t) (w : World) (g1 c1 g2 c2 : Nat)
    (hr1 : rds w g1 ns.length (nmF ns)) (hr2 : rds w g2 (ls.length * 101) (fun j => (slC ls).getD j undef)) (hg : g1 ≠ g2) :
    Calls Try.prog 40 #[.agg (bkA g1 c1 g2 c2 ns.length ls.length)] w fun e w' => e = .returned (.bool (isBk ns ls)) ∧ Below w.heap.size w w' := by
  have M := ((Mm.start no w).add (x := .rd g2 (ls.length * 101) (fun j => (slC ls).getD j undef)) hr2 fun _ h => by cases h).add (x := .rd g1 ns.length (nmF ns)) hr1 fun y hy => by
    simp only [List.mem_singleton] at hy; subst hy
    exact fun b hb hb' => hg (by cases hb; cases hb'; rfl)
  have k0 : (bkA g1 c1 g2 c2 ns.length ls.length)[0]? = some (.slice (some ⟨g1, 0, none⟩) ns.length c1) := rfl
  have k1 : (bkA g1 c1 g2 c2 ns.length ls.length)[1]? = some (.slice (some ⟨g2, 0, none⟩) ls.length c2) := rfl
  have HBY := Hid2.mk hby
  have HSZ := Hid2.mk hsz
  clear hr1 hr2 hg hby hsz
  have C := M.ruleAll; simp only [Go.Proofs.Ytinjjaoikofkdaa.ruleAll] at C
  by_cases hlong : ns.length ≤ 20 ∧ ls.length = ns.length
  case neg =>
    have HST := Hid2.mk (isBk_long hlong)
    by_cases h20 : ns.length ≤ 20
    · have hne : ls.length ≠ ns.length := fun e => hlong ⟨h20, e⟩
      have d1 : ¬ (20 < (ns.length : Int)) := by omega
      have d2 : decide (20 < (ns.length : Int)) = false := decide_eq_false d1
      have d3 : ((ls.length : Int) == (ns.length : Int)) = false := beq_eq_false_iff_ne.2 (by omega)
      clear hlong
      go_enter Try.func40, Try.ntmps40
      go_wp2_with (first | ((with_reducible apply wpM_box' M 29 (bkA g1 c1 g2 c2 ns.length ls.length)); rfl; exact ⟨rfl, rfl⟩; clear M; (try clear C); intro bb w9 h_bb M; have C := M.ruleAll; simp only [Go.Proofs.Ytinjjaoikofkdaa.ruleAll] at C))
      go_ret
      exact ⟨by rw [HST.out]; rfl, M.below⟩
    · have d1 : 20 < (ns.length : Int) := by omega
      have d2 : decide (20 < (ns.length : Int)) = true := decide_eq_true d1
      clear hlong
      go_enter Try.func40, Try.ntmps40
      go_wp2_with (first | ((with_reducible apply wpM_box' M 29 (bkA g1 c1 g2 c2 ns.length ls.length)); rfl; exact ⟨rfl, rfl⟩; clear M; (try clear C); intro bb w9 h_bb M; have C := M.ruleAll; simp only [Go.Proofs.Ytinjjaoikofkdaa.ruleAll] at C))
      go_ret
      exact ⟨by rw [HST.out]; rfl, M.below⟩
  case pos =>
    obtain ⟨h20, hLN⟩ := hlong
    have d1 : ¬ (20 < (ns.length : Int)) := by omega
    have d2 : decide (20 < (ns.length : Int)) = false := decide_eq_false d1
    have d3 : ((ls.length : Int) == (ns.length : Int)) = true := beq_iff_eq.2 (by omega)
    have HLN := Hid2.mk hLN
    have hbk := fun h3 h4 => isBk_all (ns := ns) (ls := ls) h20 hLN h3 h4
    have HBK := Hid2.mk hbk
    clear hLN hbk
    go_enter Try.func40, Try.ntmps40
    go_wp2_with (first | ((with_reducible apply wpM_box' M 29 (bkA g1 c1 g2 c2 ns.length ls.length)); rfl; exact ⟨rfl, rfl⟩; clear M; (try clear C); intro bb w9 h_bb M; have C := M.ruleAll; simp only [Go.Proofs.Ytinjjaoikofkdaa.ruleAll] at C))
    clear d1 d2 d3
    go_loopw [3] (fun i wr => ∃ k : Nat, k ≤ ns.length ∧ i = .int .i64 (k : Int) ∧ (∀ j, j < k → itemB ns ls j = true) ∧ Mm no w wr [.box bb (bkA g1 c1 g2 c2 ns.length ls.length) 29, .rd g1 ns.length (nmF ns), .rd g2 (ls.length * 101) (fun j => (slC ls).getD j undef)]) (fun i _ => ns.length - (intOf i).toNat)
    case atStart => exact ⟨0, by omega, rfl, fun j h => by omega, M⟩
    case round =>
      obtain ⟨k, hk, rfl, hl, M9⟩ := hrel
      clear M; (try clear C)
      have M := M9
      clear M9
      have C := M.ruleAll; simp only [Go.Proofs.Ytinjjaoikofkdaa.ruleAll] at C
      have HL := Hid2.mk hl
      clear hl
      by_cases hlt : k < ns.length
      · have hlt' : (k : Int) < (ns.length : Int) := by omega
        have hkl : k < ls.length := by rw [HLN.out]; exact hlt
        have hkl' : (k : Int) < (ls.length : Int) := by omega
        have hfail := fun h => @isBk_item ns ls k hlt h
        have hnext : itemB ns ls k = true → ∀ j, j < k + 1 → itemB ns ls j = true := fun h j h1 => by
          rcases Nat.lt_or_eq_of_le (Nat.lt_succ_iff.1 h1) with h2 | rfl
          · exact HL.out j h2
          · exact h
        obtain ⟨x, hx⟩ : ∃ x, x = ns.getD k .empty := ⟨_, rfl⟩
        obtain ⟨q, hq⟩ : ∃ q, q = ls.getD k sq00 := ⟨_, rfl⟩
        have hxe : x = ns[k] := by rw [hx, List.getD_eq_getElem?_getD, List.getElem?_eq_getElem hlt]; rfl
        have hqe : q = ls[k] := by rw [hq, List.getD_eq_getElem?_getD, List.getElem?_eq_getElem hkl]; rfl
        have hxn : nmF ns k = .string x := by rw [hx]; rfl
        have hit : itemB ns ls k = (nameB x && (placeOf (fun y => y.toList == x.toList) ns == (k : Int)) && lpB q && !decide (7 < q.n)) := by rw [hx, hq]; rfl
        have hA := fun w1 => l11Name_any x w1 (HSZ.out x (by rw [hxe]; exact List.getElem_mem hlt))
        have hP : ∀ w1, Mm no w w1 [.box bb (bkA g1 c1 g2 c2 ns.length ls.length) 29, .rd g1 ns.length (nmF ns), .rd g2 (ls.length * 101) (fun j => (slC ls).getD j undef)] → _ := fun w1 M => l11Place_any ns (by omega) x w1 g1 c1 g2 c2 ls.length (M.rd 1 rfl)
        have hL := fun w1 => l01Loop_any q.n q.t w1 (HBY.out q (by rw [hqe]; exact List.getElem_mem hkl))
        have hlp : lpB q = isLp q.n q.t := rfl
        rw [← hlp] at hL
        have hcells : ∀ {w3}, rds w3 g2 (ls.length * 101) (fun j => (slC ls).getD j undef) → ∀ j v, (sqs q.n q.t)[j]? = some v → w3.cell? ⟨g2, k * 101 + j, none⟩ = some v := fun h => by rw [hqe]; exact sq_cells h hkl
        have hhd : (slC ls)[k * 101]?.getD undef = .int .i64 q.n := by rw [hqe, ← List.getD_eq_getElem?_getD]; exact sq_head hkl
        have hk101 : k * 101 < ls.length * 101 := by omega
        have HCE := Hid2.mk @hcells
        clear hx hq hxe hqe hlp hcells
        generalize nameB x = a1 at hA hit
        generalize placeOf (fun y : ByteArray => y.toList == x.toList) ns = p at hP hit
        generalize lpB q = a3 at hL hit
        have HIT := Hid2.mk hit
        have HFAIL := Hid2.mk hfail
        have HN := Hid2.mk hnext
        clear hit hfail hnext
        cases a1 with
        | false =>
          go_wp2
          apply wp_region_mm M 31 (by kernel_rfl) (by kernel_rfl); (simp only [List.take_succ_cons, List.take_zero]; repeat (first | exact wpText_nil | (apply wpText_cons; (intro w2 M; have C := M.ruleAll; simp only [Go.Proofs.Ytinjjaoikofkdaa.ruleAll] at C; go_wp2_with (first | (go_at_call 42; ((with_reducible refine (hA _).mono ?_); rintro e w1 ⟨rfl, hb⟩; have hsz := M.size; (try (have G9 := G.later hb; clear G; have G := G9; clear G9)); have M9 := M.later hb; clear M; (try clear C); have M := M9; clear M9; have C := M.ruleAll; simp only [Go.Proofs.Ytinjjaoikofkdaa.ruleAll] at C)) | ((with_reducible apply wpM_lda' M 0 29 0 (bkA g1 c1 g2 c2 ns.length ls.length)); rfl; rfl; rfl; exact ⟨rfl, inf_bok.trans (congrArg some (bok_size ..).symm), _, und_bok, rfl⟩; exact whole_of rfl) | (go_at_call 44; ((with_reducible refine (hP _ M).mono ?_); rintro e w1 ⟨rfl, hb⟩; have hsz := M.size; (try (have G9 := G.later hb; clear G; have G := G9; clear G9)); have M9 := M.later hb; clear M; (try clear C); have M := M9; clear M9; have C := M.ruleAll; simp only [Go.Proofs.Ytinjjaoikofkdaa.ruleAll] at C)) | (refine wpList_load_part_g 43 _ rfl rfl (g2) (k * 101) rfl (sqs q.n q.t) _ und_sqs rfl inf_sqs (HCE.out (M.rd 2 rfl)) ?_) | (go_at_call 41; ((with_reducible refine (hL _).mono ?_); rintro e w1 ⟨rfl, hb⟩; have hsz := M.size; (try (have G9 := G.later hb; clear G; have G := G9; clear G9)); have M9 := M.later hb; clear M; (try clear C); have M := M9; clear M9; have C := M.ruleAll; simp only [Go.Proofs.Ytinjjaoikofkdaa.ruleAll] at C))); exact ⟨rfl, rfl, M⟩); rfl))); (clear M; (try clear C); intro w2 M; simp only [List.drop_succ_cons, List.drop_zero]; have C := M.ruleAll; simp only [Go.Proofs.Ytinjjaoikofkdaa.ruleAll] at C)
          go_wp2
          go_ret
          exact ⟨by rw [HFAIL.out (by rw [HIT.out]; simp [*])]; rfl, M.below⟩
        | true =>
          by_cases hpk : p = (k : Int)
          case neg =>
            have d5 : decide (p = (k : Int)) = false := decide_eq_false hpk
            have d6 : (p == (k : Int)) = false := beq_eq_false_iff_ne.2 hpk
            go_wp2
            apply wp_region_mm M 31 (by kernel_rfl) (by kernel_rfl); (simp only [List.take_succ_cons, List.take_zero]; repeat (first | exact wpText_nil | (apply wpText_cons; (intro w2 M; have C := M.ruleAll; simp only [Go.Proofs.Ytinjjaoikofkdaa.ruleAll] at C; go_wp2_with (first | (go_at_call 42; ((with_reducible refine (hA _).mono ?_); rintro e w1 ⟨rfl, hb⟩; have hsz := M.size; (try (have G9 := G.later hb; clear G; have G := G9; clear G9)); have M9 := M.later hb; clear M; (try clear C); have M := M9; clear M9; have C := M.ruleAll; simp only [Go.Proofs.Ytinjjaoikofkdaa.ruleAll] at C)) | ((with_reducible apply wpM_lda' M 0 29 0 (bkA g1 c1 g2 c2 ns.length ls.length)); rfl; rfl; rfl; exact ⟨rfl, inf_bok.trans (congrArg some (bok_size ..).symm), _, und_bok, rfl⟩; exact whole_of rfl) | (go_at_call 44; ((with_reducible refine (hP _ M).mono ?_); rintro e w1 ⟨rfl, hb⟩; have hsz := M.size; (try (have G9 := G.later hb; clear G; have G := G9; clear G9)); have M9 := M.later hb; clear M; (try clear C); have M := M9; clear M9; have C := M.ruleAll; simp only [Go.Proofs.Ytinjjaoikofkdaa.ruleAll] at C)) | (refine wpList_load_part_g 43 _ rfl rfl (g2) (k * 101) rfl (sqs q.n q.t) _ und_sqs rfl inf_sqs (HCE.out (M.rd 2 rfl)) ?_) | (go_at_call 41; ((with_reducible refine (hL _).mono ?_); rintro e w1 ⟨rfl, hb⟩; have hsz := M.size; (try (have G9 := G.later hb; clear G; have G := G9; clear G9)); have M9 := M.later hb; clear M; (try clear C); have M := M9; clear M9; have C := M.ruleAll; simp only [Go.Proofs.Ytinjjaoikofkdaa.ruleAll] at C))); exact ⟨rfl, rfl, M⟩); rfl))); (clear M; (try clear C); intro w2 M; simp only [List.drop_succ_cons, List.drop_zero]; have C := M.ruleAll; simp only [Go.Proofs.Ytinjjaoikofkdaa.ruleAll] at C)
            go_wp2
            go_ret
            exact ⟨by rw [HFAIL.out (by rw [HIT.out]; simp [*])]; rfl, M.below⟩
          case pos =>
            subst hpk
            cases a3 with
            | false =>
              go_wp2
              apply wp_region_mm M 31 (by kernel_rfl) (by kernel_rfl); (simp only [List.take_succ_cons, List.take_zero]; repeat (first | exact wpText_nil | (apply wpText_cons; (intro w2 M; have C := M.ruleAll; simp only [Go.Proofs.Ytinjjaoikofkdaa.ruleAll] at C; go_wp2_with (first | (go_at_call 42; ((with_reducible refine (hA _).mono ?_); rintro e w1 ⟨rfl, hb⟩; have hsz := M.size; (try (have G9 := G.later hb; clear G; have G := G9; clear G9)); have M9 := M.later hb; clear M; (try clear C); have M := M9; clear M9; have C := M.ruleAll; simp only [Go.Proofs.Ytinjjaoikofkdaa.ruleAll] at C)) | ((with_reducible apply wpM_lda' M 0 29 0 (bkA g1 c1 g2 c2 ns.length ls.length)); rfl; rfl; rfl; exact ⟨rfl, inf_bok.trans (congrArg some (bok_size ..).symm), _, und_bok, rfl⟩; exact whole_of rfl) | (go_at_call 44; ((with_reducible refine (hP _ M).mono ?_); rintro e w1 ⟨rfl, hb⟩; have hsz := M.size; (try (have G9 := G.later hb; clear G; have G := G9; clear G9)); have M9 := M.later hb; clear M; (try clear C); have M := M9; clear M9; have C := M.ruleAll; simp only [Go.Proofs.Ytinjjaoikofkdaa.ruleAll] at C)) | (refine wpList_load_part_g 43 _ rfl rfl (g2) (k * 101) rfl (sqs q.n q.t) _ und_sqs rfl inf_sqs (HCE.out (M.rd 2 rfl)) ?_) | (go_at_call 41; ((with_reducible refine (hL _).mono ?_); rintro e w1 ⟨rfl, hb⟩; have hsz := M.size; (try (have G9 := G.later hb; clear G; have G := G9; clear G9)); have M9 := M.later hb; clear M; (try clear C); have M := M9; clear M9; have C := M.ruleAll; simp only [Go.Proofs.Ytinjjaoikofkdaa.ruleAll] at C))); exact ⟨rfl, rfl, M⟩); rfl))); (clear M; (try clear C); intro w2 M; simp only [List.drop_succ_cons, List.drop_zero]; have C := M.ruleAll; simp only [Go.Proofs.Ytinjjaoikofkdaa.ruleAll] at C)
              go_wp2
              go_ret
              exact ⟨by rw [HFAIL.out (by rw [HIT.out]; simp [*])]; rfl, M.below⟩
            | true =>
              by_cases h7 : 7 < q.n
              · have d7 : decide (7 < q.n) = true := decide_eq_true h7
                go_wp2
                apply wp_region_mm M 31 (by kernel_rfl) (by kernel_rfl); (simp only [List.take_succ_cons, List.take_zero]; repeat (first | exact wpText_nil | (apply wpText_cons; (intro w2 M; have C := M.ruleAll; simp only [Go.Proofs.Ytinjjaoikofkdaa.ruleAll] at C; go_wp2_with (first | (go_at_call 42; ((with_reducible refine (hA _).mono ?_); rintro e w1 ⟨rfl, hb⟩; have hsz := M.size; (try (have G9 := G.later hb; clear G; have G := G9; clear G9)); have M9 := M.later hb; clear M; (try clear C); have M := M9; clear M9; have C := M.ruleAll; simp only [Go.Proofs.Ytinjjaoikofkdaa.ruleAll] at C)) | ((with_reducible apply wpM_lda' M 0 29 0 (bkA g1 c1 g2 c2 ns.length ls.length)); rfl; rfl; rfl; exact ⟨rfl, inf_bok.trans (congrArg some (bok_size ..).symm), _, und_bok, rfl⟩; exact whole_of rfl) | (go_at_call 44; ((with_reducible refine (hP _ M).mono ?_); rintro e w1 ⟨rfl, hb⟩; have hsz := M.size; (try (have G9 := G.later hb; clear G; have G := G9; clear G9)); have M9 := M.later hb; clear M; (try clear C); have M := M9; clear M9; have C := M.ruleAll; simp only [Go.Proofs.Ytinjjaoikofkdaa.ruleAll] at C)) | (refine wpList_load_part_g 43 _ rfl rfl (g2) (k * 101) rfl (sqs q.n q.t) _ und_sqs rfl inf_sqs (HCE.out (M.rd 2 rfl)) ?_) | (go_at_call 41; ((with_reducible refine (hL _).mono ?_); rintro e w1 ⟨rfl, hb⟩; have hsz := M.size; (try (have G9 := G.later hb; clear G; have G := G9; clear G9)); have M9 := M.later hb; clear M; (try clear C); have M := M9; clear M9; have C := M.ruleAll; simp only [Go.Proofs.Ytinjjaoikofkdaa.ruleAll] at C))); exact ⟨rfl, rfl, M⟩); rfl))); (clear M; (try clear C); intro w2 M; simp only [List.drop_succ_cons, List.drop_zero]; have C := M.ruleAll; simp only [Go.Proofs.Ytinjjaoikofkdaa.ruleAll] at C)
                go_wp2
                go_ret
                exact ⟨by rw [HFAIL.out (by rw [HIT.out]; simp [*])]; rfl, M.below⟩
              · have d7 : decide (7 < q.n) = false := decide_eq_false h7
                go_wp2
                apply wp_region_mm M 31 (by kernel_rfl) (by kernel_rfl); (simp only [List.take_succ_cons, List.take_zero]; repeat (first | exact wpText_nil | (apply wpText_cons; (intro w2 M; have C := M.ruleAll; simp only [Go.Proofs.Ytinjjaoikofkdaa.ruleAll] at C; go_wp2_with (first | (go_at_call 42; ((with_reducible refine (hA _).mono ?_); rintro e w1 ⟨rfl, hb⟩; have hsz := M.size; (try (have G9 := G.later hb; clear G; have G := G9; clear G9)); have M9 := M.later hb; clear M; (try clear C); have M := M9; clear M9; have C := M.ruleAll; simp only [Go.Proofs.Ytinjjaoikofkdaa.ruleAll] at C)) | ((with_reducible apply wpM_lda' M 0 29 0 (bkA g1 c1 g2 c2 ns.length ls.length)); rfl; rfl; rfl; exact ⟨rfl, inf_bok.trans (congrArg some (bok_size ..).symm), _, und_bok, rfl⟩; exact whole_of rfl) | (go_at_call 44; ((with_reducible refine (hP _ M).mono ?_); rintro e w1 ⟨rfl, hb⟩; have hsz := M.size; (try (have G9 := G.later hb; clear G; have G := G9; clear G9)); have M9 := M.later hb; clear M; (try clear C); have M := M9; clear M9; have C := M.ruleAll; simp only [Go.Proofs.Ytinjjaoikofkdaa.ruleAll] at C)) | (refine wpList_load_part_g 43 _ rfl rfl (g2) (k * 101) rfl (sqs q.n q.t) _ und_sqs rfl inf_sqs (HCE.out (M.rd 2 rfl)) ?_) | (go_at_call 41; ((with_reducible refine (hL _).mono ?_); rintro e w1 ⟨rfl, hb⟩; have hsz := M.size; (try (have G9 := G.later hb; clear G; have G := G9; clear G9)); have M9 := M.later hb; clear M; (try clear C); have M := M9; clear M9; have C := M.ruleAll; simp only [Go.Proofs.Ytinjjaoikofkdaa.ruleAll] at C))); exact ⟨rfl, rfl, M⟩); rfl))); (clear M; (try clear C); intro w2 M; simp only [List.drop_succ_cons, List.drop_zero]; have C := M.ruleAll; simp only [Go.Proofs.Ytinjjaoikofkdaa.ruleAll] at C)
                go_wp2
                go_roundw
                case rel => exact ⟨k + 1, by omega, by go_num, HN.out (by rw [HIT.out]; simp [*]), M⟩
                case measure => simp [intOf]; omega
      · obtain rfl : k = ns.length := by omega
        have hge : ¬ ((ns.length : Int) < (ns.length : Int)) := by omega
        have hok : ∀ r ∈ ls, okS r := fun r hr => by
          obtain ⟨j, hj, rfl⟩ := List.getElem_of_mem hr
          have h := HL.out j (by rw [← HLN.out]; exact hj)
          unfold itemB at h
          simp only [Bool.and_eq_true] at h
          have h2 := h.1.2
          have e : ls.getD j sq00 = ls[j] := by rw [List.getD_eq_getElem?_getD, List.getElem?_eq_getElem hj]; rfl
          rw [e] at h2
          exact ⟨HBY.out _ hr, isSq_true.2 (isLp_true.1 h2).sq⟩
        have HOK := Hid2.mk hok
        clear hok
        go_wp2
        go_loopw [4] (fun i wr => ∃ k : Nat, k ≤ ls.length ∧ i = .int .i64 (k : Int) ∧ (∀ j, j < k → firstB ls j = true) ∧ Mm no w wr [.box bb (bkA g1 c1 g2 c2 ns.length ls.length) 29, .rd g1 ns.length (nmF ns), .rd g2 (ls.length * 101) (fun j => (slC ls).getD j undef)]) (fun i _ => ls.length - (intOf i).toNat)
        case atStart => exact ⟨0, by omega, rfl, fun j h => by omega, M⟩
        case round =>
          obtain ⟨k, hk, rfl, hl, M9⟩ := hrel
          clear M; (try clear C)
          have M := M9
          clear M9
          have C := M.ruleAll; simp only [Go.Proofs.Ytinjjaoikofkdaa.ruleAll] at C
          have HF := Hid2.mk hl
          clear hl
          by_cases hlt : k < ls.length
          · have hlt' : (k : Int) < (ls.length : Int) := by omega
            have hfail := fun h => @isBk_first ns ls k hlt h
            have hnext : firstB ls k = true → ∀ j, j < k + 1 → firstB ls j = true := fun h j h1 => by
              rcases Nat.lt_or_eq_of_le (Nat.lt_succ_iff.1 h1) with h2 | rfl
              · exact HF.out j h2
              · exact h
            obtain ⟨q, hq⟩ : ∃ q, q = ls.getD k sq00 := ⟨_, rfl⟩
            have hqe : q = ls[k] := by rw [hq, List.getD_eq_getElem?_getD, List.getElem?_eq_getElem hlt]; rfl
            have hfi : firstB ls k = (placeOf (alkB q) ls == (k : Int)) := by rw [hq]; rfl
            have hK : ∀ w1, Mm no w w1 [.box bb (bkA g1 c1 g2 c2 ns.length ls.length) 29, .rd g1 ns.length (nmF ns), .rd g2 (ls.length * 101) (fun j => (slC ls).getD j undef)] → _ := fun w1 M => l11Kept_any q ls (by omega) (HOK.out q (by rw [hqe]; exact List.getElem_mem hlt)) HOK.out w1 g1 c1 g2 c2 ns.length (M.rd 2 rfl)
            have hcells : ∀ {w3}, rds w3 g2 (ls.length * 101) (fun j => (slC ls).getD j undef) → ∀ j v, (sqs q.n q.t)[j]? = some v → w3.cell? ⟨g2, k * 101 + j, none⟩ = some v := fun h => by rw [hqe]; exact sq_cells h hlt
            have HCE := Hid2.mk @hcells
            clear hq hqe hcells
            generalize keptP q ls = f at hK
            generalize placeOf (alkB q) ls = p at hK hfi
            have HFI := Hid2.mk hfi
            have HFAIL := Hid2.mk hfail
            have HN := Hid2.mk hnext
            clear hfi hfail hnext
            by_cases hpk : p = (k : Int)
            · have hB9 : (p == (k : Int)) = true := beq_iff_eq.2 hpk
              subst hpk
              go_wp2
              apply wp_region_mmf2 M [0, 1, 2, 3, 4, 5, 6, 7, 8, 9] 10 11 12 _ _ (StW3 w (k : Int)) (by kernel_rfl) (by kernel_rfl) rfl rfl rfl rfl rfl
              case ht => (repeat (first | exact wpTextG_nil | (apply wpTextG_cons; (intro g9 w2 hG; obtain ⟨Lg9, hSt9, G⟩ := hG; have M := G.suffix; have C := M.ruleAll; simp only [Go.Proofs.Ytinjjaoikofkdaa.ruleAll] at C; go_wp2_with (first | ((with_reducible apply wpM_lda' M 0 29 0 (bkA g1 c1 g2 c2 ns.length ls.length)); rfl; rfl; rfl; exact ⟨rfl, inf_bok.trans (congrArg some (bok_size ..).symm), _, und_bok, rfl⟩; exact whole_of rfl) | (refine wpList_load_part rfl 43 _ rfl (g2) (k * 101) rfl (sqs q.n q.t) _ und_sqs rfl inf_sqs (HCE.out (M.rd 2 rfl)) ?_) | (go_at_call 43; ((with_reducible refine (hK _ M).mono ?_); rintro e w1 ⟨rfl, hb⟩; have hsz := M.size; (try (have G9 := G.later hb; clear G; have G := G9; clear G9)); have M9 := M.later hb; clear M; (try clear C); have M := M9; clear M9; have C := M.ruleAll; simp only [Go.Proofs.Ytinjjaoikofkdaa.ruleAll] at C))); exact ⟨rfl, rfl, Lg9, hSt9, G⟩); rfl)))
              case hA =>
                intro Lg w2 h M
                obtain rfl : Lg = [] := h
                refine yield_walk (ops := #[]) rfl rfl (by simp [Act.put]) ?_
                go_wp2_with (first | ((with_reducible apply wpM_alloc' M 70 (bys fun _ => 0)); rfl; exact ⟨rfl, _, zero_plc _, rfl⟩; clear M; (try clear C); intro b6 w9 h_b6 M; have C := M.ruleAll; simp only [Go.Proofs.Ytinjjaoikofkdaa.ruleAll] at C))
                exact ⟨_, ⟨b6, rfl, by assumption, rfl⟩, M⟩
              case hA2 =>
                intro v Lg w2 h M
                obtain ⟨b6, rfl, hb6, rfl⟩ := h
                refine yield_walk (ops := #[]) rfl rfl (by simp [Act.put]) ?_
                go_wp2
                exact ⟨_, ⟨⟨b6, rfl, hb6, rfl⟩, rfl⟩, M⟩
              clear M; (try clear C)
              intro v u9 Lg w2 h M
              obtain ⟨⟨b6, rfl, hb6, rfl⟩, rfl⟩ := h
              simp only [List.drop_succ_cons, List.drop_zero, List.cons_append, List.nil_append] at M ⊢
              have C := M.ruleAll; simp only [Go.Proofs.Ytinjjaoikofkdaa.ruleAll] at C
              go_wp2_with (first | ((with_reducible apply wpM_sta' M 0 70 (bys f)); rfl; rfl; rfl; rfl; (first | exact .inl (by assumption) | exact .inr rfl | exact .inr (by assumption)); exact ⟨rfl, inf_plc.trans (congrArg some (bys_size ..).symm), flat_bys _⟩; (simp only [entCells, List.getElem?_cons_zero, List.getElem?_cons_succ, bys_size, bys_size]); clear M; (try clear C); intro w9 M; simp only [List.set_cons_zero, List.set_cons_succ, entBlk, entT, List.getElem?_cons_zero, List.getElem?_cons_succ] at M; have C := M.ruleAll; simp only [Go.Proofs.Ytinjjaoikofkdaa.ruleAll] at C))
              go_roundw
              case rel => exact ⟨k + 1, by omega, by go_num, HN.out (by rw [HFI.out]; exact hB9), M.drop 0⟩
              case measure => simp [intOf]; omega
            · have d5 : decide (p = (k : Int)) = false := decide_eq_false hpk
              have d6 : (p == (k : Int)) = false := beq_eq_false_iff_ne.2 hpk
              go_wp2
              apply wp_region_mmf2 M [0, 1, 2, 3, 4, 5, 6, 7, 8, 9] 10 11 12 _ _ (StW3 w p) (by kernel_rfl) (by kernel_rfl) rfl rfl rfl rfl rfl
              case ht => (repeat (first | exact wpTextG_nil | (apply wpTextG_cons; (intro g9 w2 hG; obtain ⟨Lg9, hSt9, G⟩ := hG; have M := G.suffix; have C := M.ruleAll; simp only [Go.Proofs.Ytinjjaoikofkdaa.ruleAll] at C; go_wp2_with (first | ((with_reducible apply wpM_lda' M 0 29 0 (bkA g1 c1 g2 c2 ns.length ls.length)); rfl; rfl; rfl; exact ⟨rfl, inf_bok.trans (congrArg some (bok_size ..).symm), _, und_bok, rfl⟩; exact whole_of rfl) | (refine wpList_load_part rfl 43 _ rfl (g2) (k * 101) rfl (sqs q.n q.t) _ und_sqs rfl inf_sqs (HCE.out (M.rd 2 rfl)) ?_) | (go_at_call 43; ((with_reducible refine (hK _ M).mono ?_); rintro e w1 ⟨rfl, hb⟩; have hsz := M.size; (try (have G9 := G.later hb; clear G; have G := G9; clear G9)); have M9 := M.later hb; clear M; (try clear C); have M := M9; clear M9; have C := M.ruleAll; simp only [Go.Proofs.Ytinjjaoikofkdaa.ruleAll] at C))); exact ⟨rfl, rfl, Lg9, hSt9, G⟩); rfl)))
              case hA =>
                intro Lg w2 h M
                obtain rfl : Lg = [] := h
                refine yield_walk (ops := #[]) rfl rfl (by simp [Act.put]) ?_
                go_wp2_with (first | ((with_reducible apply wpM_alloc' M 70 (bys fun _ => 0)); rfl; exact ⟨rfl, _, zero_plc _, rfl⟩; clear M; (try clear C); intro b6 w9 h_b6 M; have C := M.ruleAll; simp only [Go.Proofs.Ytinjjaoikofkdaa.ruleAll] at C))
                exact ⟨_, ⟨b6, rfl, by assumption, rfl⟩, M⟩
              case hA2 =>
                intro v Lg w2 h M
                obtain ⟨b6, rfl, hb6, rfl⟩ := h
                refine yield_walk (ops := #[]) rfl rfl (by simp [Act.put]) ?_
                go_wp2
                exact ⟨_, ⟨⟨b6, rfl, hb6, rfl⟩, rfl⟩, M⟩
              clear M; (try clear C)
              intro v u9 Lg w2 h M
              obtain ⟨⟨b6, rfl, hb6, rfl⟩, rfl⟩ := h
              simp only [List.drop_succ_cons, List.drop_zero, List.cons_append, List.nil_append] at M ⊢
              have C := M.ruleAll; simp only [Go.Proofs.Ytinjjaoikofkdaa.ruleAll] at C
              go_wp2_with (first | ((with_reducible apply wpM_sta' M 0 70 (bys f)); rfl; rfl; rfl; rfl; (first | exact .inl (by assumption) | exact .inr rfl | exact .inr (by assumption)); exact ⟨rfl, inf_plc.trans (congrArg some (bys_size ..).symm), flat_bys _⟩; (simp only [entCells, List.getElem?_cons_zero, List.getElem?_cons_succ, bys_size, bys_size]); clear M; (try clear C); intro w9 M; simp only [List.set_cons_zero, List.set_cons_succ, entBlk, entT, List.getElem?_cons_zero, List.getElem?_cons_succ] at M; have C := M.ruleAll; simp only [Go.Proofs.Ytinjjaoikofkdaa.ruleAll] at C))
              go_ret
              exact ⟨by rw [HFAIL.out (by rw [HFI.out]; exact d6)]; rfl, M.below⟩
          · obtain rfl : k = ls.length := by omega
            have hge : ¬ ((ls.length : Int) < (ls.length : Int)) := by omega
            have hB := HBK.out HL.out HF.out
            have HB := Hid2.mk hB
            clear hB
            go_wp2
            go_ret
            exact ⟨by rw [HB.out]; rfl, M.below⟩
end Go.Proofs.Ytinjjaoikofkdaa
