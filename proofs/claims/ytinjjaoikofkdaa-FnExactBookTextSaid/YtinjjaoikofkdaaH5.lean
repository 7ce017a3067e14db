/- The text of a book in the reference; BookText on both sides; the law's walk. Printed by gen/h5.py. -/
import Derived.Test.YtinjjaoikofkdaaH4
namespace Go.Proofs.Ytinjjaoikofkdaa
set_option linter.unusedSimpArgs false
set_option linter.unusedVariables false
open Go Go.RowKit

def StS (s : ByteArray) : List Value → List Ent → Prop
  | [], Lg => Lg = []
  | v :: _, Lg => v = .string s ∧ Lg = []

set_option maxRecDepth 100000 in
set_option maxHeartbeats 2000000 in
theorem l11Text_any {ns : List ByteArray} {ls : List Sqr} (h : BkIn ns ls) (hv : isBk ns ls = true) (w : World) {g1 g2 : Nat} (h1 : BkHere ns ls w g1 g2) (c1 c2 : Nat) :
    Calls Try.prog 55 #[.agg (bkA g1 c1 g2 c2 ns.length ls.length)] w fun e w' => e = .returned (.string (str (bkT ns ls ns.length))) ∧ Below w.heap.size w w' := by
  have M := Mm.start no w
  have k0 : (bkA g1 c1 g2 c2 ns.length ls.length)[0]? = some (.slice (some ⟨g1, 0, none⟩) ns.length c1) := rfl
  have k1 : (bkA g1 c1 g2 c2 ns.length ls.length)[1]? = some (.slice (some ⟨g2, 0, none⟩) ls.length c2) := rfl
  obtain ⟨hn, hm, hall⟩ := isBk_get hv
  have hn' : (ns.length : Int) ≤ 20 := by omega
  have HALL := Hid2.mk hall
  have HTL := Hid2.mk (show ∀ k, k ≤ ns.length → (bkT ns ls k).length ≤ 5000 from fun k hk => by
    have := bkT_len (ns := ns) (ls := ls) (n := k) fun j hj => wrdT_len (hall j (by omega)).1 (by have := (hall j (by omega)).2.1; omega)
    omega)
  have HM := Hid2.mk hm
  have HH := Hid2.mk (fun w1 (hb : Below w.heap.size w w1) => h1.later hb)
  have hml : (ls.length : Int) ≤ 20 := by omega
  clear h hv h1 hall hm
  go_enter Try.func55, Try.ntmps55
  go_wp2_with (first | ((with_reducible apply wpM_box' M 29 (bkA g1 c1 g2 c2 ns.length ls.length)); rfl; exact ⟨rfl, rfl⟩; clear M; (try clear C); intro bb w9 h_bb M; have C := M.ruleAll; simp only [Go.Proofs.Ytinjjaoikofkdaa.ruleAll] at C))
  go_loopw [3, 4] (fun o i wr => ∃ k : Nat, k ≤ ns.length ∧ i = .int .i64 (k : Int) ∧ o = .string (str (bkT ns ls k)) ∧ Mm no w wr [.box bb (bkA g1 c1 g2 c2 ns.length ls.length) 29]) (fun _ i _ => ns.length - (intOf i).toNat)
  case atStart => exact ⟨0, by omega, rfl, rfl, M⟩
  case round =>
    obtain ⟨k, hk, rfl, rfl, M9⟩ := hrel
    clear M; (try clear C)
    have M := M9
    clear M9
    by_cases hlt : k < ns.length
    · have hlt' : (k : Int) < (ns.length : Int) := by omega
      have hltm : k < ls.length := by rw [HM.out]; exact hlt
      have hltm' : (k : Int) < (ls.length : Int) := by omega
      have dlt : decide ((k : Int) < (ns.length : Int)) = true := decide_eq_true hlt'
      obtain ⟨hs1, hs2, hs3⟩ := HALL.out k hlt
      have HN := fun w1 (hb : Below w.heap.size w w1) => (show w1.cell? ⟨g1, k, none⟩ = some (.string (str (nmB ns k))) from by
        rw [(HH.out w1 hb).r1.at_ k hlt, ← nmB_str]; rfl)
      have HQ : ∀ w1, Below w.heap.size w w1 → ∀ j v, (sqs (ls.getD k sq00).n (ls.getD k sq00).t)[j]? = some v → w1.cell? ⟨g2, k * 101 + j, none⟩ = some v := fun w1 hb => by
        rw [getD_at hltm]
        exact sq_cells (HH.out w1 hb).r2 hltm
      have hnl := nmB_len ns k
      have hnl2 : (nmB ns k).length ≤ 12 := by omega
      have hql := sqT_len2 (ls.getD k sq00).t (show (ls.getD k sq00).n ≤ 10 by omega)
      have HL := Hid2.mk (fun w1 => l01TextI _ _ hs3 w1)
      have HS0 : bkT ns ls (k + 1) = bkT ns ls k ++ (if k = 0 then [] else [59]) ++ (nmB ns k ++ [61] ++ sqT (ls.getD k sq00).n.toNat (ls.getD k sq00).t (ls.getD k sq00).n.toNat) := rfl
      have hal := HTL.out k hk
      clear hs3 hnl hs1 hs2
      generalize bkT ns ls k = A at *
      generalize hsq : sqT (ls.getD k sq00).n.toNat (ls.getD k sq00).t (ls.getD k sq00).n.toNat = sb at *
      clear hsq
      generalize ls.getD k sq00 = q at *
      generalize nmB ns k = nm at *
      have HC := Hid2.mk HQ
      have HC1 := Hid2.mk HN
      clear HN HQ
      by_cases hk0 : k = 0
      · have HS1 : bkT ns ls (k + 1) = A ++ (nm ++ [61] ++ sb) := by rw [HS0, if_pos hk0, List.append_nil]
        have hk0' : ¬ (0 : Int) < (k : Int) := by omega
        clear HS0 hk0
        have C := M.ruleAll; simp only [Go.Proofs.Ytinjjaoikofkdaa.ruleAll] at C
        go_wp2
        clear dlt
        obtain ⟨Q, hQ⟩ : ∃ Q, Q = A := ⟨_, rfl⟩
        rw [← hQ] at HS1 ⊢
        have hql2 : Q.length ≤ 5001 := by rw [hQ]; omega
        clear hQ
        obtain ⟨X1, hX1⟩ : ∃ X, X = Q ++ nm := ⟨_, rfl⟩
        obtain ⟨X2, hX2⟩ : ∃ X, X = X1 ++ [61] := ⟨_, rfl⟩
        obtain ⟨X3, hX3⟩ : ∃ X, X = X2 ++ sb := ⟨_, rfl⟩
        have l1 : X1.length = Q.length + nm.length := by rw [hX1, List.length_append]
        have l2 : X2.length = X1.length + 1 := by rw [hX2, List.length_append, List.length_singleton]
        have a1 := add_str Q nm (by omega)
        rw [← hX1] at a1
        have a2 : ∀ w, (Op.stringOp .add (str X1) (⟨#[61]⟩ : ByteArray)).run Try.prog w = .ok (.string (str X2)) w := by rw [hX2]; exact add_str X1 [61] (by rw [List.length_singleton]; omega)
        have a3 := add_str X2 sb (by omega)
        rw [← hX3] at a3
        have HN1 := Hid2.mk (show bkT ns ls (k + 1) = X3 by rw [HS1, hX3, hX2, hX1]; simp only [List.append_assoc])
        clear hX1 hX2 hX3 HS1 l1 l2
        apply wp_region_mmf1 M [0, 1, 2, 3, 4, 5, 6, 7, 8, 9, 10, 11, 12] 13 14 _ (StS (str sb)) (by kernel_rfl) (by kernel_rfl) rfl rfl rfl
        case ht => (repeat (first | exact wpTextG_nil | (apply wpTextG_cons; (intro g9 w2 hG; obtain ⟨Lg9, hSt9, G⟩ := hG; have M := G.suffix; have hc1 := HC1.out _ M.below; have C := M.ruleAll; simp only [Go.Proofs.Ytinjjaoikofkdaa.ruleAll] at C; go_wp2_with (first | (refine wpList_load_part rfl 43 _ rfl (g2) (k * 101) rfl (sqs q.n q.t) _ und_sqs rfl inf_sqs (HC.out _ M.below) ?_)); exact ⟨rfl, rfl, Lg9, hSt9, G⟩); rfl)))
        case hA =>
          intro Lg w2 h M
          obtain rfl : Lg = [] := h
          refine yield_walk (ops := #[]) rfl rfl (by simp [Act.put]) ?_
          simp only [List.nil_append] at M
          go_wp2_with (first | (go_at_call 75; ((with_reducible refine (HL.out _).mono ?_); rintro e w1 ⟨rfl, hb⟩; have hsz := M.size; (try (have G9 := G.later hb; clear G; have G := G9; clear G9)); have M9 := M.later hb; clear M; (try clear C); have M := M9; clear M9; have C := M.ruleAll; simp only [Go.Proofs.Ytinjjaoikofkdaa.ruleAll] at C)))
          exact ⟨[], ⟨rfl, rfl⟩, M⟩
        clear M; (try clear C)
        intro v Lg w2 h M
        obtain ⟨rfl, rfl⟩ := h
        simp only [List.drop_succ_cons, List.drop_zero, List.nil_append] at M ⊢
        have C := M.ruleAll; simp only [Go.Proofs.Ytinjjaoikofkdaa.ruleAll] at C
        go_wp2
        go_roundw
        case rel => exact ⟨k + 1, by omega, by go_num, by rw [HN1.out], M⟩
        case measure => simp [intOf]; omega
      · have HS1 : bkT ns ls (k + 1) = (A ++ [59]) ++ (nm ++ [61] ++ sb) := by rw [HS0, if_neg hk0]
        have hk0' : (0 : Int) < (k : Int) := by omega
        clear HS0 hk0
        obtain ⟨Q, hQ⟩ : ∃ Q, Q = A ++ [59] := ⟨_, rfl⟩
        have a0 : ∀ w, (Op.stringOp .add (str A) (⟨#[59]⟩ : ByteArray)).run Try.prog w = .ok (.string (str Q)) w := by rw [hQ]; exact add_str A [59] (by rw [List.length_singleton]; omega)
        rw [← hQ] at HS1
        have hql2 : Q.length ≤ 5001 := by rw [hQ, List.length_append, List.length_singleton]; omega
        clear hQ
        have C := M.ruleAll; simp only [Go.Proofs.Ytinjjaoikofkdaa.ruleAll] at C
        go_wp2
        clear dlt
        obtain ⟨X1, hX1⟩ : ∃ X, X = Q ++ nm := ⟨_, rfl⟩
        obtain ⟨X2, hX2⟩ : ∃ X, X = X1 ++ [61] := ⟨_, rfl⟩
        obtain ⟨X3, hX3⟩ : ∃ X, X = X2 ++ sb := ⟨_, rfl⟩
        have l1 : X1.length = Q.length + nm.length := by rw [hX1, List.length_append]
        have l2 : X2.length = X1.length + 1 := by rw [hX2, List.length_append, List.length_singleton]
        have a1 := add_str Q nm (by omega)
        rw [← hX1] at a1
        have a2 : ∀ w, (Op.stringOp .add (str X1) (⟨#[61]⟩ : ByteArray)).run Try.prog w = .ok (.string (str X2)) w := by rw [hX2]; exact add_str X1 [61] (by rw [List.length_singleton]; omega)
        have a3 := add_str X2 sb (by omega)
        rw [← hX3] at a3
        have HN1 := Hid2.mk (show bkT ns ls (k + 1) = X3 by rw [HS1, hX3, hX2, hX1]; simp only [List.append_assoc])
        clear hX1 hX2 hX3 HS1 l1 l2
        apply wp_region_mmf1 M [0, 1, 2, 3, 4, 5, 6, 7, 8, 9, 10, 11, 12] 13 14 _ (StS (str sb)) (by kernel_rfl) (by kernel_rfl) rfl rfl rfl
        case ht => (repeat (first | exact wpTextG_nil | (apply wpTextG_cons; (intro g9 w2 hG; obtain ⟨Lg9, hSt9, G⟩ := hG; have M := G.suffix; have hc1 := HC1.out _ M.below; have C := M.ruleAll; simp only [Go.Proofs.Ytinjjaoikofkdaa.ruleAll] at C; go_wp2_with (first | (refine wpList_load_part rfl 43 _ rfl (g2) (k * 101) rfl (sqs q.n q.t) _ und_sqs rfl inf_sqs (HC.out _ M.below) ?_)); exact ⟨rfl, rfl, Lg9, hSt9, G⟩); rfl)))
        case hA =>
          intro Lg w2 h M
          obtain rfl : Lg = [] := h
          refine yield_walk (ops := #[]) rfl rfl (by simp [Act.put]) ?_
          simp only [List.nil_append] at M
          go_wp2_with (first | (go_at_call 75; ((with_reducible refine (HL.out _).mono ?_); rintro e w1 ⟨rfl, hb⟩; have hsz := M.size; (try (have G9 := G.later hb; clear G; have G := G9; clear G9)); have M9 := M.later hb; clear M; (try clear C); have M := M9; clear M9; have C := M.ruleAll; simp only [Go.Proofs.Ytinjjaoikofkdaa.ruleAll] at C)))
          exact ⟨[], ⟨rfl, rfl⟩, M⟩
        clear M; (try clear C)
        intro v Lg w2 h M
        obtain ⟨rfl, rfl⟩ := h
        simp only [List.drop_succ_cons, List.drop_zero, List.nil_append] at M ⊢
        have C := M.ruleAll; simp only [Go.Proofs.Ytinjjaoikofkdaa.ruleAll] at C
        go_wp2
        go_roundw
        case rel => exact ⟨k + 1, by omega, by go_num, by rw [HN1.out], M⟩
        case measure => simp [intOf]; omega
    · obtain rfl : k = ns.length := by omega
      have hge : ¬ ((ns.length : Int) < (ns.length : Int)) := by omega
      generalize hT : str (bkT ns ls ns.length) = T
      have HT := Hid2.mk hT
      clear hT
      have C := M.ruleAll; simp only [Go.Proofs.Ytinjjaoikofkdaa.ruleAll] at C
      go_wp2
      go_ret
      exact ⟨by rw [HT.out]; rfl, M.below⟩

set_option maxRecDepth 100000 in
set_option maxHeartbeats 1000000 in
theorem specBookText_any {ns : List ByteArray} {ls : List Sqr} (h : BkIn ns ls) (w : World) {g1 g2 : Nat} (h1 : BkHere ns ls w g1 g2) (c1 c2 : Nat) :
    Calls Try.prog 17 #[.agg (bkA g1 c1 g2 c2 ns.length ls.length)] w fun e w' => e = .returned (.tuple #[.string (txtR ns ls).1, .int .i64 (txtR ns ls).2]) ∧ Below w.heap.size w w' := by
  have M := Mm.start no w
  have H1 := fun w1 (hb : Below w.heap.size w w1) => l11IsP_any h w1 (h1.later hb) c1 c2
  have H2 := Hid2.mk (fun hv w1 (hb : Below w.heap.size w w1) => l11Text_any h hv w1 (h1.later hb) c1 c2)
  unfold txtR
  cases hv : isBk ns ls with
  | false =>
    rw [hv] at H1
    rw [if_neg (by decide)]
    clear h h1 H2
    go_enter Try.func17, Try.ntmps17
    go_wp2_with (first | ((with_reducible apply wpM_box' M 29 (bkA g1 c1 g2 c2 ns.length ls.length)); rfl; exact ⟨rfl, rfl⟩; clear M; (try clear C); intro bb w9 h_bb M; have C := M.ruleAll; simp only [Go.Proofs.Ytinjjaoikofkdaa.ruleAll] at C) | ((with_reducible apply wpM_lda' M 0 29 0 (bkA g1 c1 g2 c2 ns.length ls.length)); rfl; rfl; rfl; exact ⟨rfl, inf_bok.trans (congrArg some (bok_size ..).symm), _, und_bok, rfl⟩; exact whole_of rfl) | (go_at_call 40; ((with_reducible refine (H1 _ M.below).mono ?_); rintro e w1 ⟨rfl, hb⟩; have hsz := M.size; (try (have G9 := G.later hb; clear G; have G := G9; clear G9)); have M9 := M.later hb; clear M; (try clear C); have M := M9; clear M9; have C := M.ruleAll; simp only [Go.Proofs.Ytinjjaoikofkdaa.ruleAll] at C)))
    go_ret2
    exact ⟨rfl, M.below⟩
  | true =>
    rw [hv] at H1
    rw [if_pos rfl]
    have H3 := H2.out hv
    generalize hT : str (bkT ns ls ns.length) = T at H3
    have HT := Hid2.mk hT
    clear hT
    clear h h1 H2
    go_enter Try.func17, Try.ntmps17
    go_wp2_with (first | ((with_reducible apply wpM_box' M 29 (bkA g1 c1 g2 c2 ns.length ls.length)); rfl; exact ⟨rfl, rfl⟩; clear M; (try clear C); intro bb w9 h_bb M; have C := M.ruleAll; simp only [Go.Proofs.Ytinjjaoikofkdaa.ruleAll] at C) | ((with_reducible apply wpM_lda' M 0 29 0 (bkA g1 c1 g2 c2 ns.length ls.length)); rfl; rfl; rfl; exact ⟨rfl, inf_bok.trans (congrArg some (bok_size ..).symm), _, und_bok, rfl⟩; exact whole_of rfl) | (go_at_call 40; ((with_reducible refine (H1 _ M.below).mono ?_); rintro e w1 ⟨rfl, hb⟩; have hsz := M.size; (try (have G9 := G.later hb; clear G; have G := G9; clear G9)); have M9 := M.later hb; clear M; (try clear C); have M := M9; clear M9; have C := M.ruleAll; simp only [Go.Proofs.Ytinjjaoikofkdaa.ruleAll] at C)) | (go_at_call 55; ((with_reducible refine (H3 _ M.below).mono ?_); rintro e w1 ⟨rfl, hb⟩; have hsz := M.size; (try (have G9 := G.later hb; clear G; have G := G9; clear G9)); have M9 := M.later hb; clear M; (try clear C); have M := M9; clear M9; have C := M.ruleAll; simp only [Go.Proofs.Ytinjjaoikofkdaa.ruleAll] at C)))
    go_ret2
    exact ⟨by rw [← HT.out]; rfl, M.below⟩
end Go.Proofs.Ytinjjaoikofkdaa
