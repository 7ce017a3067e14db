/- The least of a slice of triples, for the program: contracts. -/
import Derived.Test.YtjdfjlgjpjgnhaaC26
import Derived.Test.YtjdfjlgjpjgnhaaC23
namespace Go.Proofs.Ytjdfjlgjpjgnhaa
open Go Go.RowKit

theorem build_i3 (a b c : Int) (w : World) : (Instr.build 133 #[(0, .int .i64 a), (1, .int .i64 b), (2, .int .i64 c)]).run Try.prog w = .ok (.agg #[.int .i64 a, .int .i64 b, .int .i64 c]) w := by kernel_rfl

/-- An element of an array's value. -/
theorem wpList_index {P : Program} {ops : Array Oper} {rest : List Oper} {o : Oper} {a : Act} {w : World} {Q : Exit → Act → World → Prop} (ty : TypeId) (x y : Operand) (ho : o.op = .index ty x y) (hw : Region.wanted o (yielded ops a.tmps) = true)
    (p q : Value) (hp : a.eval x = p) (hq : a.eval y = q) (v : Value) (hb : (Instr.index ty p q).run P w = .ok v w) (h : wpList P ops Q rest (a.put o.dst v) w) : wpList P ops Q (o :: rest) a w := by
  refine wpList_wanted hw ?_
  subst hp hq
  unfold Oper.wp execOp
  simp only [ho, Sem.run_bind, hb, Result.andThen_ok, Sem.run_pure]
  exact h
theorem index_0 (a b c : Int) (w : World) : (Instr.index 133 (.agg #[.int .i64 a, .int .i64 b, .int .i64 c]) (.int .i64 0)).run Try.prog w = .ok (.int .i64 a) w := by kernel_rfl
theorem index_1 (a b c : Int) (w : World) : (Instr.index 133 (.agg #[.int .i64 a, .int .i64 b, .int .i64 c]) (.int .i64 1)).run Try.prog w = .ok (.int .i64 b) w := by kernel_rfl
theorem index_2 (a b c : Int) (w : World) : (Instr.index 133 (.agg #[.int .i64 a, .int .i64 b, .int .i64 c]) (.int .i64 2)).run Try.prog w = .ok (.int .i64 c) w := by kernel_rfl

/-- Three numbers, from the k-th on. -/
def pickFrom (a b c : Int) : Nat → Int
  | 0 => pick3 a b c
  | 1 => if b ≠ 0 then b else c
  | 2 => c
  | _ => 0

set_option maxRecDepth 100000 in
set_option maxHeartbeats 1000000 in
theorem compareTriples_any (x y : Tri) (hx : Tb x) (hy : Tb y) (w : World) : Calls Try.prog 61 #[.agg (trC x), .agg (trC y)] w fun e w' => e = .returned (.int .i64 (cmpT x y)) ∧ Below w.heap.size w w' := by
  have M := Mm.start no w
  have hx1 : ∀ i, x.f i < 10 := fun i => (hx i).1
  have hx2 : ∀ i, x.g i < 10 := fun i => (hx i).2.1
  have hx3 : ∀ i, x.h i < 10 := fun i => (hx i).2.2
  have hy1 : ∀ i, y.f i < 10 := fun i => (hy i).1
  have hy2 : ∀ i, y.g i < 10 := fun i => (hy i).2.1
  have hy3 : ∀ i, y.h i < 10 := fun i => (hy i).2.2
  have hcmp : cmpT x y = pickFrom (cmpB x.f y.f 10 0) (cmpB x.g y.g 10 0) (cmpB x.h y.h 10 0) 0 := rfl
  rw [hcmp]
  clear hcmp
  have H1 := fun w1 b c h1 h2 => bytesCompare_any w1 b c 0 10 10 x.f y.f h1 h2 hx1 hy1
  have H2 := fun w1 b c h1 h2 => bytesCompare_any w1 b c 10 10 10 x.g y.g h1 h2 hx2 hy2
  have H3 := fun w1 b c h1 h2 => bytesCompare_any w1 b c 20 10 10 x.h y.h h1 h2 hx3 hy3
  clear hx hy hx1 hx2 hx3 hy1 hy2 hy3
  generalize cmpB x.f y.f 10 0 = c1 at H1
  generalize cmpB x.g y.g 10 0 = c2 at H2
  generalize cmpB x.h y.h 10 0 = c3 at H3
  have HH1 := Hid2.mk H1
  have HH2 := Hid2.mk H2
  have HH3 := Hid2.mk H3
  clear H1 H2 H3
  go_enter Try.func61, Try.ntmps61
  go_wp2_with (first | ((with_reducible apply wpM_box' M 35 (trC x)); rfl; exact ⟨rfl, rfl⟩; clear M; (try clear C); intro bx w9 h_bx M; have C := M.rules; simp only [List.forall_mem_cons, List.not_mem_nil, false_implies, implies_true, and_true, Ent.rules, true_and] at C) | ((with_reducible apply wpM_box' M 35 (trC y)); rfl; exact ⟨rfl, rfl⟩; clear M; (try clear C); intro by_ w9 h_by_ M; have C := M.rules; simp only [List.forall_mem_cons, List.not_mem_nil, false_implies, implies_true, and_true, Ent.rules, true_and] at C))
  have G1 : ∀ w1, Mm no w w1 [.box by_ (trC y) 35, .box bx (trC x) 35] → _ := fun w1 M => HH1.out w1 bx by_ (fun j hj => (M.box 1 rfl).cell _ _ (trs_first j _ (bys_get hj))) (fun j hj => (M.box 0 rfl).cell _ _ (trs_first j _ (bys_get hj)))
  have G2 : ∀ w1, Mm no w w1 [.box by_ (trC y) 35, .box bx (trC x) 35] → _ := fun w1 M => HH2.out w1 bx by_ (fun j hj => (M.box 1 rfl).cell _ _ (trs_second j _ (bys_get hj))) (fun j hj => (M.box 0 rfl).cell _ _ (trs_second j _ (bys_get hj)))
  have G3 : ∀ w1, Mm no w w1 [.box by_ (trC y) 35, .box bx (trC x) 35] → _ := fun w1 M => HH3.out w1 bx by_ (fun j hj => (M.box 1 rfl).cell _ _ (trs_third j _ (bys_get hj))) (fun j hj => (M.box 0 rfl).cell _ _ (trs_third j _ (bys_get hj)))
  have HG1 := Hid2.mk G1
  have HG2 := Hid2.mk G2
  have HG3 := Hid2.mk G3
  clear G1 G2 G3 HH1 HH2 HH3
  apply wp_region_mm0 M (by kernel_rfl) (by kernel_rfl); (skip; repeat (first | exact wpText_nil | (apply wpText_cons; (intro w2 M; have C := M.rules; simp only [List.forall_mem_cons, List.not_mem_nil, false_implies, implies_true, and_true, Ent.rules, true_and] at C; go_wp2_with (first | (refine wpList_build 133 _ rfl rfl [(0, .int .i64 c1), (1, .int .i64 c2), (2, .int .i64 c3)] rfl _ (build_i3 _ _ _ _) ?_) | (go_at_call 118; ((with_reducible refine (HG1.out _ M).mono ?_); rintro e w1 ⟨rfl, hb⟩; have hsz := M.size; (try (have G9 := G.later hb; clear G; have G := G9; clear G9)); have M9 := M.later hb; clear M; (try clear C); have M := M9; clear M9; have C := M.rules; simp only [List.forall_mem_cons, List.not_mem_nil, false_implies, implies_true, and_true, Ent.rules, true_and] at C)) | (go_at_call 118; ((with_reducible refine (HG2.out _ M).mono ?_); rintro e w1 ⟨rfl, hb⟩; have hsz := M.size; (try (have G9 := G.later hb; clear G; have G := G9; clear G9)); have M9 := M.later hb; clear M; (try clear C); have M := M9; clear M9; have C := M.rules; simp only [List.forall_mem_cons, List.not_mem_nil, false_implies, implies_true, and_true, Ent.rules, true_and] at C)) | (go_at_call 118; ((with_reducible refine (HG3.out _ M).mono ?_); rintro e w1 ⟨rfl, hb⟩; have hsz := M.size; (try (have G9 := G.later hb; clear G; have G := G9; clear G9)); have M9 := M.later hb; clear M; (try clear C); have M := M9; clear M9; have C := M.rules; simp only [List.forall_mem_cons, List.not_mem_nil, false_implies, implies_true, and_true, Ent.rules, true_and] at C))); exact ⟨rfl, rfl, M⟩); rfl))); (clear M; (try clear C); intro w2 M; have C := M.rules; simp only [List.forall_mem_cons, List.not_mem_nil, false_implies, implies_true, and_true, Ent.rules, true_and] at C)
  clear HG1 HG2 HG3
  go_wp2
  go_loopw [23, 6, 24, 25, 26, 27] (fun i _ _ _ _ _ wr => ∃ k : Nat, k ≤ 3 ∧ i = .int .i64 (k : Int) ∧ pickFrom c1 c2 c3 k = pickFrom c1 c2 c3 0 ∧ Mm no w wr [.box by_ (trC y) 35, .box bx (trC x) 35]) (fun i _ _ _ _ _ _ => 3 - (intOf i).toNat)
  case atStart => exact ⟨0, by omega, rfl, rfl, M⟩
  case round =>
    obtain ⟨k, hk, rfl, hl, M9⟩ := hrel
    clear M; (try clear C)
    have M := M9
    clear M9
    have C := M.rules; simp only [List.forall_mem_cons, List.not_mem_nil, false_implies, implies_true, and_true, Ent.rules, true_and] at C
    have HL := Hid2.mk hl
    clear hl
    obtain rfl | rfl | rfl | rfl : k = 0 ∨ k = 1 ∨ k = 2 ∨ k = 3 := by omega
    · by_cases hz : c1 = 0
      · subst hz
        go_wp2_with (refine wpList_index _ _ _ rfl rfl _ _ rfl rfl _ (index_0 _ _ _ _) ?_)
        go_roundw
        case rel => exact ⟨1, by omega, rfl, rfl, M⟩
        case measure => simp [intOf]
      · have hz' : (c1 == 0) = false := by simpa using hz
        have hp : pickFrom c1 c2 c3 0 = c1 := if_pos hz
        go_wp2_with (refine wpList_index _ _ _ rfl rfl _ _ rfl rfl _ (index_0 _ _ _ _) ?_)
        go_ret
        exact ⟨by first | rfl | (rw [hp]; rfl), M.below⟩
    · by_cases hz : c2 = 0
      · subst hz
        go_wp2_with (refine wpList_index _ _ _ rfl rfl _ _ rfl rfl _ (index_1 _ _ _ _) ?_)
        go_roundw
        case rel => exact ⟨2, by omega, rfl, HL.out, M⟩
        case measure => simp [intOf]
      · have hz' : (c2 == 0) = false := by simpa using hz
        have hp : pickFrom c1 c2 c3 1 = c2 := if_pos hz
        go_wp2_with (refine wpList_index _ _ _ rfl rfl _ _ rfl rfl _ (index_1 _ _ _ _) ?_)
        go_ret
        exact ⟨by rw [← HL.out, hp]; rfl, M.below⟩
    · by_cases hz : c3 = 0
      · subst hz
        go_wp2_with (refine wpList_index _ _ _ rfl rfl _ _ rfl rfl _ (index_2 _ _ _ _) ?_)
        go_roundw
        case rel => exact ⟨3, by omega, rfl, HL.out, M⟩
        case measure => simp [intOf]
      · have hz' : (c3 == 0) = false := by simpa using hz
        go_wp2_with (refine wpList_index _ _ _ rfl rfl _ _ rfl rfl _ (index_2 _ _ _ _) ?_)
        go_ret
        exact ⟨by rw [← HL.out]; rfl, M.below⟩
    · go_wp2
      go_ret
      exact ⟨by rw [← HL.out]; rfl, M.below⟩

theorem tlCells_get : ∀ (l : List Tri) {k j : Nat} (hk : k < l.length), j < 30 → (tlCells l)[k * 30 + j]? = (trC l[k])[j]?
  | x :: l, 0, j, _, hj => by
    have e : tlCells (x :: l) = (trC x).toList ++ tlCells l := rfl
    rw [e, List.getElem?_append_left (by rw [Array.length_toList, trC_size]; omega)]
    simp
  | x :: l, k + 1, j, hk, hj => by
    have e : tlCells (x :: l) = (trC x).toList ++ tlCells l := rfl
    have hs : (trC x).toList.length = 30 := by rw [Array.length_toList, trC_size]
    rw [e, List.getElem?_append_right (by rw [hs]; omega), hs, show (k + 1) * 30 + j - 30 = k * 30 + j by omega]
    exact tlCells_get l (by simpa using hk) hj
theorem tl_cells {w : World} {g : Nat} {l : List Tri} (h : rds w g (l.length * 30) (fun j => (tlCells l).getD j undef)) {k : Nat} (hk : k < l.length) : ∀ j v, (trC l[k])[j]? = some v → w.cell? ⟨g, k * 30 + j, none⟩ = some v := by
  intro j v hv
  have hj : j < 30 := by rw [← trC_size l[k]]; exact (Array.getElem?_eq_some_iff.1 hv).1
  rw [h.at_ (k * 30 + j) (by omega), List.getD_eq_getElem?_getD, tlCells_get l hk hj, hv]
  rfl
theorem best_step (l : List Tri) {k : Nat} (hk : k < l.length) : bestOf (l.take (k + 1)) = bestStep (bestOf (l.take k)) l[k] := by
  rw [List.take_succ_eq_append_getElem hk, bestOf_snoc]
theorem mem_best : ∀ (l : List Tri) (s : Tri × Nat), (l.foldl bestStep s).1 = s.1 ∨ (l.foldl bestStep s).1 ∈ l
  | [], _ => .inl rfl
  | x :: l, s => by
    rw [List.foldl_cons]
    rcases mem_best l (bestStep s x) with h | h
    · rw [h]
      simp only [bestStep]
      split
      · exact .inr List.mem_cons_self
      · exact .inl rfl
    · exact .inr (List.mem_cons_of_mem _ h)
theorem best_tb {l : List Tri} (h : ∀ x ∈ l, Tb x) (k : Nat) : Tb (bestOf (l.take k)).1 := by
  rcases mem_best (l.take k) (zeroTri, 0) with e | e
  · unfold bestOf; rw [e]; exact fun i => ⟨by show (0 : Nat) < 10; omega, by show (0 : Nat) < 10; omega, by show (0 : Nat) < 10; omega⟩
  · exact h _ (List.take_subset _ _ e)
theorem best_first (l : List Tri) (h : 0 < l.length) : bestOf (l.take 1) = (l[0], 1) := by
  rw [best_step l h]
  simp [bestOf, bestStep]

set_option maxRecDepth 100000 in
set_option maxHeartbeats 1000000 in
theorem minFunc_any (l : List Tri) (hl : 0 < l.length) (hlen : l.length ≤ 1000000000) (htb : ∀ x ∈ l, Tb x) (w : World) (g cap : Nat) (hr : rds w g (l.length * 30) (fun j => (tlCells l).getD j undef)) :
    Calls Try.prog 60 #[.slice (some ⟨g, 0, none⟩) l.length cap, .func (.func 61) #[] #[]] w fun e w' => e = .returned (.agg (trC (bestOf l).1)) ∧ Below w.heap.size w w' := by
  have M := (Mm.start no w).add (x := .rd g (l.length * 30) (fun j => (tlCells l).getD j undef)) hr fun _ h => by cases h
  have hen : ∀ (args : Array Value) (w : World), (callFunc 61 args).run Try.prog w = .ok (.enter 61 args) w := enters_of (P := Try.prog) (by exact Try.func61) (by kernel_rfl) rfl
  have hb1 := best_first l hl
  have h0' : ¬ ((l.length : Int) < 1) := by omega
  have hbd : (0 : Int) < (l.length : Int) := by omega
  obtain ⟨x0, hx0⟩ : ∃ x0, x0 = l[0] := ⟨_, rfl⟩
  have hc0 : ∀ {w3}, rds w3 g (l.length * 30) (fun j => (tlCells l).getD j undef) → ∀ j v, (trC x0)[j]? = some v → w3.cell? ⟨g, 0 + j, none⟩ = some v := fun h j v hv => by
    have := tl_cells h hl j v (by rw [← hx0]; exact hv)
    rwa [Nat.zero_mul] at this
  rw [← hx0] at hb1
  have HC0 := Hid2.mk @hc0
  have HB1 := Hid2.mk hb1
  have HTB := Hid2.mk htb
  have HR := Hid2.mk hr
  clear hr htb hb1 hc0 hx0
  have C := M.rules; simp only [List.forall_mem_cons, List.not_mem_nil, false_implies, implies_true, and_true, Ent.rules, true_and] at C
  go_enter Try.func60, Try.ntmps60
  go_wp2_with (first | (have hq := h_b4; clear hq; ((with_reducible apply wpM_alloc' M 35 (trC zeroTri)); rfl; exact ⟨rfl, _, zero_trC _, rfl⟩; clear M; (try clear C); intro b5 w9 h_b5 M; have C := M.rules; simp only [List.forall_mem_cons, List.not_mem_nil, false_implies, implies_true, and_true, Ent.rules, true_and] at C)) | ((with_reducible apply wpM_alloc' M 35 (trC zeroTri)); rfl; exact ⟨rfl, _, zero_trC _, rfl⟩; clear M; (try clear C); intro b4 w9 h_b4 M; have C := M.rules; simp only [List.forall_mem_cons, List.not_mem_nil, false_implies, implies_true, and_true, Ent.rules, true_and] at C) | (refine wpList_load_part rfl 35 _ rfl (g) (0) rfl (trC x0) _ und_trp rfl inf_trp (HC0.out (M.rd 1 rfl)) ?_) | ((with_reducible apply wpM_sta' M 0 35 (trC x0)); rfl; rfl; rfl; rfl; (first | exact .inl (by assumption) | exact .inr rfl | exact .inr (by assumption)); exact ⟨rfl, inf_trp.trans (congrArg some (trs_size ..).symm), flat_trs _ _ _⟩; (simp only [entCells, List.getElem?_cons_zero, List.getElem?_cons_succ, trs_size, trC_size]); clear M; (try clear C); intro w9 M; simp only [List.set_cons_zero, List.set_cons_succ, entBlk, entT, List.getElem?_cons_zero, List.getElem?_cons_succ] at M; have C := M.rules; simp only [List.forall_mem_cons, List.not_mem_nil, false_implies, implies_true, and_true, Ent.rules, true_and] at C))
  clear HR
  go_loopw [6] (fun i wr => ∃ k : Nat, 1 ≤ k ∧ k ≤ l.length ∧ i = .int .i64 (k : Int) ∧ Mm no w wr [.box b5 (trC (bestOf (l.take k)).1) 35, .box b4 (trC zeroTri) 35, .rd g (l.length * 30) (fun j => (tlCells l).getD j undef)]) (fun i _ => l.length - (intOf i).toNat)
  case atStart => exact ⟨1, Nat.le_refl _, hl, rfl, by rw [HB1.out]; exact M⟩
  case round =>
    obtain ⟨k, hk1, hk, rfl, M9⟩ := hrel
    clear M; (try clear C)
    have M := M9
    clear M9 HC0 HB1
    have C := M.rules; simp only [List.forall_mem_cons, List.not_mem_nil, false_implies, implies_true, and_true, Ent.rules, true_and] at C
    by_cases hlt : k < l.length
    · have hlt' : (k : Int) < (l.length : Int) := by omega
      have hst := best_step l hlt
      have hB := best_tb HTB.out k
      have hX := HTB.out _ (List.getElem_mem hlt)
      obtain ⟨x, hx⟩ : ∃ x, x = l[k] := ⟨_, rfl⟩
      have hcells : ∀ {w3}, rds w3 g (l.length * 30) (fun j => (tlCells l).getD j undef) → ∀ j v, (trC x)[j]? = some v → w3.cell? ⟨g, k * 30 + j, none⟩ = some v := fun h => by rw [hx]; exact tl_cells h hlt
      rw [← hx] at hst hX
      have hn2 : (bestOf (l.take k)).2 ≠ 0 := by rw [bestOf_len, List.length_take]; omega
      generalize bestOf (l.take k) = B at hst hB hn2 M
      have hcm : ∀ w1, Calls Try.prog 61 #[.agg (trC x), .agg (trC B.1)] w1 fun e w' => e = .returned (.int .i64 (cmpT x B.1)) ∧ Below w1.heap.size w1 w' := fun w1 => compareTriples_any x B.1 hX hB w1
      have hneg := cmpT_neg x B.1
      generalize cmpT x B.1 = c at hcm hneg
      have HCE := Hid2.mk @hcells
      clear hx hX hB hcells
      cases hbv : beforeT x B.1 with
      | true =>
        have hc' : c < 0 := of_decide_eq_true (hneg.trans hbv)
        have hs2 : bestStep B x = (x, B.2 + 1) := by unfold bestStep; rw [if_pos (.inr hbv)]
        have HST := Hid2.mk (hst.trans hs2)
        clear hst hs2 hneg hbv hn2
        go_wp2
        apply wp_region_mm M 6 (by kernel_rfl) (by kernel_rfl); (simp only [List.take_succ_cons, List.take_zero]; repeat (first | exact wpText_nil | (apply wpText_cons; (intro w2 M; have C := M.rules; simp only [List.forall_mem_cons, List.not_mem_nil, false_implies, implies_true, and_true, Ent.rules, true_and] at C; go_wp2_with (first | (refine wpList_load_part rfl 35 _ rfl (g) (k * 30) rfl (trC x) _ und_trp rfl inf_trp (HCE.out (M.rd 2 rfl)) ?_) | ((with_reducible apply wpM_lda' M 0 35 0 (trC B.1)); rfl; rfl; rfl; exact ⟨rfl, inf_trp.trans (congrArg some (trs_size ..).symm), _, und_trp, rfl⟩; exact whole_of rfl)); exact ⟨rfl, rfl, M⟩); rfl))); (clear M; (try clear C); intro w2 M; simp only [List.drop_succ_cons, List.drop_zero]; have C := M.rules; simp only [List.forall_mem_cons, List.not_mem_nil, false_implies, implies_true, and_true, Ent.rules, true_and] at C)
        go_wp2_with (first | (go_at_call 61; ((with_reducible refine (hcm _).mono ?_); rintro e w1 ⟨rfl, hb⟩; have hsz := M.size; (try (have G9 := G.later hb; clear G; have G := G9; clear G9)); have M9 := M.later hb; clear M; (try clear C); have M := M9; clear M9; have C := M.rules; simp only [List.forall_mem_cons, List.not_mem_nil, false_implies, implies_true, and_true, Ent.rules, true_and] at C)) | (refine wpList_load_part rfl 35 _ rfl (g) (k * 30) rfl (trC x) _ und_trp rfl inf_trp (HCE.out (M.rd 2 rfl)) ?_) | ((with_reducible apply wpM_sta' M 0 35 (trC x)); rfl; rfl; rfl; rfl; (first | exact .inl (by assumption) | exact .inr rfl | exact .inr (by assumption)); exact ⟨rfl, inf_trp.trans (congrArg some (trs_size ..).symm), flat_trs _ _ _⟩; (simp only [entCells, List.getElem?_cons_zero, List.getElem?_cons_succ, trs_size, trC_size]); clear M; (try clear C); intro w9 M; simp only [List.set_cons_zero, List.set_cons_succ, entBlk, entT, List.getElem?_cons_zero, List.getElem?_cons_succ] at M; have C := M.rules; simp only [List.forall_mem_cons, List.not_mem_nil, false_implies, implies_true, and_true, Ent.rules, true_and] at C))
        go_roundw
        case rel => exact ⟨k + 1, by omega, by omega, by go_num, by rw [HST.out]; exact M⟩
        case measure => simp [intOf]; omega
      | false =>
        have hc' : ¬ c < 0 := of_decide_eq_false (hneg.trans hbv)
        have hs2 : bestStep B x = (B.1, B.2 + 1) := by unfold bestStep; rw [if_neg (by rw [hbv]; simp; exact hn2)]
        have HST := Hid2.mk (hst.trans hs2)
        clear hst hs2 hneg hbv hn2
        go_wp2
        apply wp_region_mm M 6 (by kernel_rfl) (by kernel_rfl); (simp only [List.take_succ_cons, List.take_zero]; repeat (first | exact wpText_nil | (apply wpText_cons; (intro w2 M; have C := M.rules; simp only [List.forall_mem_cons, List.not_mem_nil, false_implies, implies_true, and_true, Ent.rules, true_and] at C; go_wp2_with (first | (refine wpList_load_part rfl 35 _ rfl (g) (k * 30) rfl (trC x) _ und_trp rfl inf_trp (HCE.out (M.rd 2 rfl)) ?_) | ((with_reducible apply wpM_lda' M 0 35 0 (trC B.1)); rfl; rfl; rfl; exact ⟨rfl, inf_trp.trans (congrArg some (trs_size ..).symm), _, und_trp, rfl⟩; exact whole_of rfl)); exact ⟨rfl, rfl, M⟩); rfl))); (clear M; (try clear C); intro w2 M; simp only [List.drop_succ_cons, List.drop_zero]; have C := M.rules; simp only [List.forall_mem_cons, List.not_mem_nil, false_implies, implies_true, and_true, Ent.rules, true_and] at C)
        go_wp2_with (first | (go_at_call 61; ((with_reducible refine (hcm _).mono ?_); rintro e w1 ⟨rfl, hb⟩; have hsz := M.size; (try (have G9 := G.later hb; clear G; have G := G9; clear G9)); have M9 := M.later hb; clear M; (try clear C); have M := M9; clear M9; have C := M.rules; simp only [List.forall_mem_cons, List.not_mem_nil, false_implies, implies_true, and_true, Ent.rules, true_and] at C)))
        go_roundw
        case rel => exact ⟨k + 1, by omega, by omega, by go_num, by rw [HST.out]; exact M⟩
        case measure => simp [intOf]; omega
    · obtain rfl : k = l.length := by omega
      have hge : ¬ ((l.length : Int) < (l.length : Int)) := by omega
      rw [List.take_length] at M
      generalize hB : bestOf l = B at M
      have HB := Hid2.mk hB
      clear hB C
      have C := M.rules; simp only [List.forall_mem_cons, List.not_mem_nil, false_implies, implies_true, and_true, Ent.rules, true_and] at C
      go_wp2_with (first | ((with_reducible apply wpM_lda' M 0 35 0 (trC B.1)); rfl; rfl; rfl; exact ⟨rfl, inf_trp.trans (congrArg some (trs_size ..).symm), _, und_trp, rfl⟩; exact whole_of rfl) | ((with_reducible apply wpM_sta' M 1 35 (trC B.1)); rfl; rfl; rfl; rfl; (first | exact .inl (by assumption) | exact .inr rfl | exact .inr (by assumption)); exact ⟨rfl, inf_trp.trans (congrArg some (trs_size ..).symm), flat_trs _ _ _⟩; (simp only [entCells, List.getElem?_cons_zero, List.getElem?_cons_succ, trs_size, trC_size]); clear M; (try clear C); intro w9 M; simp only [List.set_cons_zero, List.set_cons_succ, entBlk, entT, List.getElem?_cons_zero, List.getElem?_cons_succ] at M; have C := M.rules; simp only [List.forall_mem_cons, List.not_mem_nil, false_implies, implies_true, and_true, Ent.rules, true_and] at C))
      refine bodyPost_ret (v := .agg (trC B.1)) (by exact results_part rfl _ _ _ _ _ _ rfl und_trp rfl inf_trp (cells_of_blk0 (M.box 1 rfl))) rfl ?_
      exact ⟨by rw [HB.out], M.below⟩
end Go.Proofs.Ytjdfjlgjpjgnhaa
