/- KeepLoop: plain; the test for a loop that is alike. -/
import Derived.Test.YtinjjaoikofkdaaH7
import Derived.Test.YtinjjaoikofkdaaC46
import Derived.Test.YtinjjaoikofkdaaK22
import Derived.Test.YtinjjaoikofkdaaU1
namespace Go.Proofs.Ytinjjaoikofkdaa
set_option linter.unusedSimpArgs false
set_option linter.unusedVariables false
open Go Go.RowKit

/-- The code of KeepLoop. -/
noncomputable def keepC (ns : List ByteArray) (ls : List Sqr) (s : ByteArray) (q : Sqr) : Int :=
  if ¬ (isBk ns ls = true ∧ lpB q = true) then 1
  else if 7 < q.n ∨ nameB s = false then 2
  else if (ns.any fun x => s.toList == x.toList) = true ∨ ls.any (alkB q) = true then 5
  else if ns.length = 20 then 3 else 0
noncomputable def keepN (ns : List ByteArray) (ls : List Sqr) (s : ByteArray) (q : Sqr) : List ByteArray := if keepC ns ls s q = 0 then ns ++ [s] else []
noncomputable def keepL (ns : List ByteArray) (ls : List Sqr) (s : ByteArray) (q : Sqr) : List Sqr := if keepC ns ls s q = 0 then ls ++ [q] else []
theorem place_any (ns : List ByteArray) (s : ByteArray) : decide (0 ≤ placeOf (fun x : ByteArray => x.toList == s.toList) ns) = ns.any fun x => s.toList == x.toList := by
  rw [placeOf_sign]
  refine congrArg (List.any ns) (funext fun x => ?_)
  exact Bool.beq_comm

set_option maxRecDepth 100000 in
set_option maxHeartbeats 1000000 in
theorem keep1_any (q r : Sqr) (hq : okS q) (hr : okS r) (w : World) (b : Nat) (h : blk w b (sqs q.n q.t) 43) :
    Calls Try.prog 53 (#[.agg (sqs r.n r.t)] ++ #[.pointer (some ⟨b, 0, none⟩)]) w fun e w' => e = .returned (.bool (alkB q r)) ∧ Below w.heap.size w w' := by
  have M := (Mm.start no w).add (x := .box b (sqs q.n q.t) 43) h fun _ h => by cases h
  have HA := fun w1 => alike_sq q r w1 hq hr
  clear h
  generalize alkB q r = res at HA
  have C := M.ruleAll; simp only [Go.Proofs.Ytinjjaoikofkdaa.ruleAll] at C
  go_enter Try.func53, Try.ntmps53
  go_wp2_with (first | ((with_reducible apply wpM_box' M 43 (sqs r.n r.t)); rfl; exact ⟨rfl, rfl⟩; clear M; (try clear C); intro b2 w9 h_b2 M; have C := M.ruleAll; simp only [Go.Proofs.Ytinjjaoikofkdaa.ruleAll] at C) | ((with_reducible apply wpM_lda' M 1 43 0 (sqs q.n q.t)); rfl; rfl; rfl; exact ⟨rfl, inf_sqs.trans (congrArg some (sqs_size ..).symm), _, und_sqs, rfl⟩; exact whole_of rfl) | ((with_reducible apply wpM_lda' M 0 43 0 (sqs r.n r.t)); rfl; rfl; rfl; exact ⟨rfl, inf_sqs.trans (congrArg some (sqs_size ..).symm), _, und_sqs, rfl⟩; exact whole_of rfl) | (go_at_call 54; ((with_reducible refine (HA _).mono ?_); rintro e w1 ⟨rfl, hb⟩; have hsz := M.size; (try (have G9 := G.later hb; clear G; have G := G9; clear G9)); have M9 := M.later hb; clear M; (try clear C); have M := M9; clear M9; have C := M.ruleAll; simp only [Go.Proofs.Ytinjjaoikofkdaa.ruleAll] at C)))
  go_ret
  exact ⟨rfl, M.below⟩
theorem containsAlike_any (q : Sqr) (ls : List Sqr) (hlen : ls.length ≤ 10000000) (hq : okS q) (hl : ∀ r ∈ ls, okS r) (w : World) (g c b : Nat) (hr : rds w g (ls.length * 101) (fun j => (slC ls).getD j undef)) (h : blk w b (sqs q.n q.t) 43) :
    Calls Try.prog 52 #[.slice (some ⟨g, 0, none⟩) ls.length c, .func (.func 53) #[] #[.pointer (some ⟨b, 0, none⟩)]] w fun e w' => e = .returned (.bool (ls.any (alkB q))) ∧ Below w.heap.size w w' :=
  containsFunc_any ls hlen w g c hr _ _ (alkB q) (enters_of (P := Try.prog) (f := 53) (by exact Try.func53) (by kernel_rfl) rfl) fun r hrm w1 hb => keep1_any q r hq (hl r hrm) w1 b (Ent.holds_of (x := .box b (sqs q.n q.t) 43) h (.of_below hb no) fun _ _ h => h)
end Go.Proofs.Ytinjjaoikofkdaa

/- A book in new memory, for the reference: contract. Printed by gen/h16.py. -/
namespace Go.Proofs.Ytinjjaoikofkdaa
set_option linter.unusedSimpArgs false
set_option linter.unusedVariables false
open Go Go.RowKit

theorem GrS.not_yet {n : Nat} {post : Nat → (Nat → Bool) → (Nat → Value) → List Ent → Prop} {R : Nat → List Nat} {w0 w : World} {L : List Ent} {D : Nat → Bool} {g : Nat → Value} (S : GrS n post R w0 L D g w) {i k : Nat} (h0 : D i = false) (h : i ∈ R k) (hne : k ≠ i) : updD D i k = false := by
  rw [updD_ne hne]
  cases e : D k with
  | false => rfl
  | true => have := S.anc k e i h; rw [h0] at this; cases this
theorem Mm.weakRow {D : Nat → Prop} {w0 w : World} {L : List Ent} {B1 B : Nat} {v1 : Value} {n1 : Nat} {xs1 : List Value} {e1 s1 : Nat} (M : Mm D w0 w (.row B1 v1 n1 xs1 e1 s1 :: L)) (h1 : B ≤ B1) : Mm D w0 w (.row B v1 n1 xs1 e1 s1 :: L) :=
  M.set 0 rfl (y := .row B v1 n1 xs1 e1 s1) (.refl no w) (fun _ h => h.elim) (fun _ _ h => h.elim) (ownsRow_weak (M.row 0 rfl) h1) fun k h => .inl h
theorem new_row1 {w w' : World} {B : Nat} {v : Value} {n : Nat} {xs : List Value} {e size : Nat} (M : Mm no w w' [.row w.heap.size v n xs e size]) : ∀ x ∈ [Ent.row B v n xs e size], ∀ b, x.place b → w.heap.size ≤ b := fun x hx b hb => by
  simp only [List.mem_singleton] at hx; subst hx
  exact place_row (M.row 0 rfl) b hb
theorem build_bk2 (p1 : Option Addr) (n1 c1 : Nat) (p2 : Option Addr) (n2 c2 : Nat) (w : World) : (Instr.build 29 #[(0, .slice p1 n1 c1), (1, .slice p2 n2 c2)]).run Try.prog w = .ok (.agg (bkV p1 c1 p2 c2 n1 n2)) w := by kernel_rfl
/-- The names and the loops of a book, as cells that are known. -/
theorem nm_cells {l : List ByteArray} {w : World} {g : Nat} (h : rds w g l.length (nmF l)) : ∀ w1, Below w.heap.size w w1 → ∀ j u, (nmR l)[j]? = some u → w1.cell? ((⟨g, 0, none⟩ : Addr).add j) = some u := fun w1 hb j u hj => by
  rw [add_none, Nat.zero_add]
  have hlt := (List.getElem?_eq_some_iff.1 hj).1
  rw [show (nmR l).length = l.length by unfold nmR; rw [List.length_map]] at hlt
  rw [(h.later hb).at_ j (by omega)]
  unfold nmR at hj; rw [List.getElem?_map] at hj; obtain ⟨x, hx, rfl⟩ := Option.map_eq_some_iff.1 hj; obtain ⟨h1, rfl⟩ := List.getElem?_eq_some_iff.1 hx; rw [nmF_at h1]
theorem sl_cells {l : List Sqr} {w : World} {g : Nat} (h : rds w g (l.length * 101) (fun j => (slC l).getD j undef)) : ∀ w1, Below w.heap.size w w1 → ∀ j u, (slC l)[j]? = some u → w1.cell? ((⟨g, 0, none⟩ : Addr).add j) = some u := fun w1 hb j u hj => by
  rw [add_none, Nat.zero_add]
  have hlt := (List.getElem?_eq_some_iff.1 hj).1
  rw [show (slC l).length = l.length * 101 from rowC_len sqC_size l] at hlt
  rw [(h.later hb).at_ j (by omega)]
  rw [List.getD_eq_getElem?_getD, hj]; rfl

def owR : Nat → List Nat
  | 0 => []
  | 1 => []
  | 2 => [1]
  | 3 => [0, 1, 2]
  | 4 => []
  | 5 => []
  | 6 => [5]
  | 7 => [0, 1, 2, 3, 4, 5, 6]
  | _ => []
def owP (ns : List ByteArray) (ls : List Sqr) (g1 c1 g2 c2 bb B0 : Nat) : Nat → (Nat → Bool) → (Nat → Value) → List Ent → Prop
  | 0, D, g, E => True ∧ E = [.row B0 (bif D 3 then g 3 else g 0) (bif D 3 then ns.length else 0) (bif D 3 then nmR ns else []) 9 1]
  | 1, _, g, E => g 1 = .pointer (some ⟨bb, 0, none⟩) ∧ E = []
  | 2, _, g, E => g 2 = .slice (some ⟨g1, 0, none⟩) ns.length c1 ∧ E = []
  | 3, _, g, E => E = []
  | 4, D, g, E => True ∧ E = [.row B0 (bif D 7 then g 7 else g 4) (bif D 7 then ls.length else 0) (bif D 7 then slC ls else []) 43 101]
  | 5, _, g, E => g 5 = .pointer (some ⟨bb, 1, none⟩) ∧ E = []
  | 6, _, g, E => g 6 = .slice (some ⟨g2, 0, none⟩) ls.length c2 ∧ E = []
  | 7, _, g, E => E = []
  | _, _, _, _ => False
def owW (j : Nat) : List Nat := if j = 0 then [3] else if j = 4 then [7] else []
theorem owS (ns : List ByteArray) (ls : List Sqr) (g1 c1 g2 c2 bb B0 : Nat) : Stable (owP ns ls g1 c1 g2 c2 bb B0) owR owW := fun i k D g u E hki hkR hkW h => by
  match i with
  | 0 =>
    have hkW0 : k ∉ ([3] : List Nat) := hkW
    simp only [List.mem_cons, List.not_mem_nil, or_false, not_or] at hkW0
    have e0 : updG g k u 0 = g 0 := updG_ne (g := g) (u := u) (Ne.symm hki)
    have e3 : updG g k u 3 = g 3 := updG_ne (by omega)
    have hkW' : k ∉ ([3] : List Nat) := hkW
    simp only [List.mem_cons, List.not_mem_nil, or_false, not_or] at hkW'
    have d3 : updD D k 3 = D 3 := updD_ne (by omega)
    simp only [owP, e0, e3, d3]; exact h
  | 1 =>
    have e1 : updG g k u 1 = g 1 := updG_ne (g := g) (u := u) (Ne.symm hki)
    simp only [owP, e1]; exact h
  | 2 =>
    have e2 : updG g k u 2 = g 2 := updG_ne (g := g) (u := u) (Ne.symm hki)
    simp only [owP, e2]; exact h
  | 3 =>
    simp only [owP, ]; exact h
  | 4 =>
    have hkW0 : k ∉ ([7] : List Nat) := hkW
    simp only [List.mem_cons, List.not_mem_nil, or_false, not_or] at hkW0
    have e4 : updG g k u 4 = g 4 := updG_ne (g := g) (u := u) (Ne.symm hki)
    have e7 : updG g k u 7 = g 7 := updG_ne (by omega)
    have hkW' : k ∉ ([7] : List Nat) := hkW
    simp only [List.mem_cons, List.not_mem_nil, or_false, not_or] at hkW'
    have d7 : updD D k 7 = D 7 := updD_ne (by omega)
    simp only [owP, e4, e7, d7]; exact h
  | 5 =>
    have e5 : updG g k u 5 = g 5 := updG_ne (g := g) (u := u) (Ne.symm hki)
    simp only [owP, e5]; exact h
  | 6 =>
    have e6 : updG g k u 6 = g 6 := updG_ne (g := g) (u := u) (Ne.symm hki)
    simp only [owP, e6]; exact h
  | 7 =>
    simp only [owP, ]; exact h
  | n + 8 => exact h.elim


set_option maxRecDepth 100000 in
set_option maxHeartbeats 4000000 in
theorem l11Own_any {ns : List ByteArray} {ls : List Sqr} (h : BkIn ns ls) (w : World) {g1 g2 : Nat} (h1 : BkHere ns ls w g1 g2) (c1 c2 : Nat) :
    Calls Try.prog 45 #[.agg (bkA g1 c1 g2 c2 ns.length ls.length)] w fun e w' => ∃ p1 d1 p2 d2, e = .returned (.agg (bkV p1 d1 p2 d2 ns.length ls.length)) ∧ Mm no w w' [.row w.heap.size (.slice p1 ns.length d1) ns.length (nmR ns) 9 1, .row w.heap.size (.slice p2 ls.length d2) ls.length (slC ls) 43 101] := by
  have M := Mm.start no w
  have k0 : (bkA g1 c1 g2 c2 ns.length ls.length)[0]? = some (.slice (some ⟨g1, 0, none⟩) ns.length c1) := rfl
  have k1 : (bkA g1 c1 g2 c2 ns.length ls.length)[1]? = some (.slice (some ⟨g2, 0, none⟩) ls.length c2) := rfl
  have hnb := h.n
  have hmb := h.m
  have HN := Hid2.mk (nm_cells h1.r1)
  have HQ := Hid2.mk (sl_cells h1.r2)
  have HNL := Hid2.mk (show (nmR ns).length = ns.length * 1 by unfold nmR; rw [List.length_map, Nat.mul_one])
  have HQL := Hid2.mk (show (slC ls).length = ls.length * 101 from rowC_len sqC_size ls)
  have HNO := Hid2.mk (cloneS_any_one ns)
  have HQO := Hid2.mk (cloneQ_any_one ls)
  have hn2 : 0 + ns.length ≤ maxLen := by simp only [maxLen]; omega
  have hm2 : 0 + ls.length ≤ maxLen := by simp only [maxLen]; omega
  clear h h1
  go_enter Try.func45, Try.ntmps45
  go_wp2_with (first | ((with_reducible apply wpM_box' M 29 (bkA g1 c1 g2 c2 ns.length ls.length)); rfl; exact ⟨rfl, rfl⟩; clear M; (try clear C); intro bb w9 h_bb M; have C := M.ruleAll; simp only [Go.Proofs.Ytinjjaoikofkdaa.ruleAll] at C) | ((with_reducible apply wpM_alloc' M 29 (bkV none 0 none 0 0 0)); rfl; exact ⟨rfl, _, zero_bkH _, rfl⟩; clear M; (try clear C); intro b2 w9 h_b2 M; have C := M.ruleAll; simp only [Go.Proofs.Ytinjjaoikofkdaa.ruleAll] at C))
  refine wp_region_ownN 8 (GrS 8 (owP ns ls g1 c1 g2 c2 bb w.heap.size) owR w [.box b2 (bkV none 0 none 0 0 0) 29, .box bb (bkA g1 c1 g2 c2 ns.length ls.length) 29]) (fun k g wr => ∃ p1 d1 p2 d2, (k = 8 ∧ g 3 = .slice p1 ns.length d1 ∧ g 7 = .slice p2 ls.length d2 ∧ Mm no w wr [.row w.heap.size (.slice p1 ns.length d1) ns.length (nmR ns) 9 1, .row w.heap.size (.slice p2 ls.length d2) ls.length (slC ls) 43 101, .box b2 (bkV none 0 none 0 0 0) 29, .box bb (bkA g1 c1 g2 c2 ns.length ls.length) 29]) ∨ (k = 9 ∧ g 8 = .agg (bkV p1 d1 p2 d2 ns.length ls.length) ∧ Mm no w wr [.row w.heap.size (.slice p1 ns.length d1) ns.length (nmR ns) 9 1, .row w.heap.size (.slice p2 ls.length d2) ls.length (slC ls) 43 101, .box b2 (bkV none 0 none 0 0 0) 29, .box bb (bkA g1 c1 g2 c2 ns.length ls.length) 29]) ∨ (k = 10 ∧ Mm no w wr [.row w.heap.size (.slice p1 ns.length d1) ns.length (nmR ns) 9 1, .row w.heap.size (.slice p2 ls.length d2) ls.length (slC ls) 43 101, .box b2 (bkV p1 d1 p2 d2 ns.length ls.length) 29, .box bb (bkA g1 c1 g2 c2 ns.length ls.length) 29])) (by kernel_rfl) (by kernel_rfl) (by kernel_rfl) (by decide) (GrS.start (M.sub [0, 1] (by decide)) _) ?hstep ?hfirst ?htail ?hQ
  case hstep =>
    clear M
    try clear C
    intro i o hlt hi D g w2 hi0 hpre S
    obtain rfl | rfl | rfl | rfl | rfl | rfl | rfl | rfl : i = 0 ∨ i = 1 ∨ i = 2 ∨ i = 3 ∨ i = 4 ∨ i = 5 ∨ i = 6 ∨ i = 7 := by omega
    · simp only [List.getElem?_cons_succ, List.getElem?_cons_zero, Option.some.injEq] at hi
      subst hi
      have M := S.base
      have HR : ∀ j ∈ owR 0, D j = true := (fun _ h => by cases h)
      have HW : ∀ j, D j = true → 0 ∉ owW j := fun j _ h => by
        unfold owW at h
        (repeat' split at h) <;> simp at h
      have hst := owS ns ls g1 c1 g2 c2 bb w.heap.size
      refine ⟨⟨#[undef, undef, undef, undef, undef, undef, undef, undef, undef, undef, undef, undef], []⟩, ?_, ?_⟩
      · intro t ht
        have ht' : t ∈ ([] : List Nat) := ht
        cases ht'
      · skip
        clear M
        have M := Mm.start no w2
        have C := M.ruleAll; simp only [Go.Proofs.Ytinjjaoikofkdaa.ruleAll] at C
        refine yield_walk (ops := #[]) rfl rfl (show 3 < 12 by decide) ?_
        go_wp2_with (first | (((with_reducible apply wpM_bsl' M 22 0 9 ([]) (#[])); rfl; rfl; rfl; exact bsl_J0; clear M; (try clear C); intro b w9 h_b M; have C := M.ruleAll; simp only [Go.Proofs.Ytinjjaoikofkdaa.ruleAll] at C); have M8 := M.asRow 0 rfl w2.heap.size 0 1 h_b rfl (Nat.zero_le _); simp only [List.set_cons_zero] at M8))
        exact S.add (i := 0) hst (by decide) hi0 HR HW (M8.weakRow S.base.size) (new_row1 M8) ⟨trivial, by rw [S.not_yet hi0 (show 0 ∈ owR 3 by decide) (by decide), updG_at]; rfl⟩
    · simp only [List.getElem?_cons_succ, List.getElem?_cons_zero, Option.some.injEq] at hi
      subst hi
      have M := S.base
      have HR : ∀ j ∈ owR 1, D j = true := (fun _ h => by cases h)
      have HW : ∀ j, D j = true → 1 ∉ owW j := fun j _ h => by
        unfold owW at h
        (repeat' split at h) <;> simp at h
      have hst := owS ns ls g1 c1 g2 c2 bb w.heap.size
      refine ⟨⟨#[undef, .pointer (some ⟨bb, 0, none⟩), undef, undef, undef, undef, undef, undef, undef, undef, undef, undef], []⟩, ?_, ?_⟩
      · intro t ht
        have ht' : t ∈ ([1] : List Nat) := ht
        simp only [List.mem_cons, List.not_mem_nil, or_false] at ht'
        subst ht'
        exact rfl
      · skip
        have C := M.ruleAll; simp only [Go.Proofs.Ytinjjaoikofkdaa.ruleAll] at C
        refine yield_walk (ops := #[]) rfl rfl (show 4 < 12 by decide) ?_
        go_wp2
        exact S.val (i := 1) hst (by decide) hi0 HR HW (Below.refl _ _) ⟨updG_at .., rfl⟩
    · simp only [List.getElem?_cons_succ, List.getElem?_cons_zero, Option.some.injEq] at hi
      subst hi
      have d1 : D 1 = true := hpre _ (Array.mem_of_getElem? (i := 0) rfl) rfl
      obtain ⟨E, P, M⟩ := S.get [1] (by decide) (by intro j hj; simp only [List.mem_cons, List.not_mem_nil, or_false] at hj; subst hj <;> assumption)
      obtain ⟨e1, E1⟩ : g 1 = .pointer (some ⟨bb, 0, none⟩) ∧ E 1 = [] := P 1 (by decide)
      simp only [List.flatMap_cons, List.flatMap_nil, List.append_nil, E1, List.cons_append, List.nil_append] at M
      clear P
      have HR : ∀ j ∈ owR 2, D j = true := (by intro j hj; have hj' : j ∈ ([1] : List Nat) := hj; simp only [List.mem_cons, List.not_mem_nil, or_false] at hj'; subst hj' <;> assumption)
      have HW : ∀ j, D j = true → 2 ∉ owW j := fun j _ h => by
        unfold owW at h
        (repeat' split at h) <;> simp at h
      have hst := owS ns ls g1 c1 g2 c2 bb w.heap.size
      refine ⟨⟨#[undef, undef, undef, undef, .pointer (some ⟨bb, 0, none⟩), undef, undef, undef, undef, undef, undef, undef], []⟩, ?_, ?_⟩
      · intro t ht
        have ht' : t ∈ ([4] : List Nat) := ht
        simp only [List.mem_cons, List.not_mem_nil, or_false] at ht'
        subst ht'
        exact e1.symm
      · skip
        have C := M.ruleAll; simp only [Go.Proofs.Ytinjjaoikofkdaa.ruleAll] at C
        refine yield_walk (ops := #[]) rfl rfl (show 5 < 12 by decide) ?_
        go_wp2
        exact S.val (i := 2) hst (by decide) hi0 HR HW (Below.refl _ _) ⟨updG_at .., rfl⟩
    · simp only [List.getElem?_cons_succ, List.getElem?_cons_zero, Option.some.injEq] at hi
      subst hi
      have d0 : D 0 = true := hpre _ (Array.mem_of_getElem? (i := 0) rfl) rfl
      have d2 : D 2 = true := hpre _ (Array.mem_of_getElem? (i := 1) rfl) rfl
      have d1 : D 1 = true := S.anc 2 d2 1 (show 1 ∈ owR 2 by decide)
      obtain ⟨E, P, M⟩ := S.get [2] (by decide) (by intro j hj; simp only [List.mem_cons, List.not_mem_nil, or_false] at hj; subst hj <;> assumption)
      obtain ⟨e2, E2⟩ : g 2 = .slice (some ⟨g1, 0, none⟩) ns.length c1 ∧ E 2 = [] := P 2 (by decide)
      simp only [List.flatMap_cons, List.flatMap_nil, List.append_nil, E2, List.cons_append, List.nil_append] at M
      clear P
      have HR : ∀ j ∈ owR 3, D j = true := (by intro j hj; have hj' : j ∈ ([0, 1, 2] : List Nat) := hj; simp only [List.mem_cons, List.not_mem_nil, or_false] at hj'; rcases hj' with rfl | rfl | rfl <;> assumption)
      have HW : ∀ j, D j = true → j ≠ 0 → 3 ∉ owW j := fun j _ hne h => by
        unfold owW at h
        (repeat' split at h) <;> first | contradiction | simp at h
      have hst := owS ns ls g1 c1 g2 c2 bb w.heap.size
      try clear M
      obtain ⟨E', X, P, M, FIN⟩ := S.write (i := 3) (t := 0) hst (by decide) hi0 HR HW d0
      obtain ⟨e0, rfl⟩ : True ∧ E' = [.row w.heap.size (bif D 3 then g 3 else g 0) (bif D 3 then ns.length else 0) (bif D 3 then nmR ns else []) 9 1] := P
      simp only [List.cons_append, List.nil_append] at M FIN
      refine ⟨⟨#[undef, undef, undef, g 0, undef, .slice (some ⟨g1, 0, none⟩) ns.length c1, undef, undef, undef, undef, undef, undef], []⟩, ?_, ?_⟩
      · intro t ht
        have ht' : t ∈ ([3, 5] : List Nat) := ht
        simp only [List.mem_cons, List.not_mem_nil, or_false] at ht'
        rcases ht' with rfl | rfl
        · exact rfl
        · exact e2.symm
      · skip
        have C := M.ruleAll; simp only [Go.Proofs.Ytinjjaoikofkdaa.ruleAll] at C
        simp only [hi0, cond_false] at M
        obtain ⟨ppx, capx, hgx⟩ := own_form (M.row 0 rfl)
        rw [hgx] at M ⊢
        try clear C
        have C := M.ruleAll; simp only [Go.Proofs.Ytinjjaoikofkdaa.ruleAll] at C
        refine yield_walk (ops := #[]) rfl rfl (show 6 < 12 by decide) ?_
        go_wp2_with (first | ((with_reducible apply wpM_appN M 22 0 w.heap.size (.slice ppx 0 capx) 0 [] 9 1 16 ⟨g1, 0, none⟩ ns.length c1 (nmR ns)); rfl; rfl; rfl; rfl; rfl; exact .inl (Nat.le_refl _); exact M.size; exact HNL.out; exact HN.out _ M.below; exact HNO.out; exact und_slJ; exact inf_elJ; rfl; decide; exact hn2; omega; intro v2 w9 far M; simp only [List.set_cons_zero, Nat.zero_add, List.nil_append] at M))
        exact FIN _ _ [.row w.heap.size v2 ns.length (nmR ns) 9 1] M ⟨trivial, by rw [updD_at, updG_at]; rfl⟩ rfl
    · simp only [List.getElem?_cons_succ, List.getElem?_cons_zero, Option.some.injEq] at hi
      subst hi
      have M := S.base
      have HR : ∀ j ∈ owR 4, D j = true := (fun _ h => by cases h)
      have HW : ∀ j, D j = true → 4 ∉ owW j := fun j _ h => by
        unfold owW at h
        (repeat' split at h) <;> simp at h
      have hst := owS ns ls g1 c1 g2 c2 bb w.heap.size
      refine ⟨⟨#[undef, undef, undef, undef, undef, undef, undef, undef, undef, undef, undef, undef], []⟩, ?_, ?_⟩
      · intro t ht
        have ht' : t ∈ ([] : List Nat) := ht
        cases ht'
      · skip
        clear M
        have M := Mm.start no w2
        have C := M.ruleAll; simp only [Go.Proofs.Ytinjjaoikofkdaa.ruleAll] at C
        refine yield_walk (ops := #[]) rfl rfl (show 7 < 12 by decide) ?_
        go_wp2_with (first | (((with_reducible apply wpM_bsl' M 27 0 43 ([]) (#[])); rfl; rfl; rfl; exact bsl_Q0; clear M; (try clear C); intro b w9 h_b M; have C := M.ruleAll; simp only [Go.Proofs.Ytinjjaoikofkdaa.ruleAll] at C); have M8 := M.asRow 0 rfl w2.heap.size 0 101 h_b rfl (Nat.zero_le _); simp only [List.set_cons_zero] at M8))
        exact S.add (i := 4) hst (by decide) hi0 HR HW (M8.weakRow S.base.size) (new_row1 M8) ⟨trivial, by rw [S.not_yet hi0 (show 4 ∈ owR 7 by decide) (by decide), updG_at]; rfl⟩
    · simp only [List.getElem?_cons_succ, List.getElem?_cons_zero, Option.some.injEq] at hi
      subst hi
      have M := S.base
      have HR : ∀ j ∈ owR 5, D j = true := (fun _ h => by cases h)
      have HW : ∀ j, D j = true → 5 ∉ owW j := fun j _ h => by
        unfold owW at h
        (repeat' split at h) <;> simp at h
      have hst := owS ns ls g1 c1 g2 c2 bb w.heap.size
      refine ⟨⟨#[undef, .pointer (some ⟨bb, 0, none⟩), undef, undef, undef, undef, undef, undef, undef, undef, undef, undef], []⟩, ?_, ?_⟩
      · intro t ht
        have ht' : t ∈ ([1] : List Nat) := ht
        simp only [List.mem_cons, List.not_mem_nil, or_false] at ht'
        subst ht'
        exact rfl
      · skip
        have C := M.ruleAll; simp only [Go.Proofs.Ytinjjaoikofkdaa.ruleAll] at C
        refine yield_walk (ops := #[]) rfl rfl (show 8 < 12 by decide) ?_
        go_wp2
        exact S.val (i := 5) hst (by decide) hi0 HR HW (Below.refl _ _) ⟨updG_at .., rfl⟩
    · simp only [List.getElem?_cons_succ, List.getElem?_cons_zero, Option.some.injEq] at hi
      subst hi
      have d5 : D 5 = true := hpre _ (Array.mem_of_getElem? (i := 0) rfl) rfl
      obtain ⟨E, P, M⟩ := S.get [5] (by decide) (by intro j hj; simp only [List.mem_cons, List.not_mem_nil, or_false] at hj; subst hj <;> assumption)
      obtain ⟨e5, E5⟩ : g 5 = .pointer (some ⟨bb, 1, none⟩) ∧ E 5 = [] := P 5 (by decide)
      simp only [List.flatMap_cons, List.flatMap_nil, List.append_nil, E5, List.cons_append, List.nil_append] at M
      clear P
      have HR : ∀ j ∈ owR 6, D j = true := (by intro j hj; have hj' : j ∈ ([5] : List Nat) := hj; simp only [List.mem_cons, List.not_mem_nil, or_false] at hj'; subst hj' <;> assumption)
      have HW : ∀ j, D j = true → 6 ∉ owW j := fun j _ h => by
        unfold owW at h
        (repeat' split at h) <;> simp at h
      have hst := owS ns ls g1 c1 g2 c2 bb w.heap.size
      refine ⟨⟨#[undef, undef, undef, undef, undef, undef, undef, undef, .pointer (some ⟨bb, 1, none⟩), undef, undef, undef], []⟩, ?_, ?_⟩
      · intro t ht
        have ht' : t ∈ ([8] : List Nat) := ht
        simp only [List.mem_cons, List.not_mem_nil, or_false] at ht'
        subst ht'
        exact e5.symm
      · skip
        have C := M.ruleAll; simp only [Go.Proofs.Ytinjjaoikofkdaa.ruleAll] at C
        refine yield_walk (ops := #[]) rfl rfl (show 9 < 12 by decide) ?_
        go_wp2
        exact S.val (i := 6) hst (by decide) hi0 HR HW (Below.refl _ _) ⟨updG_at .., rfl⟩
    · simp only [List.getElem?_cons_succ, List.getElem?_cons_zero, Option.some.injEq] at hi
      subst hi
      have d4 : D 4 = true := hpre _ (Array.mem_of_getElem? (i := 0) rfl) rfl
      have d6 : D 6 = true := hpre _ (Array.mem_of_getElem? (i := 1) rfl) rfl
      have d3 : D 3 = true := hpre _ (Array.mem_of_getElem? (i := 2) rfl) rfl
      have d5 : D 5 = true := S.anc 6 d6 5 (show 5 ∈ owR 6 by decide)
      have d0 : D 0 = true := S.anc 3 d3 0 (show 0 ∈ owR 3 by decide)
      have d1 : D 1 = true := S.anc 3 d3 1 (show 1 ∈ owR 3 by decide)
      have d2 : D 2 = true := S.anc 3 d3 2 (show 2 ∈ owR 3 by decide)
      obtain ⟨E, P, M⟩ := S.get [6] (by decide) (by intro j hj; simp only [List.mem_cons, List.not_mem_nil, or_false] at hj; subst hj <;> assumption)
      obtain ⟨e6, E6⟩ : g 6 = .slice (some ⟨g2, 0, none⟩) ls.length c2 ∧ E 6 = [] := P 6 (by decide)
      simp only [List.flatMap_cons, List.flatMap_nil, List.append_nil, E6, List.cons_append, List.nil_append] at M
      clear P
      have HR : ∀ j ∈ owR 7, D j = true := (by intro j hj; have hj' : j ∈ ([0, 1, 2, 3, 4, 5, 6] : List Nat) := hj; simp only [List.mem_cons, List.not_mem_nil, or_false] at hj'; rcases hj' with rfl | rfl | rfl | rfl | rfl | rfl | rfl <;> assumption)
      have HW : ∀ j, D j = true → j ≠ 4 → 7 ∉ owW j := fun j _ hne h => by
        unfold owW at h
        (repeat' split at h) <;> first | contradiction | simp at h
      have hst := owS ns ls g1 c1 g2 c2 bb w.heap.size
      try clear M
      obtain ⟨E', X, P, M, FIN⟩ := S.write (i := 7) (t := 4) hst (by decide) hi0 HR HW d4
      obtain ⟨e4, rfl⟩ : True ∧ E' = [.row w.heap.size (bif D 7 then g 7 else g 4) (bif D 7 then ls.length else 0) (bif D 7 then slC ls else []) 43 101] := P
      simp only [List.cons_append, List.nil_append] at M FIN
      refine ⟨⟨#[undef, undef, undef, undef, undef, undef, undef, g 4, undef, .slice (some ⟨g2, 0, none⟩) ls.length c2, undef, undef], []⟩, ?_, ?_⟩
      · intro t ht
        have ht' : t ∈ ([7, 9] : List Nat) := ht
        simp only [List.mem_cons, List.not_mem_nil, or_false] at ht'
        rcases ht' with rfl | rfl
        · exact rfl
        · exact e6.symm
      · skip
        have C := M.ruleAll; simp only [Go.Proofs.Ytinjjaoikofkdaa.ruleAll] at C
        simp only [hi0, cond_false] at M
        obtain ⟨ppx, capx, hgx⟩ := own_form (M.row 0 rfl)
        rw [hgx] at M ⊢
        try clear C
        have C := M.ruleAll; simp only [Go.Proofs.Ytinjjaoikofkdaa.ruleAll] at C
        refine yield_walk (ops := #[]) rfl rfl (show 10 < 12 by decide) ?_
        go_wp2_with (first | ((with_reducible apply wpM_appN M 27 0 w.heap.size (.slice ppx 0 capx) 0 [] 43 101 112 ⟨g2, 0, none⟩ ls.length c2 (slC ls)); rfl; rfl; rfl; rfl; rfl; exact .inl (Nat.le_refl _); exact M.size; exact HQL.out; exact HQ.out _ M.below; exact HQO.out; exact und_sqH; exact inf_sqH; rfl; decide; exact hm2; omega; intro v2 w9 far M; simp only [List.set_cons_zero, Nat.zero_add, List.nil_append] at M))
        exact FIN _ _ [.row w.heap.size v2 ls.length (slC ls) 43 101] M ⟨trivial, by rw [updD_at, updG_at]; rfl⟩ rfl

  case hfirst =>
    clear M
    try clear C
    intro o hi D g w2 hpre S
    simp only [List.getElem?_cons_succ, List.getElem?_cons_zero, Option.some.injEq] at hi
    subst hi
    have d3 : D 3 = true := hpre _ (Array.mem_of_getElem? (i := 0) rfl) rfl
    have d7 : D 7 = true := hpre _ (Array.mem_of_getElem? (i := 1) rfl) rfl
    have d0 : D 0 = true := S.anc 3 d3 0 (by decide)
    have d4 : D 4 = true := S.anc 7 d7 4 (by decide)
    refine ⟨fun i hi => ?_, ?_⟩
    · by_cases e : i = 7
      · rw [e]; exact d7
      · exact S.anc 7 d7 i ((by decide : ∀ i, i < 8 → i ≠ 7 → i ∈ owR 7) i hi e)
    · obtain ⟨E, P, M⟩ := S.get [0, 4] (by decide) (by intro j hj; simp only [List.mem_cons, List.not_mem_nil, or_false] at hj; rcases hj with rfl | rfl <;> assumption)
      obtain ⟨_, E0⟩ : True ∧ E 0 = [.row w.heap.size (bif D 3 then g 3 else g 0) (bif D 3 then ns.length else 0) (bif D 3 then nmR ns else []) 9 1] := P 0 (by decide)
      obtain ⟨_, E4⟩ : True ∧ E 4 = [.row w.heap.size (bif D 7 then g 7 else g 4) (bif D 7 then ls.length else 0) (bif D 7 then slC ls else []) 43 101] := P 4 (by decide)
      simp only [List.flatMap_cons, List.flatMap_nil, List.append_nil, E0, E4, List.cons_append, List.nil_append, d3, d7, cond_true] at M
      obtain ⟨p1, d1, e1⟩ := own_form (M.row 0 rfl)
      obtain ⟨p2, d2, e2⟩ := own_form (M.row 1 rfl)
      rw [e1, e2] at M
      exact ⟨p1, d1, p2, d2, .inl ⟨rfl, e1, e2, M⟩⟩
  case htail =>
    clear M
    try clear C
    intro k o hk hi g w2 hT
    obtain ⟨p1, d1, p2, d2, ⟨rfl, e3, e7, M⟩ | ⟨rfl, e8, M⟩ | ⟨rfl, M⟩⟩ := hT
    · simp only [List.getElem?_cons_succ, List.getElem?_cons_zero, Option.some.injEq] at hi
      subst hi
      refine ⟨⟨#[undef, undef, undef, undef, undef, undef, .slice p1 ns.length d1, undef, undef, undef, .slice p2 ls.length d2, undef], []⟩, ?_, ?_⟩
      · intro t ht
        have ht' : t ∈ ([6, 10] : List Nat) := ht
        simp only [List.mem_cons, List.not_mem_nil, or_false] at ht'
        rcases ht' with rfl | rfl
        · exact e3.symm
        · exact e7.symm
      · have C := M.ruleAll; simp only [Go.Proofs.Ytinjjaoikofkdaa.ruleAll] at C
        refine yield_walk (ops := #[]) rfl rfl (show 11 < 12 by decide) ?_
        go_wp2_with (first | (refine wpList_build 29 _ rfl rfl [(0, .slice p1 ns.length d1), (1, .slice p2 ls.length d2)] rfl _ (build_bk2 ..) ?_))
        exact ⟨p1, d1, p2, d2, updG_at .., M⟩
    · simp only [List.getElem?_cons_succ, List.getElem?_cons_zero, Option.some.injEq] at hi
      subst hi
      refine ⟨⟨#[undef, undef, .pointer (some ⟨b2, 0, none⟩), undef, undef, undef, undef, undef, undef, undef, undef, .agg (bkV p1 d1 p2 d2 ns.length ls.length)], []⟩, ?_, ?_⟩
      · intro t ht
        have ht' : t ∈ ([2, 11] : List Nat) := ht
        simp only [List.mem_cons, List.not_mem_nil, or_false] at ht'
        rcases ht' with rfl | rfl
        · rfl
        · exact e8.symm
      · refine yield_store (ops := #[]) (by exact rfl) (by exact rfl) ?_
        have C := M.ruleAll; simp only [Go.Proofs.Ytinjjaoikofkdaa.ruleAll] at C
        go_wp2_with (first | ((with_reducible apply wpM_sta' M 2 29 (bkV p1 d1 p2 d2 ns.length ls.length)); rfl; rfl; rfl; rfl; (first | exact .inl (by assumption) | exact .inr rfl | exact .inr (by assumption)); exact ⟨rfl, inf_bok.trans (congrArg some (bkv_size ..).symm), flat_bkv _ _ _ _ _ _⟩; (simp only [entCells, List.getElem?_cons_zero, List.getElem?_cons_succ, bkv_size, bkv_size]); clear M; (try clear C); intro w9 M; simp only [List.set_cons_zero, List.set_cons_succ, entBlk, entT, List.getElem?_cons_zero, List.getElem?_cons_succ] at M; have C := M.ruleAll; simp only [Go.Proofs.Ytinjjaoikofkdaa.ruleAll] at C))
        exact ⟨p1, d1, p2, d2, M⟩
    · cases hi
  case hQ =>
    clear M
    try clear C
    intro g w2 hT
    obtain ⟨p1, d1, p2, d2, ⟨h, _⟩ | ⟨h, _⟩ | ⟨_, M⟩⟩ := hT
    · cases h
    · cases h
    · simp only [fullAct, Act.put, List.setIfInBounds_toArray, List.set_cons_succ, List.set_cons_zero]
      have C := M.ruleAll; simp only [Go.Proofs.Ytinjjaoikofkdaa.ruleAll] at C
      go_wp2
      refine bodyPost_ret (v := .agg (bkV p1 d1 p2 d2 ns.length ls.length)) (by exact results_part rfl _ _ _ _ _ _ rfl und_bok rfl inf_bok (cells_of_blk0 (M.box 2 rfl))) rfl ?_
      exact ⟨p1, d1, p2, d2, rfl, (M.sub [0, 1] (by decide)).eq rfl⟩
end Go.Proofs.Ytinjjaoikofkdaa

/- A book with a loop more, for the reference: contract. Printed by gen/h17.py. -/
namespace Go.Proofs.Ytinjjaoikofkdaa
set_option linter.unusedSimpArgs false
set_option linter.unusedVariables false
open Go Go.RowKit

theorem Mm.weakRows {D : Nat → Prop} {w0 w : World} {L : List Ent} {B1 B2 B : Nat} {v1 v2 : Value} {n1 n2 : Nat} {xs1 xs2 : List Value} {e1 e2 s1 s2 : Nat} (M : Mm D w0 w (.row B1 v1 n1 xs1 e1 s1 :: .row B2 v2 n2 xs2 e2 s2 :: L)) (h1 : B ≤ B1) (h2 : B ≤ B2) : Mm D w0 w (.row B v1 n1 xs1 e1 s1 :: .row B v2 n2 xs2 e2 s2 :: L) :=
  (M.set 0 rfl (y := .row B v1 n1 xs1 e1 s1) (.refl no w) (fun _ h => h.elim) (fun _ _ h => h.elim) (ownsRow_weak (M.row 0 rfl) h1) fun k h => .inl h).set 1 rfl (y := .row B v2 n2 xs2 e2 s2) (.refl no w) (fun _ h => h.elim) (fun _ _ h => h.elim) (ownsRow_weak (M.row 1 rfl) h2) fun k h => .inl h
section
variable {ns : List ByteArray} {ls : List Sqr} {s : ByteArray} {q : Sqr}
/-- What is handed back with a code that is an error. -/
theorem keep_err {d : Int} (h : keepC ns ls s q = d) (hd : d ≠ 0) : keepN ns ls s q = [] ∧ keepL ns ls s q = [] ∧ keepC ns ls s q = d := by
  subst h
  exact ⟨if_neg hd, if_neg hd, rfl⟩
theorem keep_1 (h : ¬ (isBk ns ls = true ∧ lpB q = true)) : keepN ns ls s q = [] ∧ keepL ns ls s q = [] ∧ keepC ns ls s q = 1 := keep_err (if_pos h) (by decide)
theorem keep_2 (h1 : isBk ns ls = true) (h2 : lpB q = true) (h : 7 < q.n ∨ nameB s = false) : keepN ns ls s q = [] ∧ keepL ns ls s q = [] ∧ keepC ns ls s q = 2 := keep_err (by unfold keepC; rw [if_neg (fun h => h ⟨h1, h2⟩), if_pos h]) (by decide)
theorem keep_5 (h1 : isBk ns ls = true) (h2 : lpB q = true) (h3 : ¬ 7 < q.n) (h4 : nameB s = true) (h : (ns.any fun x => s.toList == x.toList) = true ∨ ls.any (alkB q) = true) : keepN ns ls s q = [] ∧ keepL ns ls s q = [] ∧ keepC ns ls s q = 5 := keep_err (by unfold keepC; rw [if_neg (fun h => h ⟨h1, h2⟩), if_neg (fun h => h.elim h3 (fun h => by rw [h4] at h; cases h)), if_pos h]) (by decide)
theorem keep_4 (h1 : isBk ns ls = true) (h2 : lpB q = true) (h3 : ¬ 7 < q.n) (h4 : nameB s = true) (h5 : (ns.any fun x => s.toList == x.toList) = false) (h6 : ls.any (alkB q) = false) : keepC ns ls s q = if ns.length = 20 then 3 else 0 := by
  unfold keepC; rw [if_neg (fun h => h ⟨h1, h2⟩), if_neg (fun h => h.elim h3 (fun h => by rw [h4] at h; cases h)), if_neg (fun h => by rw [h5, h6] at h; rcases h with h | h <;> cases h)]
theorem keep_3 (h : keepC ns ls s q = if ns.length = 20 then 3 else 0) (h7 : ns.length = 20) : keepN ns ls s q = [] ∧ keepL ns ls s q = [] ∧ keepC ns ls s q = 3 := keep_err (by rw [h, if_pos h7]) (by decide)
theorem keep_0 (h : keepC ns ls s q = if ns.length = 20 then 3 else 0) (h7 : ¬ ns.length = 20) : keepN ns ls s q = ns ++ [s] ∧ keepL ns ls s q = ls ++ [q] ∧ keepC ns ls s q = 0 := by
  rw [if_neg h7] at h
  exact ⟨if_pos h, if_pos h, h⟩
end
theorem sq_0 (q : Sqr) : (sqs q.n q.t)[0]? = some (.int .i64 q.n) := rfl

set_option maxRecDepth 100000 in
set_option maxHeartbeats 4000000 in
theorem specKeepLoop_any {ns : List ByteArray} {ls : List Sqr} (h : BkIn ns ls) (s : ByteArray) (hs : s.size ≤ 1048576) (q : Sqr) (hq : Byt2 q.t) (w : World) {g1 g2 : Nat} (h1 : BkHere ns ls w g1 g2) (c1 c2 : Nat) :
    Calls Try.prog 14 #[.agg (bkA g1 c1 g2 c2 ns.length ls.length), .string s, .agg (sqs q.n q.t)] w fun e w' => BkNew (keepN ns ls s q) (keepL ns ls s q) (keepC ns ls s q) w e w' := by
  have M := Mm.start no w
  have k0 : (bkA g1 c1 g2 c2 ns.length ls.length)[0]? = some (.slice (some ⟨g1, 0, none⟩) ns.length c1) := rfl
  have k1 : (bkA g1 c1 g2 c2 ns.length ls.length)[1]? = some (.slice (some ⟨g2, 0, none⟩) ls.length c2) := rfl
  have kq := sq_0 q
  have HB := fun w1 (hb : Below w.heap.size w w1) => l11IsP_any h w1 (h1.later hb) c1 c2
  have HL := fun w1 => l01Loop_any q.n q.t w1 hq
  have hlp : lpB q = isLp q.n q.t := rfl
  rw [← hlp] at HL
  have HN := fun w1 => l11Name_any s w1 hs
  have hbd := build_bkH
  have hnb := h.n
  have hmb := h.m
  clear hlp
  cases hb1 : isBk ns ls with
  | false =>
    have HR := Hid2.mk (keep_1 (s := s) (q := q) (fun h => by rw [hb1] at h; exact absurd h.1 (by decide)))
    simp only [hb1] at HB
    clear h h1 hq hb1
    go_enter Try.func14, Try.ntmps14
    go_wp2_with (first | ((with_reducible apply wpM_box' M 29 (bkA g1 c1 g2 c2 ns.length ls.length)); rfl; exact ⟨rfl, rfl⟩; clear M; (try clear C); intro bb w9 h_bb M; have C := M.ruleAll; simp only [Go.Proofs.Ytinjjaoikofkdaa.ruleAll] at C) | ((with_reducible apply wpM_box' M 43 (sqs q.n q.t)); rfl; exact ⟨rfl, rfl⟩; clear M; (try clear C); intro bq w9 h_bq M; have C := M.ruleAll; simp only [Go.Proofs.Ytinjjaoikofkdaa.ruleAll] at C) | ((with_reducible apply wpM_alloc' M 29 (bkV none 0 none 0 0 0)); rfl; exact ⟨rfl, _, zero_bkH _, rfl⟩; clear M; (try clear C); intro b6 w9 h_b6 M; have C := M.ruleAll; simp only [Go.Proofs.Ytinjjaoikofkdaa.ruleAll] at C) | ((with_reducible apply wpM_alloc' M 70 (bys fun _ => 0)); rfl; exact ⟨rfl, _, zero_plc _, rfl⟩; clear M; (try clear C); intro b9 w9 h_b9 M; have C := M.ruleAll; simp only [Go.Proofs.Ytinjjaoikofkdaa.ruleAll] at C) | ((with_reducible apply wpM_lda' M 2 29 0 (bkA g1 c1 g2 c2 ns.length ls.length)); rfl; rfl; rfl; exact ⟨rfl, inf_bok.trans (congrArg some (bok_size ..).symm), _, und_bok, rfl⟩; exact whole_of rfl) | ((with_reducible apply wpM_lda' M 1 43 0 (sqs q.n q.t)); rfl; rfl; rfl; exact ⟨rfl, inf_sqs.trans (congrArg some (sqs_size ..).symm), _, und_sqs, rfl⟩; exact whole_of rfl) | ((with_reducible apply wpM_lda' M 3 29 0 (bkA g1 c1 g2 c2 ns.length ls.length)); rfl; rfl; rfl; exact ⟨rfl, inf_bok.trans (congrArg some (bok_size ..).symm), _, und_bok, rfl⟩; exact whole_of rfl) | ((with_reducible apply wpM_lda' M 2 43 0 (sqs q.n q.t)); rfl; rfl; rfl; exact ⟨rfl, inf_sqs.trans (congrArg some (sqs_size ..).symm), _, und_sqs, rfl⟩; exact whole_of rfl) | (refine wpList_build 29 _ rfl rfl [] rfl _ (build_bkH _) ?_) | ((with_reducible apply wpM_sta' M 0 29 (bkV none 0 none 0 0 0)); rfl; rfl; rfl; rfl; (first | exact .inl (by assumption) | exact .inr rfl | exact .inr (by assumption)); exact ⟨rfl, inf_bok.trans (congrArg some (bkv_size ..).symm), flat_bkv _ _ _ _ _ _⟩; (simp only [entCells, List.getElem?_cons_zero, List.getElem?_cons_succ, bkv_size, bkv_size]); clear M; (try clear C); intro w9 M; simp only [List.set_cons_zero, List.set_cons_succ, entBlk, entT, List.getElem?_cons_zero, List.getElem?_cons_succ] at M; have C := M.ruleAll; simp only [Go.Proofs.Ytinjjaoikofkdaa.ruleAll] at C) | ((with_reducible apply wpM_sta' M 1 29 (bkV none 0 none 0 0 0)); rfl; rfl; rfl; rfl; (first | exact .inl (by assumption) | exact .inr rfl | exact .inr (by assumption)); exact ⟨rfl, inf_bok.trans (congrArg some (bkv_size ..).symm), flat_bkv _ _ _ _ _ _⟩; (simp only [entCells, List.getElem?_cons_zero, List.getElem?_cons_succ, bkv_size, bkv_size]); clear M; (try clear C); intro w9 M; simp only [List.set_cons_zero, List.set_cons_succ, entBlk, entT, List.getElem?_cons_zero, List.getElem?_cons_succ] at M; have C := M.ruleAll; simp only [Go.Proofs.Ytinjjaoikofkdaa.ruleAll] at C) | (go_at_call 40; ((with_reducible refine (HB _ M.below).mono ?_); rintro e w1 ⟨rfl, hb⟩; have hsz := M.size; (try (have G9 := G.later hb; clear G; have G := G9; clear G9)); have M9 := M.later hb; clear M; (try clear C); have M := M9; clear M9; have C := M.ruleAll; simp only [Go.Proofs.Ytinjjaoikofkdaa.ruleAll] at C)))
    refine bodyPost_ret (v := .tuple #[.agg (bkV none 0 none 0 0 0), .int .i64 1]) (by exact results_part2 rfl _ _ _ _ (bkV none 0 none 0 0 0) _ rfl und_bok rfl inf_bok (cells_of_blk0 (M.box 0 rfl)) _ rfl) rfl ?_
    unfold BkNew
    rw [HR.out.1, HR.out.2.1, HR.out.2.2]
    exact ⟨none, 0, none, 0, rfl, ((Mm.start no w).later M.below |>.nilRow w.heap.size 43 101).nilRow w.heap.size 9 1⟩
  | true =>
    simp only [hb1] at HB
    cases hb2 : lpB q with
    | false =>
      have HR := Hid2.mk (keep_1 (ns := ns) (ls := ls) (s := s) (q := q) (fun h => by rw [hb2] at h; exact absurd h.2 (by decide)))
      simp only [hb2] at HL
      clear h h1 hq hb1 hb2
      go_enter Try.func14, Try.ntmps14
      go_wp2_with (first | ((with_reducible apply wpM_box' M 29 (bkA g1 c1 g2 c2 ns.length ls.length)); rfl; exact ⟨rfl, rfl⟩; clear M; (try clear C); intro bb w9 h_bb M; have C := M.ruleAll; simp only [Go.Proofs.Ytinjjaoikofkdaa.ruleAll] at C) | ((with_reducible apply wpM_box' M 43 (sqs q.n q.t)); rfl; exact ⟨rfl, rfl⟩; clear M; (try clear C); intro bq w9 h_bq M; have C := M.ruleAll; simp only [Go.Proofs.Ytinjjaoikofkdaa.ruleAll] at C) | ((with_reducible apply wpM_alloc' M 29 (bkV none 0 none 0 0 0)); rfl; exact ⟨rfl, _, zero_bkH _, rfl⟩; clear M; (try clear C); intro b6 w9 h_b6 M; have C := M.ruleAll; simp only [Go.Proofs.Ytinjjaoikofkdaa.ruleAll] at C) | ((with_reducible apply wpM_alloc' M 70 (bys fun _ => 0)); rfl; exact ⟨rfl, _, zero_plc _, rfl⟩; clear M; (try clear C); intro b9 w9 h_b9 M; have C := M.ruleAll; simp only [Go.Proofs.Ytinjjaoikofkdaa.ruleAll] at C) | ((with_reducible apply wpM_lda' M 2 29 0 (bkA g1 c1 g2 c2 ns.length ls.length)); rfl; rfl; rfl; exact ⟨rfl, inf_bok.trans (congrArg some (bok_size ..).symm), _, und_bok, rfl⟩; exact whole_of rfl) | ((with_reducible apply wpM_lda' M 1 43 0 (sqs q.n q.t)); rfl; rfl; rfl; exact ⟨rfl, inf_sqs.trans (congrArg some (sqs_size ..).symm), _, und_sqs, rfl⟩; exact whole_of rfl) | ((with_reducible apply wpM_lda' M 3 29 0 (bkA g1 c1 g2 c2 ns.length ls.length)); rfl; rfl; rfl; exact ⟨rfl, inf_bok.trans (congrArg some (bok_size ..).symm), _, und_bok, rfl⟩; exact whole_of rfl) | ((with_reducible apply wpM_lda' M 2 43 0 (sqs q.n q.t)); rfl; rfl; rfl; exact ⟨rfl, inf_sqs.trans (congrArg some (sqs_size ..).symm), _, und_sqs, rfl⟩; exact whole_of rfl) | (refine wpList_build 29 _ rfl rfl [] rfl _ (build_bkH _) ?_) | ((with_reducible apply wpM_sta' M 0 29 (bkV none 0 none 0 0 0)); rfl; rfl; rfl; rfl; (first | exact .inl (by assumption) | exact .inr rfl | exact .inr (by assumption)); exact ⟨rfl, inf_bok.trans (congrArg some (bkv_size ..).symm), flat_bkv _ _ _ _ _ _⟩; (simp only [entCells, List.getElem?_cons_zero, List.getElem?_cons_succ, bkv_size, bkv_size]); clear M; (try clear C); intro w9 M; simp only [List.set_cons_zero, List.set_cons_succ, entBlk, entT, List.getElem?_cons_zero, List.getElem?_cons_succ] at M; have C := M.ruleAll; simp only [Go.Proofs.Ytinjjaoikofkdaa.ruleAll] at C) | ((with_reducible apply wpM_sta' M 1 29 (bkV none 0 none 0 0 0)); rfl; rfl; rfl; rfl; (first | exact .inl (by assumption) | exact .inr rfl | exact .inr (by assumption)); exact ⟨rfl, inf_bok.trans (congrArg some (bkv_size ..).symm), flat_bkv _ _ _ _ _ _⟩; (simp only [entCells, List.getElem?_cons_zero, List.getElem?_cons_succ, bkv_size, bkv_size]); clear M; (try clear C); intro w9 M; simp only [List.set_cons_zero, List.set_cons_succ, entBlk, entT, List.getElem?_cons_zero, List.getElem?_cons_succ] at M; have C := M.ruleAll; simp only [Go.Proofs.Ytinjjaoikofkdaa.ruleAll] at C) | (go_at_call 40; ((with_reducible refine (HB _ M.below).mono ?_); rintro e w1 ⟨rfl, hb⟩; have hsz := M.size; (try (have G9 := G.later hb; clear G; have G := G9; clear G9)); have M9 := M.later hb; clear M; (try clear C); have M := M9; clear M9; have C := M.ruleAll; simp only [Go.Proofs.Ytinjjaoikofkdaa.ruleAll] at C)) | (go_at_call 41; ((with_reducible refine (HL _).mono ?_); rintro e w1 ⟨rfl, hb⟩; have hsz := M.size; (try (have G9 := G.later hb; clear G; have G := G9; clear G9)); have M9 := M.later hb; clear M; (try clear C); have M := M9; clear M9; have C := M.ruleAll; simp only [Go.Proofs.Ytinjjaoikofkdaa.ruleAll] at C)))
      refine bodyPost_ret (v := .tuple #[.agg (bkV none 0 none 0 0 0), .int .i64 1]) (by exact results_part2 rfl _ _ _ _ (bkV none 0 none 0 0 0) _ rfl und_bok rfl inf_bok (cells_of_blk0 (M.box 0 rfl)) _ rfl) rfl ?_
      unfold BkNew
      rw [HR.out.1, HR.out.2.1, HR.out.2.2]
      exact ⟨none, 0, none, 0, rfl, ((Mm.start no w).later M.below |>.nilRow w.heap.size 43 101).nilRow w.heap.size 9 1⟩
    | true =>
      simp only [hb2] at HL
      have HK := fun w1 (hb : Below w.heap.size w w1) => l11Kept_any q ls (by omega) (lpB_ok hq hb2) (isBk_loop h hb1) w1 g1 c1 g2 c2 ns.length (h1.later hb).r2
      have HI := fun w1 (hb : Below w.heap.size w w1) => l11Place_any ns (by omega) s w1 g1 c1 g2 c2 ls.length (h1.later hb).r1
      have HO := Hid2.mk (fun w1 (hb : Below w.heap.size w w1) => l11Own_any h w1 (h1.later hb) c1 c2)
      have hs1 := placeOf_sign (alkB q) ls
      have hs2 := place_any ns s
      cases hb3 : nameB s with
      | false =>
        have HR := Hid2.mk (keep_2 hb1 hb2 (.inr hb3))
        simp only [hb3] at HN
        clear h h1 hq hb1 hb2 hb3 HK HI HO hs1 hs2
        go_enter Try.func14, Try.ntmps14
        go_wp2_with (first | ((with_reducible apply wpM_box' M 29 (bkA g1 c1 g2 c2 ns.length ls.length)); rfl; exact ⟨rfl, rfl⟩; clear M; (try clear C); intro bb w9 h_bb M; have C := M.ruleAll; simp only [Go.Proofs.Ytinjjaoikofkdaa.ruleAll] at C) | ((with_reducible apply wpM_box' M 43 (sqs q.n q.t)); rfl; exact ⟨rfl, rfl⟩; clear M; (try clear C); intro bq w9 h_bq M; have C := M.ruleAll; simp only [Go.Proofs.Ytinjjaoikofkdaa.ruleAll] at C) | ((with_reducible apply wpM_alloc' M 29 (bkV none 0 none 0 0 0)); rfl; exact ⟨rfl, _, zero_bkH _, rfl⟩; clear M; (try clear C); intro b6 w9 h_b6 M; have C := M.ruleAll; simp only [Go.Proofs.Ytinjjaoikofkdaa.ruleAll] at C) | ((with_reducible apply wpM_alloc' M 70 (bys fun _ => 0)); rfl; exact ⟨rfl, _, zero_plc _, rfl⟩; clear M; (try clear C); intro b9 w9 h_b9 M; have C := M.ruleAll; simp only [Go.Proofs.Ytinjjaoikofkdaa.ruleAll] at C) | ((with_reducible apply wpM_lda' M 2 29 0 (bkA g1 c1 g2 c2 ns.length ls.length)); rfl; rfl; rfl; exact ⟨rfl, inf_bok.trans (congrArg some (bok_size ..).symm), _, und_bok, rfl⟩; exact whole_of rfl) | ((with_reducible apply wpM_lda' M 1 43 0 (sqs q.n q.t)); rfl; rfl; rfl; exact ⟨rfl, inf_sqs.trans (congrArg some (sqs_size ..).symm), _, und_sqs, rfl⟩; exact whole_of rfl) | ((with_reducible apply wpM_lda' M 3 29 0 (bkA g1 c1 g2 c2 ns.length ls.length)); rfl; rfl; rfl; exact ⟨rfl, inf_bok.trans (congrArg some (bok_size ..).symm), _, und_bok, rfl⟩; exact whole_of rfl) | ((with_reducible apply wpM_lda' M 2 43 0 (sqs q.n q.t)); rfl; rfl; rfl; exact ⟨rfl, inf_sqs.trans (congrArg some (sqs_size ..).symm), _, und_sqs, rfl⟩; exact whole_of rfl) | (refine wpList_build 29 _ rfl rfl [] rfl _ (build_bkH _) ?_) | ((with_reducible apply wpM_sta' M 0 29 (bkV none 0 none 0 0 0)); rfl; rfl; rfl; rfl; (first | exact .inl (by assumption) | exact .inr rfl | exact .inr (by assumption)); exact ⟨rfl, inf_bok.trans (congrArg some (bkv_size ..).symm), flat_bkv _ _ _ _ _ _⟩; (simp only [entCells, List.getElem?_cons_zero, List.getElem?_cons_succ, bkv_size, bkv_size]); clear M; (try clear C); intro w9 M; simp only [List.set_cons_zero, List.set_cons_succ, entBlk, entT, List.getElem?_cons_zero, List.getElem?_cons_succ] at M; have C := M.ruleAll; simp only [Go.Proofs.Ytinjjaoikofkdaa.ruleAll] at C) | ((with_reducible apply wpM_sta' M 1 29 (bkV none 0 none 0 0 0)); rfl; rfl; rfl; rfl; (first | exact .inl (by assumption) | exact .inr rfl | exact .inr (by assumption)); exact ⟨rfl, inf_bok.trans (congrArg some (bkv_size ..).symm), flat_bkv _ _ _ _ _ _⟩; (simp only [entCells, List.getElem?_cons_zero, List.getElem?_cons_succ, bkv_size, bkv_size]); clear M; (try clear C); intro w9 M; simp only [List.set_cons_zero, List.set_cons_succ, entBlk, entT, List.getElem?_cons_zero, List.getElem?_cons_succ] at M; have C := M.ruleAll; simp only [Go.Proofs.Ytinjjaoikofkdaa.ruleAll] at C) | (go_at_call 40; ((with_reducible refine (HB _ M.below).mono ?_); rintro e w1 ⟨rfl, hb⟩; have hsz := M.size; (try (have G9 := G.later hb; clear G; have G := G9; clear G9)); have M9 := M.later hb; clear M; (try clear C); have M := M9; clear M9; have C := M.ruleAll; simp only [Go.Proofs.Ytinjjaoikofkdaa.ruleAll] at C)) | (go_at_call 41; ((with_reducible refine (HL _).mono ?_); rintro e w1 ⟨rfl, hb⟩; have hsz := M.size; (try (have G9 := G.later hb; clear G; have G := G9; clear G9)); have M9 := M.later hb; clear M; (try clear C); have M := M9; clear M9; have C := M.ruleAll; simp only [Go.Proofs.Ytinjjaoikofkdaa.ruleAll] at C)) | (go_at_call 42; ((with_reducible refine (HN _).mono ?_); rintro e w1 ⟨rfl, hb⟩; have hsz := M.size; (try (have G9 := G.later hb; clear G; have G := G9; clear G9)); have M9 := M.later hb; clear M; (try clear C); have M := M9; clear M9; have C := M.ruleAll; simp only [Go.Proofs.Ytinjjaoikofkdaa.ruleAll] at C)))
        refine bodyPost_ret (v := .tuple #[.agg (bkV none 0 none 0 0 0), .int .i64 2]) (by exact results_part2 rfl _ _ _ _ (bkV none 0 none 0 0 0) _ rfl und_bok rfl inf_bok (cells_of_blk0 (M.box 0 rfl)) _ rfl) rfl ?_
        unfold BkNew
        rw [HR.out.1, HR.out.2.1, HR.out.2.2]
        exact ⟨none, 0, none, 0, rfl, ((Mm.start no w).later M.below |>.nilRow w.heap.size 43 101).nilRow w.heap.size 9 1⟩
      | true =>
        simp only [hb3] at HN
        by_cases hb4 : 7 < q.n
        · have HR := Hid2.mk (keep_2 (s := s) hb1 hb2 (.inl hb4))
          clear h h1 hq hb1 hb2 hb3 HK HI HO hs1 hs2
          go_enter Try.func14, Try.ntmps14
          go_wp2_with (first | ((with_reducible apply wpM_box' M 29 (bkA g1 c1 g2 c2 ns.length ls.length)); rfl; exact ⟨rfl, rfl⟩; clear M; (try clear C); intro bb w9 h_bb M; have C := M.ruleAll; simp only [Go.Proofs.Ytinjjaoikofkdaa.ruleAll] at C) | ((with_reducible apply wpM_box' M 43 (sqs q.n q.t)); rfl; exact ⟨rfl, rfl⟩; clear M; (try clear C); intro bq w9 h_bq M; have C := M.ruleAll; simp only [Go.Proofs.Ytinjjaoikofkdaa.ruleAll] at C) | ((with_reducible apply wpM_alloc' M 29 (bkV none 0 none 0 0 0)); rfl; exact ⟨rfl, _, zero_bkH _, rfl⟩; clear M; (try clear C); intro b6 w9 h_b6 M; have C := M.ruleAll; simp only [Go.Proofs.Ytinjjaoikofkdaa.ruleAll] at C) | ((with_reducible apply wpM_alloc' M 70 (bys fun _ => 0)); rfl; exact ⟨rfl, _, zero_plc _, rfl⟩; clear M; (try clear C); intro b9 w9 h_b9 M; have C := M.ruleAll; simp only [Go.Proofs.Ytinjjaoikofkdaa.ruleAll] at C) | ((with_reducible apply wpM_lda' M 2 29 0 (bkA g1 c1 g2 c2 ns.length ls.length)); rfl; rfl; rfl; exact ⟨rfl, inf_bok.trans (congrArg some (bok_size ..).symm), _, und_bok, rfl⟩; exact whole_of rfl) | ((with_reducible apply wpM_lda' M 1 43 0 (sqs q.n q.t)); rfl; rfl; rfl; exact ⟨rfl, inf_sqs.trans (congrArg some (sqs_size ..).symm), _, und_sqs, rfl⟩; exact whole_of rfl) | ((with_reducible apply wpM_lda' M 3 29 0 (bkA g1 c1 g2 c2 ns.length ls.length)); rfl; rfl; rfl; exact ⟨rfl, inf_bok.trans (congrArg some (bok_size ..).symm), _, und_bok, rfl⟩; exact whole_of rfl) | ((with_reducible apply wpM_lda' M 2 43 0 (sqs q.n q.t)); rfl; rfl; rfl; exact ⟨rfl, inf_sqs.trans (congrArg some (sqs_size ..).symm), _, und_sqs, rfl⟩; exact whole_of rfl) | (refine wpList_build 29 _ rfl rfl [] rfl _ (build_bkH _) ?_) | ((with_reducible apply wpM_sta' M 0 29 (bkV none 0 none 0 0 0)); rfl; rfl; rfl; rfl; (first | exact .inl (by assumption) | exact .inr rfl | exact .inr (by assumption)); exact ⟨rfl, inf_bok.trans (congrArg some (bkv_size ..).symm), flat_bkv _ _ _ _ _ _⟩; (simp only [entCells, List.getElem?_cons_zero, List.getElem?_cons_succ, bkv_size, bkv_size]); clear M; (try clear C); intro w9 M; simp only [List.set_cons_zero, List.set_cons_succ, entBlk, entT, List.getElem?_cons_zero, List.getElem?_cons_succ] at M; have C := M.ruleAll; simp only [Go.Proofs.Ytinjjaoikofkdaa.ruleAll] at C) | ((with_reducible apply wpM_sta' M 1 29 (bkV none 0 none 0 0 0)); rfl; rfl; rfl; rfl; (first | exact .inl (by assumption) | exact .inr rfl | exact .inr (by assumption)); exact ⟨rfl, inf_bok.trans (congrArg some (bkv_size ..).symm), flat_bkv _ _ _ _ _ _⟩; (simp only [entCells, List.getElem?_cons_zero, List.getElem?_cons_succ, bkv_size, bkv_size]); clear M; (try clear C); intro w9 M; simp only [List.set_cons_zero, List.set_cons_succ, entBlk, entT, List.getElem?_cons_zero, List.getElem?_cons_succ] at M; have C := M.ruleAll; simp only [Go.Proofs.Ytinjjaoikofkdaa.ruleAll] at C) | (go_at_call 40; ((with_reducible refine (HB _ M.below).mono ?_); rintro e w1 ⟨rfl, hb⟩; have hsz := M.size; (try (have G9 := G.later hb; clear G; have G := G9; clear G9)); have M9 := M.later hb; clear M; (try clear C); have M := M9; clear M9; have C := M.ruleAll; simp only [Go.Proofs.Ytinjjaoikofkdaa.ruleAll] at C)) | (go_at_call 41; ((with_reducible refine (HL _).mono ?_); rintro e w1 ⟨rfl, hb⟩; have hsz := M.size; (try (have G9 := G.later hb; clear G; have G := G9; clear G9)); have M9 := M.later hb; clear M; (try clear C); have M := M9; clear M9; have C := M.ruleAll; simp only [Go.Proofs.Ytinjjaoikofkdaa.ruleAll] at C)) | (go_at_call 42; ((with_reducible refine (HN _).mono ?_); rintro e w1 ⟨rfl, hb⟩; have hsz := M.size; (try (have G9 := G.later hb; clear G; have G := G9; clear G9)); have M9 := M.later hb; clear M; (try clear C); have M := M9; clear M9; have C := M.ruleAll; simp only [Go.Proofs.Ytinjjaoikofkdaa.ruleAll] at C)))
          refine bodyPost_ret (v := .tuple #[.agg (bkV none 0 none 0 0 0), .int .i64 2]) (by exact results_part2 rfl _ _ _ _ (bkV none 0 none 0 0 0) _ rfl und_bok rfl inf_bok (cells_of_blk0 (M.box 0 rfl)) _ rfl) rfl ?_
          unfold BkNew
          rw [HR.out.1, HR.out.2.1, HR.out.2.2]
          exact ⟨none, 0, none, 0, rfl, ((Mm.start no w).later M.below |>.nilRow w.heap.size 43 101).nilRow w.heap.size 9 1⟩
        · generalize placeOf (alkB q) ls = pk at hs1 HK
          generalize placeOf (fun x : ByteArray => x.toList == s.toList) ns = pn at hs2 HI
          generalize keptP q ls = f at HK
          have HI2 : ∀ w1, Below w.heap.size w w1 → Calls Try.prog 44 #[.agg #[.slice (some ⟨g1, 0, none⟩) ns.length c1, .slice (some ⟨g2, 0, none⟩) ls.length c2], .string s] w1 fun e w' => e = .returned (.int .i64 pn) ∧ Below w1.heap.size w1 w' := HI
          clear HI
          by_cases hb5 : 0 ≤ pk
          · have HR := Hid2.mk (keep_5 hb1 hb2 hb4 hb3 (.inr (hs1.symm.trans (decide_eq_true hb5))))
            clear h h1 hq hb1 hb2 hb3 HI2 HO hs1 hs2
            go_enter Try.func14, Try.ntmps14
            go_wp2_with (first | ((with_reducible apply wpM_box' M 29 (bkA g1 c1 g2 c2 ns.length ls.length)); rfl; exact ⟨rfl, rfl⟩; clear M; (try clear C); intro bb w9 h_bb M; have C := M.ruleAll; simp only [Go.Proofs.Ytinjjaoikofkdaa.ruleAll] at C) | ((with_reducible apply wpM_box' M 43 (sqs q.n q.t)); rfl; exact ⟨rfl, rfl⟩; clear M; (try clear C); intro bq w9 h_bq M; have C := M.ruleAll; simp only [Go.Proofs.Ytinjjaoikofkdaa.ruleAll] at C) | ((with_reducible apply wpM_alloc' M 29 (bkV none 0 none 0 0 0)); rfl; exact ⟨rfl, _, zero_bkH _, rfl⟩; clear M; (try clear C); intro b6 w9 h_b6 M; have C := M.ruleAll; simp only [Go.Proofs.Ytinjjaoikofkdaa.ruleAll] at C) | ((with_reducible apply wpM_alloc' M 70 (bys fun _ => 0)); rfl; exact ⟨rfl, _, zero_plc _, rfl⟩; clear M; (try clear C); intro b9 w9 h_b9 M; have C := M.ruleAll; simp only [Go.Proofs.Ytinjjaoikofkdaa.ruleAll] at C) | ((with_reducible apply wpM_lda' M 2 29 0 (bkA g1 c1 g2 c2 ns.length ls.length)); rfl; rfl; rfl; exact ⟨rfl, inf_bok.trans (congrArg some (bok_size ..).symm), _, und_bok, rfl⟩; exact whole_of rfl) | ((with_reducible apply wpM_lda' M 1 43 0 (sqs q.n q.t)); rfl; rfl; rfl; exact ⟨rfl, inf_sqs.trans (congrArg some (sqs_size ..).symm), _, und_sqs, rfl⟩; exact whole_of rfl) | ((with_reducible apply wpM_lda' M 3 29 0 (bkA g1 c1 g2 c2 ns.length ls.length)); rfl; rfl; rfl; exact ⟨rfl, inf_bok.trans (congrArg some (bok_size ..).symm), _, und_bok, rfl⟩; exact whole_of rfl) | ((with_reducible apply wpM_lda' M 2 43 0 (sqs q.n q.t)); rfl; rfl; rfl; exact ⟨rfl, inf_sqs.trans (congrArg some (sqs_size ..).symm), _, und_sqs, rfl⟩; exact whole_of rfl) | (refine wpList_build 29 _ rfl rfl [] rfl _ (build_bkH _) ?_) | ((with_reducible apply wpM_sta' M 0 29 (bkV none 0 none 0 0 0)); rfl; rfl; rfl; rfl; (first | exact .inl (by assumption) | exact .inr rfl | exact .inr (by assumption)); exact ⟨rfl, inf_bok.trans (congrArg some (bkv_size ..).symm), flat_bkv _ _ _ _ _ _⟩; (simp only [entCells, List.getElem?_cons_zero, List.getElem?_cons_succ, bkv_size, bkv_size]); clear M; (try clear C); intro w9 M; simp only [List.set_cons_zero, List.set_cons_succ, entBlk, entT, List.getElem?_cons_zero, List.getElem?_cons_succ] at M; have C := M.ruleAll; simp only [Go.Proofs.Ytinjjaoikofkdaa.ruleAll] at C) | ((with_reducible apply wpM_sta' M 1 29 (bkV none 0 none 0 0 0)); rfl; rfl; rfl; rfl; (first | exact .inl (by assumption) | exact .inr rfl | exact .inr (by assumption)); exact ⟨rfl, inf_bok.trans (congrArg some (bkv_size ..).symm), flat_bkv _ _ _ _ _ _⟩; (simp only [entCells, List.getElem?_cons_zero, List.getElem?_cons_succ, bkv_size, bkv_size]); clear M; (try clear C); intro w9 M; simp only [List.set_cons_zero, List.set_cons_succ, entBlk, entT, List.getElem?_cons_zero, List.getElem?_cons_succ] at M; have C := M.ruleAll; simp only [Go.Proofs.Ytinjjaoikofkdaa.ruleAll] at C) | (go_at_call 40; ((with_reducible refine (HB _ M.below).mono ?_); rintro e w1 ⟨rfl, hb⟩; have hsz := M.size; (try (have G9 := G.later hb; clear G; have G := G9; clear G9)); have M9 := M.later hb; clear M; (try clear C); have M := M9; clear M9; have C := M.ruleAll; simp only [Go.Proofs.Ytinjjaoikofkdaa.ruleAll] at C)) | (go_at_call 41; ((with_reducible refine (HL _).mono ?_); rintro e w1 ⟨rfl, hb⟩; have hsz := M.size; (try (have G9 := G.later hb; clear G; have G := G9; clear G9)); have M9 := M.later hb; clear M; (try clear C); have M := M9; clear M9; have C := M.ruleAll; simp only [Go.Proofs.Ytinjjaoikofkdaa.ruleAll] at C)) | (go_at_call 42; ((with_reducible refine (HN _).mono ?_); rintro e w1 ⟨rfl, hb⟩; have hsz := M.size; (try (have G9 := G.later hb; clear G; have G := G9; clear G9)); have M9 := M.later hb; clear M; (try clear C); have M := M9; clear M9; have C := M.ruleAll; simp only [Go.Proofs.Ytinjjaoikofkdaa.ruleAll] at C)) | (go_at_call 43; ((with_reducible refine (HK _ M.below).mono ?_); rintro e w1 ⟨rfl, hb⟩; have hsz := M.size; (try (have G9 := G.later hb; clear G; have G := G9; clear G9)); have M9 := M.later hb; clear M; (try clear C); have M := M9; clear M9; have C := M.ruleAll; simp only [Go.Proofs.Ytinjjaoikofkdaa.ruleAll] at C)) | ((with_reducible apply wpM_sta' M 0 70 (bys f)); rfl; rfl; rfl; rfl; (first | exact .inl (by assumption) | exact .inr rfl | exact .inr (by assumption)); exact ⟨rfl, inf_plc.trans (congrArg some (bys_size ..).symm), flat_bys _⟩; (simp only [entCells, List.getElem?_cons_zero, List.getElem?_cons_succ, bys_size, bys_size]); clear M; (try clear C); intro w9 M; simp only [List.set_cons_zero, List.set_cons_succ, entBlk, entT, List.getElem?_cons_zero, List.getElem?_cons_succ] at M; have C := M.ruleAll; simp only [Go.Proofs.Ytinjjaoikofkdaa.ruleAll] at C))
            refine bodyPost_ret (v := .tuple #[.agg (bkV none 0 none 0 0 0), .int .i64 5]) (by exact results_part2 rfl _ _ _ _ (bkV none 0 none 0 0 0) _ rfl und_bok rfl inf_bok (cells_of_blk0 (M.box 1 rfl)) _ rfl) rfl ?_
            unfold BkNew
            rw [HR.out.1, HR.out.2.1, HR.out.2.2]
            exact ⟨none, 0, none, 0, rfl, ((Mm.start no w).later M.below |>.nilRow w.heap.size 43 101).nilRow w.heap.size 9 1⟩
          · by_cases hb6 : 0 ≤ pn
            · have HR := Hid2.mk (keep_5 hb1 hb2 hb4 hb3 (.inl (hs2.symm.trans (decide_eq_true hb6))))
              clear h h1 hq hb1 hb2 hb3 HO hs1 hs2
              go_enter Try.func14, Try.ntmps14
              go_wp2_with (first | ((with_reducible apply wpM_box' M 29 (bkA g1 c1 g2 c2 ns.length ls.length)); rfl; exact ⟨rfl, rfl⟩; clear M; (try clear C); intro bb w9 h_bb M; have C := M.ruleAll; simp only [Go.Proofs.Ytinjjaoikofkdaa.ruleAll] at C) | ((with_reducible apply wpM_box' M 43 (sqs q.n q.t)); rfl; exact ⟨rfl, rfl⟩; clear M; (try clear C); intro bq w9 h_bq M; have C := M.ruleAll; simp only [Go.Proofs.Ytinjjaoikofkdaa.ruleAll] at C) | ((with_reducible apply wpM_alloc' M 29 (bkV none 0 none 0 0 0)); rfl; exact ⟨rfl, _, zero_bkH _, rfl⟩; clear M; (try clear C); intro b6 w9 h_b6 M; have C := M.ruleAll; simp only [Go.Proofs.Ytinjjaoikofkdaa.ruleAll] at C) | ((with_reducible apply wpM_alloc' M 70 (bys fun _ => 0)); rfl; exact ⟨rfl, _, zero_plc _, rfl⟩; clear M; (try clear C); intro b9 w9 h_b9 M; have C := M.ruleAll; simp only [Go.Proofs.Ytinjjaoikofkdaa.ruleAll] at C) | ((with_reducible apply wpM_lda' M 2 29 0 (bkA g1 c1 g2 c2 ns.length ls.length)); rfl; rfl; rfl; exact ⟨rfl, inf_bok.trans (congrArg some (bok_size ..).symm), _, und_bok, rfl⟩; exact whole_of rfl) | ((with_reducible apply wpM_lda' M 1 43 0 (sqs q.n q.t)); rfl; rfl; rfl; exact ⟨rfl, inf_sqs.trans (congrArg some (sqs_size ..).symm), _, und_sqs, rfl⟩; exact whole_of rfl) | ((with_reducible apply wpM_lda' M 3 29 0 (bkA g1 c1 g2 c2 ns.length ls.length)); rfl; rfl; rfl; exact ⟨rfl, inf_bok.trans (congrArg some (bok_size ..).symm), _, und_bok, rfl⟩; exact whole_of rfl) | ((with_reducible apply wpM_lda' M 2 43 0 (sqs q.n q.t)); rfl; rfl; rfl; exact ⟨rfl, inf_sqs.trans (congrArg some (sqs_size ..).symm), _, und_sqs, rfl⟩; exact whole_of rfl) | (refine wpList_build 29 _ rfl rfl [] rfl _ (build_bkH _) ?_) | ((with_reducible apply wpM_sta' M 0 29 (bkV none 0 none 0 0 0)); rfl; rfl; rfl; rfl; (first | exact .inl (by assumption) | exact .inr rfl | exact .inr (by assumption)); exact ⟨rfl, inf_bok.trans (congrArg some (bkv_size ..).symm), flat_bkv _ _ _ _ _ _⟩; (simp only [entCells, List.getElem?_cons_zero, List.getElem?_cons_succ, bkv_size, bkv_size]); clear M; (try clear C); intro w9 M; simp only [List.set_cons_zero, List.set_cons_succ, entBlk, entT, List.getElem?_cons_zero, List.getElem?_cons_succ] at M; have C := M.ruleAll; simp only [Go.Proofs.Ytinjjaoikofkdaa.ruleAll] at C) | ((with_reducible apply wpM_sta' M 1 29 (bkV none 0 none 0 0 0)); rfl; rfl; rfl; rfl; (first | exact .inl (by assumption) | exact .inr rfl | exact .inr (by assumption)); exact ⟨rfl, inf_bok.trans (congrArg some (bkv_size ..).symm), flat_bkv _ _ _ _ _ _⟩; (simp only [entCells, List.getElem?_cons_zero, List.getElem?_cons_succ, bkv_size, bkv_size]); clear M; (try clear C); intro w9 M; simp only [List.set_cons_zero, List.set_cons_succ, entBlk, entT, List.getElem?_cons_zero, List.getElem?_cons_succ] at M; have C := M.ruleAll; simp only [Go.Proofs.Ytinjjaoikofkdaa.ruleAll] at C) | (go_at_call 40; ((with_reducible refine (HB _ M.below).mono ?_); rintro e w1 ⟨rfl, hb⟩; have hsz := M.size; (try (have G9 := G.later hb; clear G; have G := G9; clear G9)); have M9 := M.later hb; clear M; (try clear C); have M := M9; clear M9; have C := M.ruleAll; simp only [Go.Proofs.Ytinjjaoikofkdaa.ruleAll] at C)) | (go_at_call 41; ((with_reducible refine (HL _).mono ?_); rintro e w1 ⟨rfl, hb⟩; have hsz := M.size; (try (have G9 := G.later hb; clear G; have G := G9; clear G9)); have M9 := M.later hb; clear M; (try clear C); have M := M9; clear M9; have C := M.ruleAll; simp only [Go.Proofs.Ytinjjaoikofkdaa.ruleAll] at C)) | (go_at_call 42; ((with_reducible refine (HN _).mono ?_); rintro e w1 ⟨rfl, hb⟩; have hsz := M.size; (try (have G9 := G.later hb; clear G; have G := G9; clear G9)); have M9 := M.later hb; clear M; (try clear C); have M := M9; clear M9; have C := M.ruleAll; simp only [Go.Proofs.Ytinjjaoikofkdaa.ruleAll] at C)) | (go_at_call 43; ((with_reducible refine (HK _ M.below).mono ?_); rintro e w1 ⟨rfl, hb⟩; have hsz := M.size; (try (have G9 := G.later hb; clear G; have G := G9; clear G9)); have M9 := M.later hb; clear M; (try clear C); have M := M9; clear M9; have C := M.ruleAll; simp only [Go.Proofs.Ytinjjaoikofkdaa.ruleAll] at C)) | ((with_reducible apply wpM_sta' M 0 70 (bys f)); rfl; rfl; rfl; rfl; (first | exact .inl (by assumption) | exact .inr rfl | exact .inr (by assumption)); exact ⟨rfl, inf_plc.trans (congrArg some (bys_size ..).symm), flat_bys _⟩; (simp only [entCells, List.getElem?_cons_zero, List.getElem?_cons_succ, bys_size, bys_size]); clear M; (try clear C); intro w9 M; simp only [List.set_cons_zero, List.set_cons_succ, entBlk, entT, List.getElem?_cons_zero, List.getElem?_cons_succ] at M; have C := M.ruleAll; simp only [Go.Proofs.Ytinjjaoikofkdaa.ruleAll] at C) | (go_at_call 44; ((with_reducible refine (HI2 _ M.below).mono ?_); rintro e w1 ⟨rfl, hb⟩; have hsz := M.size; (try (have G9 := G.later hb; clear G; have G := G9; clear G9)); have M9 := M.later hb; clear M; (try clear C); have M := M9; clear M9; have C := M.ruleAll; simp only [Go.Proofs.Ytinjjaoikofkdaa.ruleAll] at C)))
              refine bodyPost_ret (v := .tuple #[.agg (bkV none 0 none 0 0 0), .int .i64 5]) (by exact results_part2 rfl _ _ _ _ (bkV none 0 none 0 0 0) _ rfl und_bok rfl inf_bok (cells_of_blk0 (M.box 1 rfl)) _ rfl) rfl ?_
              unfold BkNew
              rw [HR.out.1, HR.out.2.1, HR.out.2.2]
              exact ⟨none, 0, none, 0, rfl, ((Mm.start no w).later M.below |>.nilRow w.heap.size 43 101).nilRow w.heap.size 9 1⟩
            · have HR4 := keep_4 hb1 hb2 hb4 hb3 (hs2.symm.trans (decide_eq_false hb6)) (hs1.symm.trans (decide_eq_false hb5))
              by_cases hb7 : ns.length = 20
              · have HR := Hid2.mk (keep_3 HR4 hb7)
                have hb8 : ((ns.length : Int) == 20) = true := by rw [hb7]; rfl
                have HB7 := Hid2.mk hb7
                clear h h1 hq hb1 hb2 hb3 HO hs1 hs2 HR4 hb7
                go_enter Try.func14, Try.ntmps14
                go_wp2_with (first | ((with_reducible apply wpM_box' M 29 (bkA g1 c1 g2 c2 ns.length ls.length)); rfl; exact ⟨rfl, rfl⟩; clear M; (try clear C); intro bb w9 h_bb M; have C := M.ruleAll; simp only [Go.Proofs.Ytinjjaoikofkdaa.ruleAll] at C) | ((with_reducible apply wpM_box' M 43 (sqs q.n q.t)); rfl; exact ⟨rfl, rfl⟩; clear M; (try clear C); intro bq w9 h_bq M; have C := M.ruleAll; simp only [Go.Proofs.Ytinjjaoikofkdaa.ruleAll] at C) | ((with_reducible apply wpM_alloc' M 29 (bkV none 0 none 0 0 0)); rfl; exact ⟨rfl, _, zero_bkH _, rfl⟩; clear M; (try clear C); intro b6 w9 h_b6 M; have C := M.ruleAll; simp only [Go.Proofs.Ytinjjaoikofkdaa.ruleAll] at C) | ((with_reducible apply wpM_alloc' M 70 (bys fun _ => 0)); rfl; exact ⟨rfl, _, zero_plc _, rfl⟩; clear M; (try clear C); intro b9 w9 h_b9 M; have C := M.ruleAll; simp only [Go.Proofs.Ytinjjaoikofkdaa.ruleAll] at C) | ((with_reducible apply wpM_lda' M 2 29 0 (bkA g1 c1 g2 c2 ns.length ls.length)); rfl; rfl; rfl; exact ⟨rfl, inf_bok.trans (congrArg some (bok_size ..).symm), _, und_bok, rfl⟩; exact whole_of rfl) | ((with_reducible apply wpM_lda' M 1 43 0 (sqs q.n q.t)); rfl; rfl; rfl; exact ⟨rfl, inf_sqs.trans (congrArg some (sqs_size ..).symm), _, und_sqs, rfl⟩; exact whole_of rfl) | ((with_reducible apply wpM_lda' M 3 29 0 (bkA g1 c1 g2 c2 ns.length ls.length)); rfl; rfl; rfl; exact ⟨rfl, inf_bok.trans (congrArg some (bok_size ..).symm), _, und_bok, rfl⟩; exact whole_of rfl) | ((with_reducible apply wpM_lda' M 2 43 0 (sqs q.n q.t)); rfl; rfl; rfl; exact ⟨rfl, inf_sqs.trans (congrArg some (sqs_size ..).symm), _, und_sqs, rfl⟩; exact whole_of rfl) | (refine wpList_build 29 _ rfl rfl [] rfl _ (build_bkH _) ?_) | ((with_reducible apply wpM_sta' M 0 29 (bkV none 0 none 0 0 0)); rfl; rfl; rfl; rfl; (first | exact .inl (by assumption) | exact .inr rfl | exact .inr (by assumption)); exact ⟨rfl, inf_bok.trans (congrArg some (bkv_size ..).symm), flat_bkv _ _ _ _ _ _⟩; (simp only [entCells, List.getElem?_cons_zero, List.getElem?_cons_succ, bkv_size, bkv_size]); clear M; (try clear C); intro w9 M; simp only [List.set_cons_zero, List.set_cons_succ, entBlk, entT, List.getElem?_cons_zero, List.getElem?_cons_succ] at M; have C := M.ruleAll; simp only [Go.Proofs.Ytinjjaoikofkdaa.ruleAll] at C) | ((with_reducible apply wpM_sta' M 1 29 (bkV none 0 none 0 0 0)); rfl; rfl; rfl; rfl; (first | exact .inl (by assumption) | exact .inr rfl | exact .inr (by assumption)); exact ⟨rfl, inf_bok.trans (congrArg some (bkv_size ..).symm), flat_bkv _ _ _ _ _ _⟩; (simp only [entCells, List.getElem?_cons_zero, List.getElem?_cons_succ, bkv_size, bkv_size]); clear M; (try clear C); intro w9 M; simp only [List.set_cons_zero, List.set_cons_succ, entBlk, entT, List.getElem?_cons_zero, List.getElem?_cons_succ] at M; have C := M.ruleAll; simp only [Go.Proofs.Ytinjjaoikofkdaa.ruleAll] at C) | (go_at_call 40; ((with_reducible refine (HB _ M.below).mono ?_); rintro e w1 ⟨rfl, hb⟩; have hsz := M.size; (try (have G9 := G.later hb; clear G; have G := G9; clear G9)); have M9 := M.later hb; clear M; (try clear C); have M := M9; clear M9; have C := M.ruleAll; simp only [Go.Proofs.Ytinjjaoikofkdaa.ruleAll] at C)) | (go_at_call 41; ((with_reducible refine (HL _).mono ?_); rintro e w1 ⟨rfl, hb⟩; have hsz := M.size; (try (have G9 := G.later hb; clear G; have G := G9; clear G9)); have M9 := M.later hb; clear M; (try clear C); have M := M9; clear M9; have C := M.ruleAll; simp only [Go.Proofs.Ytinjjaoikofkdaa.ruleAll] at C)) | (go_at_call 42; ((with_reducible refine (HN _).mono ?_); rintro e w1 ⟨rfl, hb⟩; have hsz := M.size; (try (have G9 := G.later hb; clear G; have G := G9; clear G9)); have M9 := M.later hb; clear M; (try clear C); have M := M9; clear M9; have C := M.ruleAll; simp only [Go.Proofs.Ytinjjaoikofkdaa.ruleAll] at C)) | (go_at_call 43; ((with_reducible refine (HK _ M.below).mono ?_); rintro e w1 ⟨rfl, hb⟩; have hsz := M.size; (try (have G9 := G.later hb; clear G; have G := G9; clear G9)); have M9 := M.later hb; clear M; (try clear C); have M := M9; clear M9; have C := M.ruleAll; simp only [Go.Proofs.Ytinjjaoikofkdaa.ruleAll] at C)) | ((with_reducible apply wpM_sta' M 0 70 (bys f)); rfl; rfl; rfl; rfl; (first | exact .inl (by assumption) | exact .inr rfl | exact .inr (by assumption)); exact ⟨rfl, inf_plc.trans (congrArg some (bys_size ..).symm), flat_bys _⟩; (simp only [entCells, List.getElem?_cons_zero, List.getElem?_cons_succ, bys_size, bys_size]); clear M; (try clear C); intro w9 M; simp only [List.set_cons_zero, List.set_cons_succ, entBlk, entT, List.getElem?_cons_zero, List.getElem?_cons_succ] at M; have C := M.ruleAll; simp only [Go.Proofs.Ytinjjaoikofkdaa.ruleAll] at C) | (go_at_call 44; ((with_reducible refine (HI2 _ M.below).mono ?_); rintro e w1 ⟨rfl, hb⟩; have hsz := M.size; (try (have G9 := G.later hb; clear G; have G := G9; clear G9)); have M9 := M.later hb; clear M; (try clear C); have M := M9; clear M9; have C := M.ruleAll; simp only [Go.Proofs.Ytinjjaoikofkdaa.ruleAll] at C)))
                refine bodyPost_ret (v := .tuple #[.agg (bkV none 0 none 0 0 0), .int .i64 3]) (by exact results_part2 rfl _ _ _ _ (bkV none 0 none 0 0 0) _ rfl und_bok rfl inf_bok (cells_of_blk0 (M.box 1 rfl)) _ rfl) rfl ?_
                unfold BkNew
                rw [HR.out.1, HR.out.2.1, HR.out.2.2]
                exact ⟨none, 0, none, 0, rfl, ((Mm.start no w).later M.below |>.nilRow w.heap.size 43 101).nilRow w.heap.size 9 1⟩
              · have HR := Hid2.mk (keep_0 HR4 hb7)
                have hb8 : ((ns.length : Int) == 20) = false := by rw [beq_eq_false_iff_ne]; omega
                have hb9 : ¬ (ns.length : Int) = 20 := by omega
                clear h h1 hq hb1 hb2 hb3 hs1 hs2 HR4 hb7
                go_enter Try.func14, Try.ntmps14
                go_wp2_with (first | ((with_reducible apply wpM_box' M 29 (bkA g1 c1 g2 c2 ns.length ls.length)); rfl; exact ⟨rfl, rfl⟩; clear M; (try clear C); intro bb w9 h_bb M; have C := M.ruleAll; simp only [Go.Proofs.Ytinjjaoikofkdaa.ruleAll] at C) | ((with_reducible apply wpM_box' M 43 (sqs q.n q.t)); rfl; exact ⟨rfl, rfl⟩; clear M; (try clear C); intro bq w9 h_bq M; have C := M.ruleAll; simp only [Go.Proofs.Ytinjjaoikofkdaa.ruleAll] at C) | ((with_reducible apply wpM_alloc' M 29 (bkV none 0 none 0 0 0)); rfl; exact ⟨rfl, _, zero_bkH _, rfl⟩; clear M; (try clear C); intro b6 w9 h_b6 M; have C := M.ruleAll; simp only [Go.Proofs.Ytinjjaoikofkdaa.ruleAll] at C) | ((with_reducible apply wpM_alloc' M 70 (bys fun _ => 0)); rfl; exact ⟨rfl, _, zero_plc _, rfl⟩; clear M; (try clear C); intro b9 w9 h_b9 M; have C := M.ruleAll; simp only [Go.Proofs.Ytinjjaoikofkdaa.ruleAll] at C) | ((with_reducible apply wpM_lda' M 2 29 0 (bkA g1 c1 g2 c2 ns.length ls.length)); rfl; rfl; rfl; exact ⟨rfl, inf_bok.trans (congrArg some (bok_size ..).symm), _, und_bok, rfl⟩; exact whole_of rfl) | ((with_reducible apply wpM_lda' M 1 43 0 (sqs q.n q.t)); rfl; rfl; rfl; exact ⟨rfl, inf_sqs.trans (congrArg some (sqs_size ..).symm), _, und_sqs, rfl⟩; exact whole_of rfl) | ((with_reducible apply wpM_lda' M 3 29 0 (bkA g1 c1 g2 c2 ns.length ls.length)); rfl; rfl; rfl; exact ⟨rfl, inf_bok.trans (congrArg some (bok_size ..).symm), _, und_bok, rfl⟩; exact whole_of rfl) | ((with_reducible apply wpM_lda' M 2 43 0 (sqs q.n q.t)); rfl; rfl; rfl; exact ⟨rfl, inf_sqs.trans (congrArg some (sqs_size ..).symm), _, und_sqs, rfl⟩; exact whole_of rfl) | (refine wpList_build 29 _ rfl rfl [] rfl _ (build_bkH _) ?_) | ((with_reducible apply wpM_sta' M 0 29 (bkV none 0 none 0 0 0)); rfl; rfl; rfl; rfl; (first | exact .inl (by assumption) | exact .inr rfl | exact .inr (by assumption)); exact ⟨rfl, inf_bok.trans (congrArg some (bkv_size ..).symm), flat_bkv _ _ _ _ _ _⟩; (simp only [entCells, List.getElem?_cons_zero, List.getElem?_cons_succ, bkv_size, bkv_size]); clear M; (try clear C); intro w9 M; simp only [List.set_cons_zero, List.set_cons_succ, entBlk, entT, List.getElem?_cons_zero, List.getElem?_cons_succ] at M; have C := M.ruleAll; simp only [Go.Proofs.Ytinjjaoikofkdaa.ruleAll] at C) | ((with_reducible apply wpM_sta' M 1 29 (bkV none 0 none 0 0 0)); rfl; rfl; rfl; rfl; (first | exact .inl (by assumption) | exact .inr rfl | exact .inr (by assumption)); exact ⟨rfl, inf_bok.trans (congrArg some (bkv_size ..).symm), flat_bkv _ _ _ _ _ _⟩; (simp only [entCells, List.getElem?_cons_zero, List.getElem?_cons_succ, bkv_size, bkv_size]); clear M; (try clear C); intro w9 M; simp only [List.set_cons_zero, List.set_cons_succ, entBlk, entT, List.getElem?_cons_zero, List.getElem?_cons_succ] at M; have C := M.ruleAll; simp only [Go.Proofs.Ytinjjaoikofkdaa.ruleAll] at C) | (go_at_call 40; ((with_reducible refine (HB _ M.below).mono ?_); rintro e w1 ⟨rfl, hb⟩; have hsz := M.size; (try (have G9 := G.later hb; clear G; have G := G9; clear G9)); have M9 := M.later hb; clear M; (try clear C); have M := M9; clear M9; have C := M.ruleAll; simp only [Go.Proofs.Ytinjjaoikofkdaa.ruleAll] at C)) | (go_at_call 41; ((with_reducible refine (HL _).mono ?_); rintro e w1 ⟨rfl, hb⟩; have hsz := M.size; (try (have G9 := G.later hb; clear G; have G := G9; clear G9)); have M9 := M.later hb; clear M; (try clear C); have M := M9; clear M9; have C := M.ruleAll; simp only [Go.Proofs.Ytinjjaoikofkdaa.ruleAll] at C)) | (go_at_call 42; ((with_reducible refine (HN _).mono ?_); rintro e w1 ⟨rfl, hb⟩; have hsz := M.size; (try (have G9 := G.later hb; clear G; have G := G9; clear G9)); have M9 := M.later hb; clear M; (try clear C); have M := M9; clear M9; have C := M.ruleAll; simp only [Go.Proofs.Ytinjjaoikofkdaa.ruleAll] at C)) | (go_at_call 43; ((with_reducible refine (HK _ M.below).mono ?_); rintro e w1 ⟨rfl, hb⟩; have hsz := M.size; (try (have G9 := G.later hb; clear G; have G := G9; clear G9)); have M9 := M.later hb; clear M; (try clear C); have M := M9; clear M9; have C := M.ruleAll; simp only [Go.Proofs.Ytinjjaoikofkdaa.ruleAll] at C)) | ((with_reducible apply wpM_sta' M 0 70 (bys f)); rfl; rfl; rfl; rfl; (first | exact .inl (by assumption) | exact .inr rfl | exact .inr (by assumption)); exact ⟨rfl, inf_plc.trans (congrArg some (bys_size ..).symm), flat_bys _⟩; (simp only [entCells, List.getElem?_cons_zero, List.getElem?_cons_succ, bys_size, bys_size]); clear M; (try clear C); intro w9 M; simp only [List.set_cons_zero, List.set_cons_succ, entBlk, entT, List.getElem?_cons_zero, List.getElem?_cons_succ] at M; have C := M.ruleAll; simp only [Go.Proofs.Ytinjjaoikofkdaa.ruleAll] at C) | (go_at_call 44; ((with_reducible refine (HI2 _ M.below).mono ?_); rintro e w1 ⟨rfl, hb⟩; have hsz := M.size; (try (have G9 := G.later hb; clear G; have G := G9; clear G9)); have M9 := M.later hb; clear M; (try clear C); have M := M9; clear M9; have C := M.ruleAll; simp only [Go.Proofs.Ytinjjaoikofkdaa.ruleAll] at C)) | (go_at_call 45; fail))
                refine (HO.out _ M.below).mono ?_
                rintro e w1 ⟨p1, d1, p2, d2, rfl, M'⟩
                have M9 := (M.join M' (newRows M'))
                simp only [List.cons_append, List.nil_append] at M9
                have M8 := M9.weakRows M.size M.size
                clear M; (try clear C)
                have M := M8
                clear M8 M9 M' HB HL HN HK HI2 HO
                have j0 : (bkV p1 d1 p2 d2 ns.length ls.length)[0]? = some (.slice p1 ns.length d1) := rfl
                have j1 : (bkV p1 d1 p2 d2 ns.length ls.length)[1]? = some (.slice p2 ls.length d2) := rfl
                have C := M.ruleAll; simp only [Go.Proofs.Ytinjjaoikofkdaa.ruleAll] at C
                go_wp2_with (first | ((fail_if_success have := h_b10); ((with_reducible apply wpM_alloc' M 29 (bkV none 0 none 0 0 0)); rfl; exact ⟨rfl, _, zero_bkH _, rfl⟩; clear M; (try clear C); intro b10 w9 h_b10 M; have C := M.ruleAll; simp only [Go.Proofs.Ytinjjaoikofkdaa.ruleAll] at C)) | ((with_reducible apply wpM_sta' M 0 29 (bkV p1 d1 p2 d2 ns.length ls.length)); rfl; rfl; rfl; rfl; (first | exact .inl (by assumption) | exact .inr rfl | exact .inr (by assumption)); exact ⟨rfl, inf_bok.trans (congrArg some (bkv_size ..).symm), flat_bkv _ _ _ _ _ _⟩; (simp only [entCells, List.getElem?_cons_zero, List.getElem?_cons_succ, bkv_size, bkv_size]); clear M; (try clear C); intro w9 M; simp only [List.set_cons_zero, List.set_cons_succ, entBlk, entT, List.getElem?_cons_zero, List.getElem?_cons_succ] at M; have C := M.ruleAll; simp only [Go.Proofs.Ytinjjaoikofkdaa.ruleAll] at C) | ((with_reducible apply wpM_bsl' M 22 1 9 ([(0, .string s)]) (#[.string s])); rfl; rfl; rfl; exact bsl_J1 _; clear M; (try clear C); intro bx w9 h_bx M; have C := M.ruleAll; simp only [Go.Proofs.Ytinjjaoikofkdaa.ruleAll] at C) | ((with_reducible apply wpM_app' M 22 2 0 (w.heap.size) (.slice p1 ns.length d1) (ns.length) (nmR ns) 9 1 16); rfl; rfl; rfl; rfl; rfl; rfl; rfl; (first | exact .inl (Nat.le_refl _) | exact .inl (by assumption) | exact .inr (by assumption) | exact .inr HDv.out); (first | exact M.size | (have hq := M.size; omega)); exact und_slJ; exact inf_elJ; rfl; decide; decide; rfl; exact rfl; exact flat_J1 _; omega; clear M; (try clear C); intro v3 w9 far_v3 M; simp only [List.set_cons_zero, List.set_cons_succ, entBlk, entT, List.getElem?_cons_zero, List.getElem?_cons_succ] at M; obtain ⟨pp_v3, cap_v3, rfl⟩ := own_form (M.row 2 rfl); have C := M.ruleAll; simp only [Go.Proofs.Ytinjjaoikofkdaa.ruleAll] at C) | (((with_reducible apply wpM_st' M 1 22 (0) (bkV pp_v3 cap_v3 p2 d2 (ns.length + 1) ls.length)); rfl; rfl; rfl; (first | exact .inl (by assumption) | exact .inr rfl | exact .inr (by assumption)); exact ⟨rfl, rfl, by kernel_rfl⟩; (exact Nat.lt_of_lt_of_eq (by omega) (bkv_size ..).symm); exact rfl; clear M; (try clear C); intro w9 M; simp only [List.set_cons_zero, List.set_cons_succ, entBlk, entT, List.getElem?_cons_zero, List.getElem?_cons_succ] at M; have C := M.ruleAll; simp only [Go.Proofs.Ytinjjaoikofkdaa.ruleAll] at C); have j2 : (bkV pp_v3 cap_v3 p2 d2 (ns.length + 1) ls.length)[1]? = some (.slice p2 ls.length d2) := rfl) | ((with_reducible apply wpM_lda' M 6 43 0 (sqs q.n q.t)); rfl; rfl; rfl; exact ⟨rfl, inf_sqs.trans (congrArg some (sqs_size ..).symm), _, und_sqs, rfl⟩; exact whole_of rfl) | ((with_reducible apply wpM_bsl' M 27 1 43 ([(0, .agg (sqs q.n q.t))]) (sqs q.n q.t)); rfl; rfl; rfl; exact bsl_Q1 q; clear M; (try clear C); intro by_ w9 h_by_ M; have C := M.ruleAll; simp only [Go.Proofs.Ytinjjaoikofkdaa.ruleAll] at C) | ((with_reducible apply wpM_app' M 27 4 0 (w.heap.size) (.slice p2 ls.length d2) (ls.length) (slC ls) 43 101 112); rfl; rfl; rfl; rfl; rfl; rfl; rfl; (first | exact .inl (Nat.le_refl _) | exact .inl (by assumption) | exact .inr (by assumption) | exact .inr HDv.out); (first | exact M.size | (have hq := M.size; omega)); exact und_sqH; exact inf_sqH; rfl; decide; decide; rfl; exact sqs_size ..; exact flat_sqs _ _; omega; clear M; (try clear C); intro v4 w9 far_v4 M; simp only [List.set_cons_zero, List.set_cons_succ, entBlk, entT, List.getElem?_cons_zero, List.getElem?_cons_succ] at M; obtain ⟨pp_v4, cap_v4, rfl⟩ := own_form (M.row 4 rfl); have C := M.ruleAll; simp only [Go.Proofs.Ytinjjaoikofkdaa.ruleAll] at C) | ((with_reducible apply wpM_st' M 2 27 (1) (bkV pp_v3 cap_v3 pp_v4 cap_v4 (ns.length + 1) (ls.length + 1))); rfl; rfl; rfl; (first | exact .inl (by assumption) | exact .inr rfl | exact .inr (by assumption)); exact ⟨rfl, rfl, by kernel_rfl⟩; (exact Nat.lt_of_lt_of_eq (by omega) (bkv_size ..).symm); exact rfl; clear M; (try clear C); intro w9 M; simp only [List.set_cons_zero, List.set_cons_succ, entBlk, entT, List.getElem?_cons_zero, List.getElem?_cons_succ] at M; have C := M.ruleAll; simp only [Go.Proofs.Ytinjjaoikofkdaa.ruleAll] at C) | ((with_reducible apply wpM_lda' M 2 29 0 (bkV pp_v3 cap_v3 pp_v4 cap_v4 (ns.length + 1) (ls.length + 1))); rfl; rfl; rfl; exact ⟨rfl, inf_bok.trans (congrArg some (bkv_size ..).symm), _, und_bok, rfl⟩; exact whole_of rfl) | ((with_reducible apply wpM_sta' M 6 29 (bkV pp_v3 cap_v3 pp_v4 cap_v4 (ns.length + 1) (ls.length + 1))); rfl; rfl; rfl; rfl; (first | exact .inl (by assumption) | exact .inr rfl | exact .inr (by assumption)); exact ⟨rfl, inf_bok.trans (congrArg some (bkv_size ..).symm), flat_bkv _ _ _ _ _ _⟩; (simp only [entCells, List.getElem?_cons_zero, List.getElem?_cons_succ, bkv_size, bkv_size]); clear M; (try clear C); intro w9 M; simp only [List.set_cons_zero, List.set_cons_succ, entBlk, entT, List.getElem?_cons_zero, List.getElem?_cons_succ] at M; have C := M.ruleAll; simp only [Go.Proofs.Ytinjjaoikofkdaa.ruleAll] at C))
                refine bodyPost_ret (v := .tuple #[.agg (bkV pp_v3 cap_v3 pp_v4 cap_v4 (ns.length + 1) (ls.length + 1)), .int .i64 0]) (by exact results_part2 rfl _ _ _ _ (bkV pp_v3 cap_v3 pp_v4 cap_v4 (ns.length + 1) (ls.length + 1)) _ rfl und_bok rfl inf_bok (cells_of_blk0 (M.box 6 rfl)) _ rfl) rfl ?_
                unfold BkNew
                rw [HR.out.1, HR.out.2.1, HR.out.2.2, nmR_snoc, slC_snocH, List.length_append, List.length_append]
                exact ⟨pp_v3, cap_v3, pp_v4, cap_v4, rfl, (M.sub [3, 4] (by decide)).eq rfl⟩
end Go.Proofs.Ytinjjaoikofkdaa

/- A book with a loop more, for the program: contract. Printed by gen/h18.py. -/
namespace Go.Proofs.Ytinjjaoikofkdaa
set_option linter.unusedSimpArgs false
set_option linter.unusedVariables false
open Go Go.RowKit

def kpR : Nat → List Nat
  | 0 => []
  | 1 => [0]
  | 2 => [0, 1]
  | 3 => []
  | 4 => [3]
  | 5 => [0, 1, 2, 3, 4]
  | 6 => []
  | 7 => [6]
  | 8 => [0, 1, 2, 3, 4, 5, 6, 7]
  | 9 => []
  | 10 => [9]
  | 11 => [0, 1, 2, 3, 4, 5, 6, 7, 8, 9, 10]
  | _ => []
def kpP (ns : List ByteArray) (ls : List Sqr) (s : ByteArray) (q : Sqr) (g1 c1 g2 c2 bb B0 : Nat) : Nat → (Nat → Bool) → (Nat → Value) → List Ent → Prop
  | 0, _, g, E => g 0 = .pointer (some ⟨bb, 0, none⟩) ∧ E = []
  | 1, _, g, E => g 1 = .slice (some ⟨g1, 0, none⟩) ns.length c1 ∧ E = []
  | 2, D, g, E => True ∧ E = [.row B0 (bif D 5 then g 5 else g 2) (bif D 5 then ns.length + 1 else ns.length) (bif D 5 then nmR ns ++ [Value.string s] else nmR ns) 9 1]
  | 3, _, g, E => g 3 = .string s ∧ E = []
  | 4, _, g, E => ∃ bi, g 4 = .slice (some ⟨bi, 0, none⟩) 1 1 ∧ E = [.box bi (#[.string s]) 9]
  | 5, _, g, E => E = []
  | 6, _, g, E => g 6 = .pointer (some ⟨bb, 1, none⟩) ∧ E = []
  | 7, _, g, E => g 7 = .slice (some ⟨g2, 0, none⟩) ls.length c2 ∧ E = []
  | 8, D, g, E => True ∧ E = [.row B0 (bif D 11 then g 11 else g 8) (bif D 11 then ls.length + 1 else ls.length) (bif D 11 then slC ls ++ (sqs q.n q.t).toList else slC ls) 43 101]
  | 9, _, g, E => g 9 = .agg (sqs q.n q.t) ∧ E = []
  | 10, _, g, E => ∃ bj, g 10 = .slice (some ⟨bj, 0, none⟩) 1 1 ∧ E = [.box bj (sqs q.n q.t) 43]
  | 11, _, g, E => E = []
  | _, _, _, _ => False
def kpW (j : Nat) : List Nat := if j = 2 then [5] else if j = 8 then [11] else []
theorem kpS (ns : List ByteArray) (ls : List Sqr) (s : ByteArray) (q : Sqr) (g1 c1 g2 c2 bb B0 : Nat) : Stable (kpP ns ls s q g1 c1 g2 c2 bb B0) kpR kpW := fun i k D g u E hki hkR hkW h => by
  match i with
  | 0 =>
    have e0 : updG g k u 0 = g 0 := updG_ne (g := g) (u := u) (Ne.symm hki)
    simp only [kpP, e0]; exact h
  | 1 =>
    have e1 : updG g k u 1 = g 1 := updG_ne (g := g) (u := u) (Ne.symm hki)
    simp only [kpP, e1]; exact h
  | 2 =>
    have hkW0 : k ∉ ([5] : List Nat) := hkW
    simp only [List.mem_cons, List.not_mem_nil, or_false, not_or] at hkW0
    have e2 : updG g k u 2 = g 2 := updG_ne (g := g) (u := u) (Ne.symm hki)
    have e5 : updG g k u 5 = g 5 := updG_ne (by omega)
    have hkW' : k ∉ ([5] : List Nat) := hkW
    simp only [List.mem_cons, List.not_mem_nil, or_false, not_or] at hkW'
    have d5 : updD D k 5 = D 5 := updD_ne (by omega)
    simp only [kpP, e2, e5, d5]; exact h
  | 3 =>
    have e3 : updG g k u 3 = g 3 := updG_ne (g := g) (u := u) (Ne.symm hki)
    simp only [kpP, e3]; exact h
  | 4 =>
    have e4 : updG g k u 4 = g 4 := updG_ne (g := g) (u := u) (Ne.symm hki)
    simp only [kpP, e4]; exact h
  | 5 =>
    simp only [kpP, ]; exact h
  | 6 =>
    have e6 : updG g k u 6 = g 6 := updG_ne (g := g) (u := u) (Ne.symm hki)
    simp only [kpP, e6]; exact h
  | 7 =>
    have e7 : updG g k u 7 = g 7 := updG_ne (g := g) (u := u) (Ne.symm hki)
    simp only [kpP, e7]; exact h
  | 8 =>
    have hkW0 : k ∉ ([11] : List Nat) := hkW
    simp only [List.mem_cons, List.not_mem_nil, or_false, not_or] at hkW0
    have e8 : updG g k u 8 = g 8 := updG_ne (g := g) (u := u) (Ne.symm hki)
    have e11 : updG g k u 11 = g 11 := updG_ne (by omega)
    have hkW' : k ∉ ([11] : List Nat) := hkW
    simp only [List.mem_cons, List.not_mem_nil, or_false, not_or] at hkW'
    have d11 : updD D k 11 = D 11 := updD_ne (by omega)
    simp only [kpP, e8, e11, d11]; exact h
  | 9 =>
    have e9 : updG g k u 9 = g 9 := updG_ne (g := g) (u := u) (Ne.symm hki)
    simp only [kpP, e9]; exact h
  | 10 =>
    have e10 : updG g k u 10 = g 10 := updG_ne (g := g) (u := u) (Ne.symm hki)
    simp only [kpP, e10]; exact h
  | 11 =>
    simp only [kpP, ]; exact h
  | n + 12 => exact h.elim

set_option maxRecDepth 100000 in
set_option maxHeartbeats 4000000 in
theorem implKeepLoop_any {ns : List ByteArray} {ls : List Sqr} (h : BkIn ns ls) (s : ByteArray) (hs : s.size ≤ 1048576) (q : Sqr) (hq : Byt2 q.t) (w : World) {g1 g2 : Nat} (h1 : BkHere ns ls w g1 g2) (c1 c2 : Nat) (hc : ns.length ≤ c1) :
    Calls Try.prog 16 #[.agg (bkA g1 c1 g2 c2 ns.length ls.length), .string s, .agg (sqs q.n q.t)] w fun e w' => BkNew (keepN ns ls s q) (keepL ns ls s q) (keepC ns ls s q) w e w' := by
  have M := Mm.start no w
  have k0 : (bkA g1 c1 g2 c2 ns.length ls.length)[0]? = some (.slice (some ⟨g1, 0, none⟩) ns.length c1) := rfl
  have k1 : (bkA g1 c1 g2 c2 ns.length ls.length)[1]? = some (.slice (some ⟨g2, 0, none⟩) ls.length c2) := rfl
  have kq := sq_0 q
  have HB := fun w1 (hb : Below w.heap.size w w1) => isBookP_any h w1 (h1.later hb) c1 c2 hc
  have HL := fun w1 => isLoop_any q.n q.t w1 hq
  have hlp : lpB q = isLp q.n q.t := rfl
  rw [← hlp] at HL
  have HG := fun w1 => isLarge_any q w1
  have HN := fun w1 => isName_any s w1 hs
  have hbd := build_bkH
  have hnb := h.n
  have hmb := h.m
  clear hlp
  cases hb1 : isBk ns ls with
  | false =>
    have HR := Hid2.mk (keep_1 (s := s) (q := q) (fun h => by rw [hb1] at h; exact absurd h.1 (by decide)))
    simp only [hb1] at HB
    clear h h1 hq hb1
    go_enter Try.func16, Try.ntmps16
    go_wp2_with (first | ((with_reducible apply wpM_box' M 29 (bkA g1 c1 g2 c2 ns.length ls.length)); rfl; exact ⟨rfl, rfl⟩; clear M; (try clear C); intro bb w9 h_bb M; have C := M.ruleAll; simp only [Go.Proofs.Ytinjjaoikofkdaa.ruleAll] at C) | ((with_reducible apply wpM_box' M 43 (sqs q.n q.t)); rfl; exact ⟨rfl, rfl⟩; clear M; (try clear C); intro bq w9 h_bq M; have C := M.ruleAll; simp only [Go.Proofs.Ytinjjaoikofkdaa.ruleAll] at C) | ((with_reducible apply wpM_alloc' M 29 (bkV none 0 none 0 0 0)); rfl; exact ⟨rfl, _, zero_bkH _, rfl⟩; clear M; (try clear C); intro b6 w9 h_b6 M; have C := M.ruleAll; simp only [Go.Proofs.Ytinjjaoikofkdaa.ruleAll] at C) | ((with_reducible apply wpM_lda' M 2 29 0 (bkA g1 c1 g2 c2 ns.length ls.length)); rfl; rfl; rfl; exact ⟨rfl, inf_bok.trans (congrArg some (bok_size ..).symm), _, und_bok, rfl⟩; exact whole_of rfl) | ((with_reducible apply wpM_lda' M 1 43 0 (sqs q.n q.t)); rfl; rfl; rfl; exact ⟨rfl, inf_sqs.trans (congrArg some (sqs_size ..).symm), _, und_sqs, rfl⟩; exact whole_of rfl) | (refine wpList_build 29 _ rfl rfl [] rfl _ (build_bkH _) ?_) | ((with_reducible apply wpM_sta' M 0 29 (bkV none 0 none 0 0 0)); rfl; rfl; rfl; rfl; (first | exact .inl (by assumption) | exact .inr rfl | exact .inr (by assumption)); exact ⟨rfl, inf_bok.trans (congrArg some (bkv_size ..).symm), flat_bkv _ _ _ _ _ _⟩; (simp only [entCells, List.getElem?_cons_zero, List.getElem?_cons_succ, bkv_size, bkv_size]); clear M; (try clear C); intro w9 M; simp only [List.set_cons_zero, List.set_cons_succ, entBlk, entT, List.getElem?_cons_zero, List.getElem?_cons_succ] at M; have C := M.ruleAll; simp only [Go.Proofs.Ytinjjaoikofkdaa.ruleAll] at C) | (go_at_call 47; ((with_reducible refine (HB _ M.below).mono ?_); rintro e w1 ⟨rfl, hb⟩; have hsz := M.size; (try (have G9 := G.later hb; clear G; have G := G9; clear G9)); have M9 := M.later hb; clear M; (try clear C); have M := M9; clear M9; have C := M.ruleAll; simp only [Go.Proofs.Ytinjjaoikofkdaa.ruleAll] at C)))
    refine bodyPost_ret (v := .tuple #[.agg (bkV none 0 none 0 0 0), .int .i64 1]) (by exact results_part2 rfl _ _ _ _ (bkV none 0 none 0 0 0) _ rfl und_bok rfl inf_bok (cells_of_blk0 (M.box 0 rfl)) _ rfl) rfl ?_
    unfold BkNew
    rw [HR.out.1, HR.out.2.1, HR.out.2.2]
    exact ⟨none, 0, none, 0, rfl, ((Mm.start no w).later M.below |>.nilRow w.heap.size 43 101).nilRow w.heap.size 9 1⟩
  | true =>
    simp only [hb1] at HB
    cases hb2 : lpB q with
    | false =>
      have HR := Hid2.mk (keep_1 (ns := ns) (ls := ls) (s := s) (q := q) (fun h => by rw [hb2] at h; exact absurd h.2 (by decide)))
      simp only [hb2] at HL
      clear h h1 hq hb1 hb2
      go_enter Try.func16, Try.ntmps16
      go_wp2_with (first | ((with_reducible apply wpM_box' M 29 (bkA g1 c1 g2 c2 ns.length ls.length)); rfl; exact ⟨rfl, rfl⟩; clear M; (try clear C); intro bb w9 h_bb M; have C := M.ruleAll; simp only [Go.Proofs.Ytinjjaoikofkdaa.ruleAll] at C) | ((with_reducible apply wpM_box' M 43 (sqs q.n q.t)); rfl; exact ⟨rfl, rfl⟩; clear M; (try clear C); intro bq w9 h_bq M; have C := M.ruleAll; simp only [Go.Proofs.Ytinjjaoikofkdaa.ruleAll] at C) | ((with_reducible apply wpM_alloc' M 29 (bkV none 0 none 0 0 0)); rfl; exact ⟨rfl, _, zero_bkH _, rfl⟩; clear M; (try clear C); intro b6 w9 h_b6 M; have C := M.ruleAll; simp only [Go.Proofs.Ytinjjaoikofkdaa.ruleAll] at C) | ((with_reducible apply wpM_lda' M 2 29 0 (bkA g1 c1 g2 c2 ns.length ls.length)); rfl; rfl; rfl; exact ⟨rfl, inf_bok.trans (congrArg some (bok_size ..).symm), _, und_bok, rfl⟩; exact whole_of rfl) | ((with_reducible apply wpM_lda' M 1 43 0 (sqs q.n q.t)); rfl; rfl; rfl; exact ⟨rfl, inf_sqs.trans (congrArg some (sqs_size ..).symm), _, und_sqs, rfl⟩; exact whole_of rfl) | (refine wpList_build 29 _ rfl rfl [] rfl _ (build_bkH _) ?_) | ((with_reducible apply wpM_sta' M 0 29 (bkV none 0 none 0 0 0)); rfl; rfl; rfl; rfl; (first | exact .inl (by assumption) | exact .inr rfl | exact .inr (by assumption)); exact ⟨rfl, inf_bok.trans (congrArg some (bkv_size ..).symm), flat_bkv _ _ _ _ _ _⟩; (simp only [entCells, List.getElem?_cons_zero, List.getElem?_cons_succ, bkv_size, bkv_size]); clear M; (try clear C); intro w9 M; simp only [List.set_cons_zero, List.set_cons_succ, entBlk, entT, List.getElem?_cons_zero, List.getElem?_cons_succ] at M; have C := M.ruleAll; simp only [Go.Proofs.Ytinjjaoikofkdaa.ruleAll] at C) | (go_at_call 47; ((with_reducible refine (HB _ M.below).mono ?_); rintro e w1 ⟨rfl, hb⟩; have hsz := M.size; (try (have G9 := G.later hb; clear G; have G := G9; clear G9)); have M9 := M.later hb; clear M; (try clear C); have M := M9; clear M9; have C := M.ruleAll; simp only [Go.Proofs.Ytinjjaoikofkdaa.ruleAll] at C)) | (go_at_call 48; ((with_reducible refine (HL _).mono ?_); rintro e w1 ⟨rfl, hb⟩; have hsz := M.size; (try (have G9 := G.later hb; clear G; have G := G9; clear G9)); have M9 := M.later hb; clear M; (try clear C); have M := M9; clear M9; have C := M.ruleAll; simp only [Go.Proofs.Ytinjjaoikofkdaa.ruleAll] at C)))
      refine bodyPost_ret (v := .tuple #[.agg (bkV none 0 none 0 0 0), .int .i64 1]) (by exact results_part2 rfl _ _ _ _ (bkV none 0 none 0 0 0) _ rfl und_bok rfl inf_bok (cells_of_blk0 (M.box 0 rfl)) _ rfl) rfl ?_
      unfold BkNew
      rw [HR.out.1, HR.out.2.1, HR.out.2.2]
      exact ⟨none, 0, none, 0, rfl, ((Mm.start no w).later M.below |>.nilRow w.heap.size 43 101).nilRow w.heap.size 9 1⟩
    | true =>
      simp only [hb2] at HL
      have HX := fun w1 (hb : Below w.heap.size w w1) => contains_any ns ns.length (Nat.le_refl _) (by omega) s w1 g1 c1 (h1.later hb).r1
      rw [List.take_length] at HX
      have HY := fun w1 b (hb : Below w.heap.size w w1) (hk : blk w1 b (sqs q.n q.t) 43) => containsAlike_any q ls (by omega) (lpB_ok hq hb2) (isBk_loop h hb1) w1 g2 c2 b (h1.later hb).r2 hk
      have HC1 := Hid2.mk (fun w1 (hb : Below w.heap.size w w1) => cloneS_any ns (by omega) w1 g1 c1 (h1.later hb).r1)
      have HC2 := Hid2.mk (fun w1 (hb : Below w.heap.size w w1) => cloneQ_any ls (by omega) w1 g2 c2 (h1.later hb).r2)
      by_cases hb4 : 7 < q.n
      · have HR := Hid2.mk (keep_2 (s := s) hb1 hb2 (.inl hb4))
        clear h h1 hq hb1 hb2 HX HY HC1 HC2
        go_enter Try.func16, Try.ntmps16
        go_wp2_with (first | ((with_reducible apply wpM_box' M 29 (bkA g1 c1 g2 c2 ns.length ls.length)); rfl; exact ⟨rfl, rfl⟩; clear M; (try clear C); intro bb w9 h_bb M; have C := M.ruleAll; simp only [Go.Proofs.Ytinjjaoikofkdaa.ruleAll] at C) | ((with_reducible apply wpM_box' M 43 (sqs q.n q.t)); rfl; exact ⟨rfl, rfl⟩; clear M; (try clear C); intro bq w9 h_bq M; have C := M.ruleAll; simp only [Go.Proofs.Ytinjjaoikofkdaa.ruleAll] at C) | ((with_reducible apply wpM_alloc' M 29 (bkV none 0 none 0 0 0)); rfl; exact ⟨rfl, _, zero_bkH _, rfl⟩; clear M; (try clear C); intro b6 w9 h_b6 M; have C := M.ruleAll; simp only [Go.Proofs.Ytinjjaoikofkdaa.ruleAll] at C) | ((with_reducible apply wpM_lda' M 2 29 0 (bkA g1 c1 g2 c2 ns.length ls.length)); rfl; rfl; rfl; exact ⟨rfl, inf_bok.trans (congrArg some (bok_size ..).symm), _, und_bok, rfl⟩; exact whole_of rfl) | ((with_reducible apply wpM_lda' M 1 43 0 (sqs q.n q.t)); rfl; rfl; rfl; exact ⟨rfl, inf_sqs.trans (congrArg some (sqs_size ..).symm), _, und_sqs, rfl⟩; exact whole_of rfl) | (refine wpList_build 29 _ rfl rfl [] rfl _ (build_bkH _) ?_) | ((with_reducible apply wpM_sta' M 0 29 (bkV none 0 none 0 0 0)); rfl; rfl; rfl; rfl; (first | exact .inl (by assumption) | exact .inr rfl | exact .inr (by assumption)); exact ⟨rfl, inf_bok.trans (congrArg some (bkv_size ..).symm), flat_bkv _ _ _ _ _ _⟩; (simp only [entCells, List.getElem?_cons_zero, List.getElem?_cons_succ, bkv_size, bkv_size]); clear M; (try clear C); intro w9 M; simp only [List.set_cons_zero, List.set_cons_succ, entBlk, entT, List.getElem?_cons_zero, List.getElem?_cons_succ] at M; have C := M.ruleAll; simp only [Go.Proofs.Ytinjjaoikofkdaa.ruleAll] at C) | (go_at_call 47; ((with_reducible refine (HB _ M.below).mono ?_); rintro e w1 ⟨rfl, hb⟩; have hsz := M.size; (try (have G9 := G.later hb; clear G; have G := G9; clear G9)); have M9 := M.later hb; clear M; (try clear C); have M := M9; clear M9; have C := M.ruleAll; simp only [Go.Proofs.Ytinjjaoikofkdaa.ruleAll] at C)) | (go_at_call 48; ((with_reducible refine (HL _).mono ?_); rintro e w1 ⟨rfl, hb⟩; have hsz := M.size; (try (have G9 := G.later hb; clear G; have G := G9; clear G9)); have M9 := M.later hb; clear M; (try clear C); have M := M9; clear M9; have C := M.ruleAll; simp only [Go.Proofs.Ytinjjaoikofkdaa.ruleAll] at C)) | (go_at_call 49; ((with_reducible refine (HG _).mono ?_); rintro e w1 ⟨rfl, hb⟩; have hsz := M.size; (try (have G9 := G.later hb; clear G; have G := G9; clear G9)); have M9 := M.later hb; clear M; (try clear C); have M := M9; clear M9; have C := M.ruleAll; simp only [Go.Proofs.Ytinjjaoikofkdaa.ruleAll] at C)) | (go_at_call 50; ((with_reducible refine (HN _).mono ?_); rintro e w1 ⟨rfl, hb⟩; have hsz := M.size; (try (have G9 := G.later hb; clear G; have G := G9; clear G9)); have M9 := M.later hb; clear M; (try clear C); have M := M9; clear M9; have C := M.ruleAll; simp only [Go.Proofs.Ytinjjaoikofkdaa.ruleAll] at C)))
        refine bodyPost_ret (v := .tuple #[.agg (bkV none 0 none 0 0 0), .int .i64 2]) (by exact results_part2 rfl _ _ _ _ (bkV none 0 none 0 0 0) _ rfl und_bok rfl inf_bok (cells_of_blk0 (M.box 0 rfl)) _ rfl) rfl ?_
        unfold BkNew
        rw [HR.out.1, HR.out.2.1, HR.out.2.2]
        exact ⟨none, 0, none, 0, rfl, ((Mm.start no w).later M.below |>.nilRow w.heap.size 43 101).nilRow w.heap.size 9 1⟩
      · cases hb3 : nameB s with
        | false =>
          have HR := Hid2.mk (keep_2 hb1 hb2 (.inr hb3))
          simp only [hb3] at HN
          clear h h1 hq hb1 hb2 hb3 HX HY HC1 HC2
          go_enter Try.func16, Try.ntmps16
          go_wp2_with (first | ((with_reducible apply wpM_box' M 29 (bkA g1 c1 g2 c2 ns.length ls.length)); rfl; exact ⟨rfl, rfl⟩; clear M; (try clear C); intro bb w9 h_bb M; have C := M.ruleAll; simp only [Go.Proofs.Ytinjjaoikofkdaa.ruleAll] at C) | ((with_reducible apply wpM_box' M 43 (sqs q.n q.t)); rfl; exact ⟨rfl, rfl⟩; clear M; (try clear C); intro bq w9 h_bq M; have C := M.ruleAll; simp only [Go.Proofs.Ytinjjaoikofkdaa.ruleAll] at C) | ((with_reducible apply wpM_alloc' M 29 (bkV none 0 none 0 0 0)); rfl; exact ⟨rfl, _, zero_bkH _, rfl⟩; clear M; (try clear C); intro b6 w9 h_b6 M; have C := M.ruleAll; simp only [Go.Proofs.Ytinjjaoikofkdaa.ruleAll] at C) | ((with_reducible apply wpM_lda' M 2 29 0 (bkA g1 c1 g2 c2 ns.length ls.length)); rfl; rfl; rfl; exact ⟨rfl, inf_bok.trans (congrArg some (bok_size ..).symm), _, und_bok, rfl⟩; exact whole_of rfl) | ((with_reducible apply wpM_lda' M 1 43 0 (sqs q.n q.t)); rfl; rfl; rfl; exact ⟨rfl, inf_sqs.trans (congrArg some (sqs_size ..).symm), _, und_sqs, rfl⟩; exact whole_of rfl) | (refine wpList_build 29 _ rfl rfl [] rfl _ (build_bkH _) ?_) | ((with_reducible apply wpM_sta' M 0 29 (bkV none 0 none 0 0 0)); rfl; rfl; rfl; rfl; (first | exact .inl (by assumption) | exact .inr rfl | exact .inr (by assumption)); exact ⟨rfl, inf_bok.trans (congrArg some (bkv_size ..).symm), flat_bkv _ _ _ _ _ _⟩; (simp only [entCells, List.getElem?_cons_zero, List.getElem?_cons_succ, bkv_size, bkv_size]); clear M; (try clear C); intro w9 M; simp only [List.set_cons_zero, List.set_cons_succ, entBlk, entT, List.getElem?_cons_zero, List.getElem?_cons_succ] at M; have C := M.ruleAll; simp only [Go.Proofs.Ytinjjaoikofkdaa.ruleAll] at C) | (go_at_call 47; ((with_reducible refine (HB _ M.below).mono ?_); rintro e w1 ⟨rfl, hb⟩; have hsz := M.size; (try (have G9 := G.later hb; clear G; have G := G9; clear G9)); have M9 := M.later hb; clear M; (try clear C); have M := M9; clear M9; have C := M.ruleAll; simp only [Go.Proofs.Ytinjjaoikofkdaa.ruleAll] at C)) | (go_at_call 48; ((with_reducible refine (HL _).mono ?_); rintro e w1 ⟨rfl, hb⟩; have hsz := M.size; (try (have G9 := G.later hb; clear G; have G := G9; clear G9)); have M9 := M.later hb; clear M; (try clear C); have M := M9; clear M9; have C := M.ruleAll; simp only [Go.Proofs.Ytinjjaoikofkdaa.ruleAll] at C)) | (go_at_call 49; ((with_reducible refine (HG _).mono ?_); rintro e w1 ⟨rfl, hb⟩; have hsz := M.size; (try (have G9 := G.later hb; clear G; have G := G9; clear G9)); have M9 := M.later hb; clear M; (try clear C); have M := M9; clear M9; have C := M.ruleAll; simp only [Go.Proofs.Ytinjjaoikofkdaa.ruleAll] at C)) | (go_at_call 50; ((with_reducible refine (HN _).mono ?_); rintro e w1 ⟨rfl, hb⟩; have hsz := M.size; (try (have G9 := G.later hb; clear G; have G := G9; clear G9)); have M9 := M.later hb; clear M; (try clear C); have M := M9; clear M9; have C := M.ruleAll; simp only [Go.Proofs.Ytinjjaoikofkdaa.ruleAll] at C)))
          refine bodyPost_ret (v := .tuple #[.agg (bkV none 0 none 0 0 0), .int .i64 2]) (by exact results_part2 rfl _ _ _ _ (bkV none 0 none 0 0 0) _ rfl und_bok rfl inf_bok (cells_of_blk0 (M.box 0 rfl)) _ rfl) rfl ?_
          unfold BkNew
          rw [HR.out.1, HR.out.2.1, HR.out.2.2]
          exact ⟨none, 0, none, 0, rfl, ((Mm.start no w).later M.below |>.nilRow w.heap.size 43 101).nilRow w.heap.size 9 1⟩
        | true =>
          simp only [hb3] at HN
          cases hb5 : ns.any fun x => s.toList == x.toList with
          | true =>
            have HR := Hid2.mk (keep_5 hb1 hb2 hb4 hb3 (.inl hb5))
            simp only [hb5] at HX
            clear h h1 hq hb1 hb2 hb3 hb5 HY HC1 HC2
            go_enter Try.func16, Try.ntmps16
            go_wp2_with (first | ((with_reducible apply wpM_box' M 29 (bkA g1 c1 g2 c2 ns.length ls.length)); rfl; exact ⟨rfl, rfl⟩; clear M; (try clear C); intro bb w9 h_bb M; have C := M.ruleAll; simp only [Go.Proofs.Ytinjjaoikofkdaa.ruleAll] at C) | ((with_reducible apply wpM_box' M 43 (sqs q.n q.t)); rfl; exact ⟨rfl, rfl⟩; clear M; (try clear C); intro bq w9 h_bq M; have C := M.ruleAll; simp only [Go.Proofs.Ytinjjaoikofkdaa.ruleAll] at C) | ((with_reducible apply wpM_alloc' M 29 (bkV none 0 none 0 0 0)); rfl; exact ⟨rfl, _, zero_bkH _, rfl⟩; clear M; (try clear C); intro b6 w9 h_b6 M; have C := M.ruleAll; simp only [Go.Proofs.Ytinjjaoikofkdaa.ruleAll] at C) | ((with_reducible apply wpM_lda' M 2 29 0 (bkA g1 c1 g2 c2 ns.length ls.length)); rfl; rfl; rfl; exact ⟨rfl, inf_bok.trans (congrArg some (bok_size ..).symm), _, und_bok, rfl⟩; exact whole_of rfl) | ((with_reducible apply wpM_lda' M 1 43 0 (sqs q.n q.t)); rfl; rfl; rfl; exact ⟨rfl, inf_sqs.trans (congrArg some (sqs_size ..).symm), _, und_sqs, rfl⟩; exact whole_of rfl) | (refine wpList_build 29 _ rfl rfl [] rfl _ (build_bkH _) ?_) | ((with_reducible apply wpM_sta' M 0 29 (bkV none 0 none 0 0 0)); rfl; rfl; rfl; rfl; (first | exact .inl (by assumption) | exact .inr rfl | exact .inr (by assumption)); exact ⟨rfl, inf_bok.trans (congrArg some (bkv_size ..).symm), flat_bkv _ _ _ _ _ _⟩; (simp only [entCells, List.getElem?_cons_zero, List.getElem?_cons_succ, bkv_size, bkv_size]); clear M; (try clear C); intro w9 M; simp only [List.set_cons_zero, List.set_cons_succ, entBlk, entT, List.getElem?_cons_zero, List.getElem?_cons_succ] at M; have C := M.ruleAll; simp only [Go.Proofs.Ytinjjaoikofkdaa.ruleAll] at C) | (go_at_call 47; ((with_reducible refine (HB _ M.below).mono ?_); rintro e w1 ⟨rfl, hb⟩; have hsz := M.size; (try (have G9 := G.later hb; clear G; have G := G9; clear G9)); have M9 := M.later hb; clear M; (try clear C); have M := M9; clear M9; have C := M.ruleAll; simp only [Go.Proofs.Ytinjjaoikofkdaa.ruleAll] at C)) | (go_at_call 48; ((with_reducible refine (HL _).mono ?_); rintro e w1 ⟨rfl, hb⟩; have hsz := M.size; (try (have G9 := G.later hb; clear G; have G := G9; clear G9)); have M9 := M.later hb; clear M; (try clear C); have M := M9; clear M9; have C := M.ruleAll; simp only [Go.Proofs.Ytinjjaoikofkdaa.ruleAll] at C)) | (go_at_call 49; ((with_reducible refine (HG _).mono ?_); rintro e w1 ⟨rfl, hb⟩; have hsz := M.size; (try (have G9 := G.later hb; clear G; have G := G9; clear G9)); have M9 := M.later hb; clear M; (try clear C); have M := M9; clear M9; have C := M.ruleAll; simp only [Go.Proofs.Ytinjjaoikofkdaa.ruleAll] at C)) | (go_at_call 50; ((with_reducible refine (HN _).mono ?_); rintro e w1 ⟨rfl, hb⟩; have hsz := M.size; (try (have G9 := G.later hb; clear G; have G := G9; clear G9)); have M9 := M.later hb; clear M; (try clear C); have M := M9; clear M9; have C := M.ruleAll; simp only [Go.Proofs.Ytinjjaoikofkdaa.ruleAll] at C)) | (go_at_call 51; ((with_reducible refine (HX _ M.below).mono ?_); rintro e w1 ⟨rfl, hb⟩; have hsz := M.size; (try (have G9 := G.later hb; clear G; have G := G9; clear G9)); have M9 := M.later hb; clear M; (try clear C); have M := M9; clear M9; have C := M.ruleAll; simp only [Go.Proofs.Ytinjjaoikofkdaa.ruleAll] at C)))
            refine bodyPost_ret (v := .tuple #[.agg (bkV none 0 none 0 0 0), .int .i64 5]) (by exact results_part2 rfl _ _ _ _ (bkV none 0 none 0 0 0) _ rfl und_bok rfl inf_bok (cells_of_blk0 (M.box 0 rfl)) _ rfl) rfl ?_
            unfold BkNew
            rw [HR.out.1, HR.out.2.1, HR.out.2.2]
            exact ⟨none, 0, none, 0, rfl, ((Mm.start no w).later M.below |>.nilRow w.heap.size 43 101).nilRow w.heap.size 9 1⟩
          | false =>
            simp only [hb5] at HX
            cases hb6 : ls.any (alkB q) with
            | true =>
              have HR := Hid2.mk (keep_5 hb1 hb2 hb4 hb3 (.inr hb6))
              simp only [hb6] at HY
              clear h h1 hq hb1 hb2 hb3 hb5 hb6 HC1 HC2
              go_enter Try.func16, Try.ntmps16
              go_wp2_with (first | ((with_reducible apply wpM_box' M 29 (bkA g1 c1 g2 c2 ns.length ls.length)); rfl; exact ⟨rfl, rfl⟩; clear M; (try clear C); intro bb w9 h_bb M; have C := M.ruleAll; simp only [Go.Proofs.Ytinjjaoikofkdaa.ruleAll] at C) | ((with_reducible apply wpM_box' M 43 (sqs q.n q.t)); rfl; exact ⟨rfl, rfl⟩; clear M; (try clear C); intro bq w9 h_bq M; have C := M.ruleAll; simp only [Go.Proofs.Ytinjjaoikofkdaa.ruleAll] at C) | ((with_reducible apply wpM_alloc' M 29 (bkV none 0 none 0 0 0)); rfl; exact ⟨rfl, _, zero_bkH _, rfl⟩; clear M; (try clear C); intro b6 w9 h_b6 M; have C := M.ruleAll; simp only [Go.Proofs.Ytinjjaoikofkdaa.ruleAll] at C) | ((with_reducible apply wpM_lda' M 2 29 0 (bkA g1 c1 g2 c2 ns.length ls.length)); rfl; rfl; rfl; exact ⟨rfl, inf_bok.trans (congrArg some (bok_size ..).symm), _, und_bok, rfl⟩; exact whole_of rfl) | ((with_reducible apply wpM_lda' M 1 43 0 (sqs q.n q.t)); rfl; rfl; rfl; exact ⟨rfl, inf_sqs.trans (congrArg some (sqs_size ..).symm), _, und_sqs, rfl⟩; exact whole_of rfl) | (refine wpList_build 29 _ rfl rfl [] rfl _ (build_bkH _) ?_) | ((with_reducible apply wpM_sta' M 0 29 (bkV none 0 none 0 0 0)); rfl; rfl; rfl; rfl; (first | exact .inl (by assumption) | exact .inr rfl | exact .inr (by assumption)); exact ⟨rfl, inf_bok.trans (congrArg some (bkv_size ..).symm), flat_bkv _ _ _ _ _ _⟩; (simp only [entCells, List.getElem?_cons_zero, List.getElem?_cons_succ, bkv_size, bkv_size]); clear M; (try clear C); intro w9 M; simp only [List.set_cons_zero, List.set_cons_succ, entBlk, entT, List.getElem?_cons_zero, List.getElem?_cons_succ] at M; have C := M.ruleAll; simp only [Go.Proofs.Ytinjjaoikofkdaa.ruleAll] at C) | (go_at_call 47; ((with_reducible refine (HB _ M.below).mono ?_); rintro e w1 ⟨rfl, hb⟩; have hsz := M.size; (try (have G9 := G.later hb; clear G; have G := G9; clear G9)); have M9 := M.later hb; clear M; (try clear C); have M := M9; clear M9; have C := M.ruleAll; simp only [Go.Proofs.Ytinjjaoikofkdaa.ruleAll] at C)) | (go_at_call 48; ((with_reducible refine (HL _).mono ?_); rintro e w1 ⟨rfl, hb⟩; have hsz := M.size; (try (have G9 := G.later hb; clear G; have G := G9; clear G9)); have M9 := M.later hb; clear M; (try clear C); have M := M9; clear M9; have C := M.ruleAll; simp only [Go.Proofs.Ytinjjaoikofkdaa.ruleAll] at C)) | (go_at_call 49; ((with_reducible refine (HG _).mono ?_); rintro e w1 ⟨rfl, hb⟩; have hsz := M.size; (try (have G9 := G.later hb; clear G; have G := G9; clear G9)); have M9 := M.later hb; clear M; (try clear C); have M := M9; clear M9; have C := M.ruleAll; simp only [Go.Proofs.Ytinjjaoikofkdaa.ruleAll] at C)) | (go_at_call 50; ((with_reducible refine (HN _).mono ?_); rintro e w1 ⟨rfl, hb⟩; have hsz := M.size; (try (have G9 := G.later hb; clear G; have G := G9; clear G9)); have M9 := M.later hb; clear M; (try clear C); have M := M9; clear M9; have C := M.ruleAll; simp only [Go.Proofs.Ytinjjaoikofkdaa.ruleAll] at C)) | (go_at_call 51; ((with_reducible refine (HX _ M.below).mono ?_); rintro e w1 ⟨rfl, hb⟩; have hsz := M.size; (try (have G9 := G.later hb; clear G; have G := G9; clear G9)); have M9 := M.later hb; clear M; (try clear C); have M := M9; clear M9; have C := M.ruleAll; simp only [Go.Proofs.Ytinjjaoikofkdaa.ruleAll] at C)) | (go_at_call 52; ((with_reducible refine (HY _ _ M.below (M.box 1 rfl)).mono ?_); rintro e w1 ⟨rfl, hb⟩; have hsz := M.size; (try (have G9 := G.later hb; clear G; have G := G9; clear G9)); have M9 := M.later hb; clear M; (try clear C); have M := M9; clear M9; have C := M.ruleAll; simp only [Go.Proofs.Ytinjjaoikofkdaa.ruleAll] at C)))
              refine bodyPost_ret (v := .tuple #[.agg (bkV none 0 none 0 0 0), .int .i64 5]) (by exact results_part2 rfl _ _ _ _ (bkV none 0 none 0 0 0) _ rfl und_bok rfl inf_bok (cells_of_blk0 (M.box 0 rfl)) _ rfl) rfl ?_
              unfold BkNew
              rw [HR.out.1, HR.out.2.1, HR.out.2.2]
              exact ⟨none, 0, none, 0, rfl, ((Mm.start no w).later M.below |>.nilRow w.heap.size 43 101).nilRow w.heap.size 9 1⟩
            | false =>
              simp only [hb6] at HY
              have HR4 := keep_4 hb1 hb2 hb4 hb3 hb5 hb6
              by_cases hb7 : ns.length = 20
              · have HR := Hid2.mk (keep_3 HR4 hb7)
                have hb8 : ((ns.length : Int) == 20) = true := by rw [hb7]; rfl
                clear h h1 hq hb1 hb2 hb3 hb5 hb6 HR4 hb7 HC1 HC2
                go_enter Try.func16, Try.ntmps16
                go_wp2_with (first | ((with_reducible apply wpM_box' M 29 (bkA g1 c1 g2 c2 ns.length ls.length)); rfl; exact ⟨rfl, rfl⟩; clear M; (try clear C); intro bb w9 h_bb M; have C := M.ruleAll; simp only [Go.Proofs.Ytinjjaoikofkdaa.ruleAll] at C) | ((with_reducible apply wpM_box' M 43 (sqs q.n q.t)); rfl; exact ⟨rfl, rfl⟩; clear M; (try clear C); intro bq w9 h_bq M; have C := M.ruleAll; simp only [Go.Proofs.Ytinjjaoikofkdaa.ruleAll] at C) | ((with_reducible apply wpM_alloc' M 29 (bkV none 0 none 0 0 0)); rfl; exact ⟨rfl, _, zero_bkH _, rfl⟩; clear M; (try clear C); intro b6 w9 h_b6 M; have C := M.ruleAll; simp only [Go.Proofs.Ytinjjaoikofkdaa.ruleAll] at C) | ((with_reducible apply wpM_lda' M 2 29 0 (bkA g1 c1 g2 c2 ns.length ls.length)); rfl; rfl; rfl; exact ⟨rfl, inf_bok.trans (congrArg some (bok_size ..).symm), _, und_bok, rfl⟩; exact whole_of rfl) | ((with_reducible apply wpM_lda' M 1 43 0 (sqs q.n q.t)); rfl; rfl; rfl; exact ⟨rfl, inf_sqs.trans (congrArg some (sqs_size ..).symm), _, und_sqs, rfl⟩; exact whole_of rfl) | (refine wpList_build 29 _ rfl rfl [] rfl _ (build_bkH _) ?_) | ((with_reducible apply wpM_sta' M 0 29 (bkV none 0 none 0 0 0)); rfl; rfl; rfl; rfl; (first | exact .inl (by assumption) | exact .inr rfl | exact .inr (by assumption)); exact ⟨rfl, inf_bok.trans (congrArg some (bkv_size ..).symm), flat_bkv _ _ _ _ _ _⟩; (simp only [entCells, List.getElem?_cons_zero, List.getElem?_cons_succ, bkv_size, bkv_size]); clear M; (try clear C); intro w9 M; simp only [List.set_cons_zero, List.set_cons_succ, entBlk, entT, List.getElem?_cons_zero, List.getElem?_cons_succ] at M; have C := M.ruleAll; simp only [Go.Proofs.Ytinjjaoikofkdaa.ruleAll] at C) | (go_at_call 47; ((with_reducible refine (HB _ M.below).mono ?_); rintro e w1 ⟨rfl, hb⟩; have hsz := M.size; (try (have G9 := G.later hb; clear G; have G := G9; clear G9)); have M9 := M.later hb; clear M; (try clear C); have M := M9; clear M9; have C := M.ruleAll; simp only [Go.Proofs.Ytinjjaoikofkdaa.ruleAll] at C)) | (go_at_call 48; ((with_reducible refine (HL _).mono ?_); rintro e w1 ⟨rfl, hb⟩; have hsz := M.size; (try (have G9 := G.later hb; clear G; have G := G9; clear G9)); have M9 := M.later hb; clear M; (try clear C); have M := M9; clear M9; have C := M.ruleAll; simp only [Go.Proofs.Ytinjjaoikofkdaa.ruleAll] at C)) | (go_at_call 49; ((with_reducible refine (HG _).mono ?_); rintro e w1 ⟨rfl, hb⟩; have hsz := M.size; (try (have G9 := G.later hb; clear G; have G := G9; clear G9)); have M9 := M.later hb; clear M; (try clear C); have M := M9; clear M9; have C := M.ruleAll; simp only [Go.Proofs.Ytinjjaoikofkdaa.ruleAll] at C)) | (go_at_call 50; ((with_reducible refine (HN _).mono ?_); rintro e w1 ⟨rfl, hb⟩; have hsz := M.size; (try (have G9 := G.later hb; clear G; have G := G9; clear G9)); have M9 := M.later hb; clear M; (try clear C); have M := M9; clear M9; have C := M.ruleAll; simp only [Go.Proofs.Ytinjjaoikofkdaa.ruleAll] at C)) | (go_at_call 51; ((with_reducible refine (HX _ M.below).mono ?_); rintro e w1 ⟨rfl, hb⟩; have hsz := M.size; (try (have G9 := G.later hb; clear G; have G := G9; clear G9)); have M9 := M.later hb; clear M; (try clear C); have M := M9; clear M9; have C := M.ruleAll; simp only [Go.Proofs.Ytinjjaoikofkdaa.ruleAll] at C)) | (go_at_call 52; ((with_reducible refine (HY _ _ M.below (M.box 1 rfl)).mono ?_); rintro e w1 ⟨rfl, hb⟩; have hsz := M.size; (try (have G9 := G.later hb; clear G; have G := G9; clear G9)); have M9 := M.later hb; clear M; (try clear C); have M := M9; clear M9; have C := M.ruleAll; simp only [Go.Proofs.Ytinjjaoikofkdaa.ruleAll] at C)))
                refine bodyPost_ret (v := .tuple #[.agg (bkV none 0 none 0 0 0), .int .i64 3]) (by exact results_part2 rfl _ _ _ _ (bkV none 0 none 0 0 0) _ rfl und_bok rfl inf_bok (cells_of_blk0 (M.box 0 rfl)) _ rfl) rfl ?_
                unfold BkNew
                rw [HR.out.1, HR.out.2.1, HR.out.2.2]
                exact ⟨none, 0, none, 0, rfl, ((Mm.start no w).later M.below |>.nilRow w.heap.size 43 101).nilRow w.heap.size 9 1⟩
              · have HR := Hid2.mk (keep_0 HR4 hb7)
                have hb8 : ((ns.length : Int) == 20) = false := by rw [beq_eq_false_iff_ne]; omega
                have hb9 : ¬ (ns.length : Int) = 20 := by omega
                clear h h1 hq hb1 hb2 hb3 hb5 hb6 HR4 hb7
                go_enter Try.func16, Try.ntmps16
                go_wp2_with (first | ((with_reducible apply wpM_box' M 29 (bkA g1 c1 g2 c2 ns.length ls.length)); rfl; exact ⟨rfl, rfl⟩; clear M; (try clear C); intro bb w9 h_bb M; have C := M.ruleAll; simp only [Go.Proofs.Ytinjjaoikofkdaa.ruleAll] at C) | ((with_reducible apply wpM_box' M 43 (sqs q.n q.t)); rfl; exact ⟨rfl, rfl⟩; clear M; (try clear C); intro bq w9 h_bq M; have C := M.ruleAll; simp only [Go.Proofs.Ytinjjaoikofkdaa.ruleAll] at C) | ((with_reducible apply wpM_alloc' M 29 (bkV none 0 none 0 0 0)); rfl; exact ⟨rfl, _, zero_bkH _, rfl⟩; clear M; (try clear C); intro b6 w9 h_b6 M; have C := M.ruleAll; simp only [Go.Proofs.Ytinjjaoikofkdaa.ruleAll] at C) | ((with_reducible apply wpM_lda' M 2 29 0 (bkA g1 c1 g2 c2 ns.length ls.length)); rfl; rfl; rfl; exact ⟨rfl, inf_bok.trans (congrArg some (bok_size ..).symm), _, und_bok, rfl⟩; exact whole_of rfl) | ((with_reducible apply wpM_lda' M 1 43 0 (sqs q.n q.t)); rfl; rfl; rfl; exact ⟨rfl, inf_sqs.trans (congrArg some (sqs_size ..).symm), _, und_sqs, rfl⟩; exact whole_of rfl) | (refine wpList_build 29 _ rfl rfl [] rfl _ (build_bkH _) ?_) | ((with_reducible apply wpM_sta' M 0 29 (bkV none 0 none 0 0 0)); rfl; rfl; rfl; rfl; (first | exact .inl (by assumption) | exact .inr rfl | exact .inr (by assumption)); exact ⟨rfl, inf_bok.trans (congrArg some (bkv_size ..).symm), flat_bkv _ _ _ _ _ _⟩; (simp only [entCells, List.getElem?_cons_zero, List.getElem?_cons_succ, bkv_size, bkv_size]); clear M; (try clear C); intro w9 M; simp only [List.set_cons_zero, List.set_cons_succ, entBlk, entT, List.getElem?_cons_zero, List.getElem?_cons_succ] at M; have C := M.ruleAll; simp only [Go.Proofs.Ytinjjaoikofkdaa.ruleAll] at C) | (go_at_call 47; ((with_reducible refine (HB _ M.below).mono ?_); rintro e w1 ⟨rfl, hb⟩; have hsz := M.size; (try (have G9 := G.later hb; clear G; have G := G9; clear G9)); have M9 := M.later hb; clear M; (try clear C); have M := M9; clear M9; have C := M.ruleAll; simp only [Go.Proofs.Ytinjjaoikofkdaa.ruleAll] at C)) | (go_at_call 48; ((with_reducible refine (HL _).mono ?_); rintro e w1 ⟨rfl, hb⟩; have hsz := M.size; (try (have G9 := G.later hb; clear G; have G := G9; clear G9)); have M9 := M.later hb; clear M; (try clear C); have M := M9; clear M9; have C := M.ruleAll; simp only [Go.Proofs.Ytinjjaoikofkdaa.ruleAll] at C)) | (go_at_call 49; ((with_reducible refine (HG _).mono ?_); rintro e w1 ⟨rfl, hb⟩; have hsz := M.size; (try (have G9 := G.later hb; clear G; have G := G9; clear G9)); have M9 := M.later hb; clear M; (try clear C); have M := M9; clear M9; have C := M.ruleAll; simp only [Go.Proofs.Ytinjjaoikofkdaa.ruleAll] at C)) | (go_at_call 50; ((with_reducible refine (HN _).mono ?_); rintro e w1 ⟨rfl, hb⟩; have hsz := M.size; (try (have G9 := G.later hb; clear G; have G := G9; clear G9)); have M9 := M.later hb; clear M; (try clear C); have M := M9; clear M9; have C := M.ruleAll; simp only [Go.Proofs.Ytinjjaoikofkdaa.ruleAll] at C)) | (go_at_call 51; ((with_reducible refine (HX _ M.below).mono ?_); rintro e w1 ⟨rfl, hb⟩; have hsz := M.size; (try (have G9 := G.later hb; clear G; have G := G9; clear G9)); have M9 := M.later hb; clear M; (try clear C); have M := M9; clear M9; have C := M.ruleAll; simp only [Go.Proofs.Ytinjjaoikofkdaa.ruleAll] at C)) | (go_at_call 52; ((with_reducible refine (HY _ _ M.below (M.box 1 rfl)).mono ?_); rintro e w1 ⟨rfl, hb⟩; have hsz := M.size; (try (have G9 := G.later hb; clear G; have G := G9; clear G9)); have M9 := M.later hb; clear M; (try clear C); have M := M9; clear M9; have C := M.ruleAll; simp only [Go.Proofs.Ytinjjaoikofkdaa.ruleAll] at C)))
                clear HB HL HG HN HX HY
                refine wp_region_ownN 12 (GrS 12 (kpP ns ls s q g1 c1 g2 c2 bb w.heap.size) kpR w [.box b6 (bkV none 0 none 0 0 0) 29, .box bq (sqs q.n q.t) 43, .box bb (bkA g1 c1 g2 c2 ns.length ls.length) 29]) (fun k g wr => ∃ p1 d1 p2 d2, (k = 12 ∧ g 5 = .slice p1 (ns.length + 1) d1 ∧ g 11 = .slice p2 (ls.length + 1) d2 ∧ Mm no w wr [.row w.heap.size (.slice p1 (ns.length + 1) d1) (ns.length + 1) (nmR ns ++ [Value.string s]) 9 1, .row w.heap.size (.slice p2 (ls.length + 1) d2) (ls.length + 1) (slC ls ++ (sqs q.n q.t).toList) 43 101, .box b6 (bkV none 0 none 0 0 0) 29, .box bq (sqs q.n q.t) 43, .box bb (bkA g1 c1 g2 c2 ns.length ls.length) 29]) ∨ (k = 13 ∧ g 12 = .agg (bkV p1 d1 p2 d2 (ns.length + 1) (ls.length + 1)) ∧ Mm no w wr [.row w.heap.size (.slice p1 (ns.length + 1) d1) (ns.length + 1) (nmR ns ++ [Value.string s]) 9 1, .row w.heap.size (.slice p2 (ls.length + 1) d2) (ls.length + 1) (slC ls ++ (sqs q.n q.t).toList) 43 101, .box b6 (bkV none 0 none 0 0 0) 29, .box bq (sqs q.n q.t) 43, .box bb (bkA g1 c1 g2 c2 ns.length ls.length) 29]) ∨ (k = 14 ∧ Mm no w wr [.row w.heap.size (.slice p1 (ns.length + 1) d1) (ns.length + 1) (nmR ns ++ [Value.string s]) 9 1, .row w.heap.size (.slice p2 (ls.length + 1) d2) (ls.length + 1) (slC ls ++ (sqs q.n q.t).toList) 43 101, .box b6 (bkV p1 d1 p2 d2 (ns.length + 1) (ls.length + 1)) 29, .box bq (sqs q.n q.t) 43, .box bb (bkA g1 c1 g2 c2 ns.length ls.length) 29]) ∨ (k = 15 ∧ g 14 = .int .i64 0 ∧ Mm no w wr [.row w.heap.size (.slice p1 (ns.length + 1) d1) (ns.length + 1) (nmR ns ++ [Value.string s]) 9 1, .row w.heap.size (.slice p2 (ls.length + 1) d2) (ls.length + 1) (slC ls ++ (sqs q.n q.t).toList) 43 101, .box b6 (bkV p1 d1 p2 d2 (ns.length + 1) (ls.length + 1)) 29, .box bq (sqs q.n q.t) 43, .box bb (bkA g1 c1 g2 c2 ns.length ls.length) 29])) (by kernel_rfl) (by kernel_rfl) (by kernel_rfl) (by decide) (GrS.start (M.sub [0, 1, 2] (by decide)) _) ?hstep ?hfirst ?htail ?hQ
                case hstep =>
                  clear M
                  try clear C
                  intro i o hlt hi D g w2 hi0 hpre S
                  obtain rfl | rfl | rfl | rfl | rfl | rfl | rfl | rfl | rfl | rfl | rfl | rfl : i = 0 ∨ i = 1 ∨ i = 2 ∨ i = 3 ∨ i = 4 ∨ i = 5 ∨ i = 6 ∨ i = 7 ∨ i = 8 ∨ i = 9 ∨ i = 10 ∨ i = 11 := by omega
                  · simp only [List.getElem?_cons_succ, List.getElem?_cons_zero, Option.some.injEq] at hi
                    subst hi
                    have M := S.base
                    have HR : ∀ j ∈ kpR 0, D j = true := (fun _ h => by cases h)
                    have HW : ∀ j, D j = true → 0 ∉ kpW j := fun j _ h => by
                      unfold kpW at h
                      (repeat' split at h) <;> simp at h
                    have hst := kpS ns ls s q g1 c1 g2 c2 bb w.heap.size
                    refine ⟨⟨#[undef, undef, undef, .pointer (some ⟨bb, 0, none⟩), undef, undef, undef, undef, undef, undef, undef, undef, undef, undef, undef, undef, undef, undef, undef, undef, undef, undef, undef, undef, undef, undef, undef, undef, undef, undef, undef, undef, undef, undef, undef, undef, undef, undef, undef, undef, undef, undef, undef, undef, undef, undef, undef, undef, undef, undef, undef, undef, undef, undef, undef, undef, undef, undef], []⟩, ?_, ?_⟩
                    · intro t ht
                      have ht' : t ∈ ([3] : List Nat) := ht
                      simp only [List.mem_cons, List.not_mem_nil, or_false] at ht'
                      subst ht'
                      exact rfl
                    · skip
                      have C := M.ruleAll; simp only [Go.Proofs.Ytinjjaoikofkdaa.ruleAll] at C
                      refine yield_walk (ops := #[]) rfl rfl (show 45 < 58 by decide) ?_
                      go_wp2
                      exact S.val (i := 0) hst (by decide) hi0 HR HW (Below.refl _ _) ⟨updG_at .., rfl⟩
                  · simp only [List.getElem?_cons_succ, List.getElem?_cons_zero, Option.some.injEq] at hi
                    subst hi
                    have d0 : D 0 = true := hpre _ (Array.mem_of_getElem? (i := 0) rfl) rfl
                    obtain ⟨E, P, M⟩ := S.get [0] (by decide) (by intro j hj; simp only [List.mem_cons, List.not_mem_nil, or_false] at hj; subst hj <;> assumption)
                    obtain ⟨e0, E0⟩ : g 0 = .pointer (some ⟨bb, 0, none⟩) ∧ E 0 = [] := P 0 (by decide)
                    simp only [List.flatMap_cons, List.flatMap_nil, List.append_nil, E0, List.cons_append, List.nil_append] at M
                    clear P
                    have HR : ∀ j ∈ kpR 1, D j = true := (by intro j hj; have hj' : j ∈ ([0] : List Nat) := hj; simp only [List.mem_cons, List.not_mem_nil, or_false] at hj'; subst hj' <;> assumption)
                    have HW : ∀ j, D j = true → 1 ∉ kpW j := fun j _ h => by
                      unfold kpW at h
                      (repeat' split at h) <;> simp at h
                    have hst := kpS ns ls s q g1 c1 g2 c2 bb w.heap.size
                    refine ⟨⟨#[undef, undef, undef, undef, undef, undef, undef, undef, undef, undef, undef, undef, undef, undef, undef, undef, undef, undef, undef, undef, undef, undef, undef, undef, undef, undef, undef, undef, undef, undef, undef, undef, undef, undef, undef, undef, undef, undef, undef, undef, undef, undef, undef, undef, undef, .pointer (some ⟨bb, 0, none⟩), undef, undef, undef, undef, undef, undef, undef, undef, undef, undef, undef, undef], []⟩, ?_, ?_⟩
                    · intro t ht
                      have ht' : t ∈ ([45] : List Nat) := ht
                      simp only [List.mem_cons, List.not_mem_nil, or_false] at ht'
                      subst ht'
                      exact e0.symm
                    · skip
                      have C := M.ruleAll; simp only [Go.Proofs.Ytinjjaoikofkdaa.ruleAll] at C
                      refine yield_walk (ops := #[]) rfl rfl (show 46 < 58 by decide) ?_
                      go_wp2
                      exact S.val (i := 1) hst (by decide) hi0 HR HW (Below.refl _ _) ⟨updG_at .., rfl⟩
                  · simp only [List.getElem?_cons_succ, List.getElem?_cons_zero, Option.some.injEq] at hi
                    subst hi
                    have d1 : D 1 = true := hpre _ (Array.mem_of_getElem? (i := 0) rfl) rfl
                    have d0 : D 0 = true := S.anc 1 d1 0 (show 0 ∈ kpR 1 by decide)
                    obtain ⟨E, P, M⟩ := S.get [1] (by decide) (by intro j hj; simp only [List.mem_cons, List.not_mem_nil, or_false] at hj; subst hj <;> assumption)
                    obtain ⟨e1, E1⟩ : g 1 = .slice (some ⟨g1, 0, none⟩) ns.length c1 ∧ E 1 = [] := P 1 (by decide)
                    simp only [List.flatMap_cons, List.flatMap_nil, List.append_nil, E1, List.cons_append, List.nil_append] at M
                    clear P
                    have HR : ∀ j ∈ kpR 2, D j = true := (by intro j hj; have hj' : j ∈ ([0, 1] : List Nat) := hj; simp only [List.mem_cons, List.not_mem_nil, or_false] at hj'; rcases hj' with rfl | rfl <;> assumption)
                    have HW : ∀ j, D j = true → 2 ∉ kpW j := fun j _ h => by
                      unfold kpW at h
                      (repeat' split at h) <;> simp at h
                    have hst := kpS ns ls s q g1 c1 g2 c2 bb w.heap.size
                    refine ⟨⟨#[undef, undef, undef, undef, undef, undef, undef, undef, undef, undef, undef, undef, undef, undef, undef, undef, undef, undef, undef, undef, undef, undef, undef, undef, undef, undef, undef, undef, undef, undef, undef, undef, undef, undef, undef, undef, undef, undef, undef, undef, undef, undef, undef, undef, undef, undef, .slice (some ⟨g1, 0, none⟩) ns.length c1, undef, undef, undef, undef, undef, undef, undef, undef, undef, undef, undef], []⟩, ?_, ?_⟩
                    · intro t ht
                      have ht' : t ∈ ([46] : List Nat) := ht
                      simp only [List.mem_cons, List.not_mem_nil, or_false] at ht'
                      subst ht'
                      exact e1.symm
                    · skip
                      have C := M.ruleAll; simp only [Go.Proofs.Ytinjjaoikofkdaa.ruleAll] at C
                      refine yield_walk (ops := #[]) rfl rfl (show 47 < 58 by decide) ?_
                      go_wp2_with (first | (go_at_call 33; fail))
                      refine (HC1.out _ M.below).mono ?_
                      rintro e w1 ⟨v, rfl, M'⟩
                      go_wp2
                      exact S.add (i := 2) hst (by decide) hi0 HR HW (M'.weakRow S.base.size) (new_row1 M') ⟨trivial, by rw [S.not_yet hi0 (show 2 ∈ kpR 5 by decide) (by decide), updG_at]; rfl⟩
                  · simp only [List.getElem?_cons_succ, List.getElem?_cons_zero, Option.some.injEq] at hi
                    subst hi
                    have M := S.base
                    have HR : ∀ j ∈ kpR 3, D j = true := (fun _ h => by cases h)
                    have HW : ∀ j, D j = true → 3 ∉ kpW j := fun j _ h => by
                      unfold kpW at h
                      (repeat' split at h) <;> simp at h
                    have hst := kpS ns ls s q g1 c1 g2 c2 bb w.heap.size
                    refine ⟨⟨#[undef, .string s, undef, undef, undef, undef, undef, undef, undef, undef, undef, undef, undef, undef, undef, undef, undef, undef, undef, undef, undef, undef, undef, undef, undef, undef, undef, undef, undef, undef, undef, undef, undef, undef, undef, undef, undef, undef, undef, undef, undef, undef, undef, undef, undef, undef, undef, undef, undef, undef, undef, undef, undef, undef, undef, undef, undef, undef], []⟩, ?_, ?_⟩
                    · intro t ht
                      have ht' : t ∈ ([1] : List Nat) := ht
                      simp only [List.mem_cons, List.not_mem_nil, or_false] at ht'
                      subst ht'
                      exact rfl
                    · skip
                      have C := M.ruleAll; simp only [Go.Proofs.Ytinjjaoikofkdaa.ruleAll] at C
                      refine yield_walk (ops := #[]) rfl rfl (show 48 < 58 by decide) ?_
                      go_wp2
                      exact S.val (i := 3) hst (by decide) hi0 HR HW (Below.refl _ _) ⟨updG_at .., rfl⟩
                  · simp only [List.getElem?_cons_succ, List.getElem?_cons_zero, Option.some.injEq] at hi
                    subst hi
                    have d3 : D 3 = true := hpre _ (Array.mem_of_getElem? (i := 0) rfl) rfl
                    obtain ⟨E, P, M⟩ := S.get [3] (by decide) (by intro j hj; simp only [List.mem_cons, List.not_mem_nil, or_false] at hj; subst hj <;> assumption)
                    obtain ⟨e3, E3⟩ : g 3 = .string s ∧ E 3 = [] := P 3 (by decide)
                    simp only [List.flatMap_cons, List.flatMap_nil, List.append_nil, E3, List.cons_append, List.nil_append] at M
                    clear P
                    have HR : ∀ j ∈ kpR 4, D j = true := (by intro j hj; have hj' : j ∈ ([3] : List Nat) := hj; simp only [List.mem_cons, List.not_mem_nil, or_false] at hj'; subst hj' <;> assumption)
                    have HW : ∀ j, D j = true → 4 ∉ kpW j := fun j _ h => by
                      unfold kpW at h
                      (repeat' split at h) <;> simp at h
                    have hst := kpS ns ls s q g1 c1 g2 c2 bb w.heap.size
                    refine ⟨⟨#[undef, undef, undef, undef, undef, undef, undef, undef, undef, undef, undef, undef, undef, undef, undef, undef, undef, undef, undef, undef, undef, undef, undef, undef, undef, undef, undef, undef, undef, undef, undef, undef, undef, undef, undef, undef, undef, undef, undef, undef, undef, undef, undef, undef, undef, undef, undef, undef, .string s, undef, undef, undef, undef, undef, undef, undef, undef, undef], []⟩, ?_, ?_⟩
                    · intro t ht
                      have ht' : t ∈ ([48] : List Nat) := ht
                      simp only [List.mem_cons, List.not_mem_nil, or_false] at ht'
                      subst ht'
                      exact e3.symm
                    · skip
                      clear M
                      have M := Mm.start no w2
                      have C := M.ruleAll; simp only [Go.Proofs.Ytinjjaoikofkdaa.ruleAll] at C
                      refine yield_walk (ops := #[]) rfl rfl (show 49 < 58 by decide) ?_
                      go_wp2_with (first | ((with_reducible apply wpM_bsl' M 22 1 9 ([(0, .string s)]) (#[.string s])); rfl; rfl; rfl; exact bsl_J1 _; clear M; (try clear C); intro bi w9 h_bi M; have C := M.ruleAll; simp only [Go.Proofs.Ytinjjaoikofkdaa.ruleAll] at C))
                      exact S.add (i := 4) hst (by decide) hi0 HR HW M (new_box h_bi) ⟨bi, updG_at .., rfl⟩
                  · simp only [List.getElem?_cons_succ, List.getElem?_cons_zero, Option.some.injEq] at hi
                    subst hi
                    have d2 : D 2 = true := hpre _ (Array.mem_of_getElem? (i := 0) rfl) rfl
                    have d4 : D 4 = true := hpre _ (Array.mem_of_getElem? (i := 1) rfl) rfl
                    have d3 : D 3 = true := S.anc 4 d4 3 (show 3 ∈ kpR 4 by decide)
                    have d0 : D 0 = true := S.anc 2 d2 0 (show 0 ∈ kpR 2 by decide)
                    have d1 : D 1 = true := S.anc 2 d2 1 (show 1 ∈ kpR 2 by decide)
                    have M := S.base
                    have HR : ∀ j ∈ kpR 5, D j = true := (by intro j hj; have hj' : j ∈ ([0, 1, 2, 3, 4] : List Nat) := hj; simp only [List.mem_cons, List.not_mem_nil, or_false] at hj'; rcases hj' with rfl | rfl | rfl | rfl | rfl <;> assumption)
                    have HW : ∀ j, D j = true → j ≠ 2 → 5 ∉ kpW j := fun j _ hne h => by
                      unfold kpW at h
                      (repeat' split at h) <;> first | contradiction | simp at h
                    have hst := kpS ns ls s q g1 c1 g2 c2 bb w.heap.size
                    try clear M
                    obtain ⟨E', X, P, M, FIN⟩ := S.writeK (i := 5) (t := 2) hst (by decide) hi0 HR HW d2 [4] (by decide) (by intro j hj; simp only [List.mem_cons, List.not_mem_nil, or_false] at hj; subst hj <;> assumption)
                    obtain ⟨e2, E2⟩ : True ∧ E' 2 = [.row w.heap.size (bif D 5 then g 5 else g 2) (bif D 5 then ns.length + 1 else ns.length) (bif D 5 then nmR ns ++ [Value.string s] else nmR ns) 9 1] := P 2 (by decide)
                    obtain ⟨bi, e4, E4⟩ : ∃ bi, g 4 = .slice (some ⟨bi, 0, none⟩) 1 1 ∧ E' 4 = [.box bi (#[.string s]) 9] := P 4 (by decide)
                    simp only [E2, E4, List.flatMap_cons, List.flatMap_nil, List.append_nil, List.cons_append, List.nil_append] at M
                    simp only [E4, List.flatMap_cons, List.flatMap_nil, List.append_nil, List.cons_append, List.nil_append] at FIN
                    clear P
                    refine ⟨⟨#[undef, undef, undef, undef, undef, undef, undef, undef, undef, undef, undef, undef, undef, undef, undef, undef, undef, undef, undef, undef, undef, undef, undef, undef, undef, undef, undef, undef, undef, undef, undef, undef, undef, undef, undef, undef, undef, undef, undef, undef, undef, undef, undef, undef, undef, undef, undef, g 2, undef, .slice (some ⟨bi, 0, none⟩) 1 1, undef, undef, undef, undef, undef, undef, undef, undef], []⟩, ?_, ?_⟩
                    · intro t ht
                      have ht' : t ∈ ([47, 49] : List Nat) := ht
                      simp only [List.mem_cons, List.not_mem_nil, or_false] at ht'
                      rcases ht' with rfl | rfl
                      · exact rfl
                      · exact e4.symm
                    · skip
                      have C := M.ruleAll; simp only [Go.Proofs.Ytinjjaoikofkdaa.ruleAll] at C
                      simp only [hi0, cond_false] at M
                      obtain ⟨ppx, capx, hgx⟩ := own_form (M.row 0 rfl)
                      rw [hgx] at M ⊢
                      try clear C
                      have C := M.ruleAll; simp only [Go.Proofs.Ytinjjaoikofkdaa.ruleAll] at C
                      refine yield_walk (ops := #[]) rfl rfl (show 50 < 58 by decide) ?_
                      go_wp2_with (first | ((with_reducible apply wpM_app' M 22 0 1 (w.heap.size) (.slice ppx ns.length capx) (ns.length) (nmR ns) 9 1 16); rfl; rfl; rfl; rfl; rfl; rfl; rfl; (first | exact .inl (Nat.le_refl _) | exact .inl (by assumption) | exact .inr (by assumption) | exact .inr HDv.out); (first | exact M.size | (have hq := M.size; omega)); exact und_slJ; exact inf_elJ; rfl; decide; decide; rfl; exact rfl; exact flat_J1 _; omega; clear M; (try clear C); intro v2 w9 far_v2 M; simp only [List.set_cons_zero, List.set_cons_succ, entBlk, entT, List.getElem?_cons_zero, List.getElem?_cons_succ] at M; obtain ⟨pp_v2, cap_v2, rfl⟩ := own_form (M.row 0 rfl); have C := M.ruleAll; simp only [Go.Proofs.Ytinjjaoikofkdaa.ruleAll] at C))
                      exact FIN _ _ [.row w.heap.size (.slice pp_v2 (ns.length + 1) cap_v2) (ns.length + 1) (nmR ns ++ [Value.string s]) 9 1] M ⟨trivial, by rw [updD_at, updG_at]; rfl⟩ rfl
                  · simp only [List.getElem?_cons_succ, List.getElem?_cons_zero, Option.some.injEq] at hi
                    subst hi
                    have M := S.base
                    have HR : ∀ j ∈ kpR 6, D j = true := (fun _ h => by cases h)
                    have HW : ∀ j, D j = true → 6 ∉ kpW j := fun j _ h => by
                      unfold kpW at h
                      (repeat' split at h) <;> simp at h
                    have hst := kpS ns ls s q g1 c1 g2 c2 bb w.heap.size
                    refine ⟨⟨#[undef, undef, undef, .pointer (some ⟨bb, 0, none⟩), undef, undef, undef, undef, undef, undef, undef, undef, undef, undef, undef, undef, undef, undef, undef, undef, undef, undef, undef, undef, undef, undef, undef, undef, undef, undef, undef, undef, undef, undef, undef, undef, undef, undef, undef, undef, undef, undef, undef, undef, undef, undef, undef, undef, undef, undef, undef, undef, undef, undef, undef, undef, undef, undef], []⟩, ?_, ?_⟩
                    · intro t ht
                      have ht' : t ∈ ([3] : List Nat) := ht
                      simp only [List.mem_cons, List.not_mem_nil, or_false] at ht'
                      subst ht'
                      exact rfl
                    · skip
                      have C := M.ruleAll; simp only [Go.Proofs.Ytinjjaoikofkdaa.ruleAll] at C
                      refine yield_walk (ops := #[]) rfl rfl (show 51 < 58 by decide) ?_
                      go_wp2
                      exact S.val (i := 6) hst (by decide) hi0 HR HW (Below.refl _ _) ⟨updG_at .., rfl⟩
                  · simp only [List.getElem?_cons_succ, List.getElem?_cons_zero, Option.some.injEq] at hi
                    subst hi
                    have d6 : D 6 = true := hpre _ (Array.mem_of_getElem? (i := 0) rfl) rfl
                    obtain ⟨E, P, M⟩ := S.get [6] (by decide) (by intro j hj; simp only [List.mem_cons, List.not_mem_nil, or_false] at hj; subst hj <;> assumption)
                    obtain ⟨e6, E6⟩ : g 6 = .pointer (some ⟨bb, 1, none⟩) ∧ E 6 = [] := P 6 (by decide)
                    simp only [List.flatMap_cons, List.flatMap_nil, List.append_nil, E6, List.cons_append, List.nil_append] at M
                    clear P
                    have HR : ∀ j ∈ kpR 7, D j = true := (by intro j hj; have hj' : j ∈ ([6] : List Nat) := hj; simp only [List.mem_cons, List.not_mem_nil, or_false] at hj'; subst hj' <;> assumption)
                    have HW : ∀ j, D j = true → 7 ∉ kpW j := fun j _ h => by
                      unfold kpW at h
                      (repeat' split at h) <;> simp at h
                    have hst := kpS ns ls s q g1 c1 g2 c2 bb w.heap.size
                    refine ⟨⟨#[undef, undef, undef, undef, undef, undef, undef, undef, undef, undef, undef, undef, undef, undef, undef, undef, undef, undef, undef, undef, undef, undef, undef, undef, undef, undef, undef, undef, undef, undef, undef, undef, undef, undef, undef, undef, undef, undef, undef, undef, undef, undef, undef, undef, undef, undef, undef, undef, undef, undef, undef, .pointer (some ⟨bb, 1, none⟩), undef, undef, undef, undef, undef, undef], []⟩, ?_, ?_⟩
                    · intro t ht
                      have ht' : t ∈ ([51] : List Nat) := ht
                      simp only [List.mem_cons, List.not_mem_nil, or_false] at ht'
                      subst ht'
                      exact e6.symm
                    · skip
                      have C := M.ruleAll; simp only [Go.Proofs.Ytinjjaoikofkdaa.ruleAll] at C
                      refine yield_walk (ops := #[]) rfl rfl (show 52 < 58 by decide) ?_
                      go_wp2
                      exact S.val (i := 7) hst (by decide) hi0 HR HW (Below.refl _ _) ⟨updG_at .., rfl⟩
                  · simp only [List.getElem?_cons_succ, List.getElem?_cons_zero, Option.some.injEq] at hi
                    subst hi
                    have d7 : D 7 = true := hpre _ (Array.mem_of_getElem? (i := 0) rfl) rfl
                    have d5 : D 5 = true := hpre _ (Array.mem_of_getElem? (i := 1) rfl) rfl
                    have d6 : D 6 = true := S.anc 7 d7 6 (show 6 ∈ kpR 7 by decide)
                    have d0 : D 0 = true := S.anc 5 d5 0 (show 0 ∈ kpR 5 by decide)
                    have d1 : D 1 = true := S.anc 5 d5 1 (show 1 ∈ kpR 5 by decide)
                    have d2 : D 2 = true := S.anc 5 d5 2 (show 2 ∈ kpR 5 by decide)
                    have d3 : D 3 = true := S.anc 5 d5 3 (show 3 ∈ kpR 5 by decide)
                    have d4 : D 4 = true := S.anc 5 d5 4 (show 4 ∈ kpR 5 by decide)
                    obtain ⟨E, P, M⟩ := S.get [7] (by decide) (by intro j hj; simp only [List.mem_cons, List.not_mem_nil, or_false] at hj; subst hj <;> assumption)
                    obtain ⟨e7, E7⟩ : g 7 = .slice (some ⟨g2, 0, none⟩) ls.length c2 ∧ E 7 = [] := P 7 (by decide)
                    simp only [List.flatMap_cons, List.flatMap_nil, List.append_nil, E7, List.cons_append, List.nil_append] at M
                    clear P
                    have HR : ∀ j ∈ kpR 8, D j = true := (by intro j hj; have hj' : j ∈ ([0, 1, 2, 3, 4, 5, 6, 7] : List Nat) := hj; simp only [List.mem_cons, List.not_mem_nil, or_false] at hj'; rcases hj' with rfl | rfl | rfl | rfl | rfl | rfl | rfl | rfl <;> assumption)
                    have HW : ∀ j, D j = true → 8 ∉ kpW j := fun j _ h => by
                      unfold kpW at h
                      (repeat' split at h) <;> simp at h
                    have hst := kpS ns ls s q g1 c1 g2 c2 bb w.heap.size
                    refine ⟨⟨#[undef, undef, undef, undef, undef, undef, undef, undef, undef, undef, undef, undef, undef, undef, undef, undef, undef, undef, undef, undef, undef, undef, undef, undef, undef, undef, undef, undef, undef, undef, undef, undef, undef, undef, undef, undef, undef, undef, undef, undef, undef, undef, undef, undef, undef, undef, undef, undef, undef, undef, undef, undef, .slice (some ⟨g2, 0, none⟩) ls.length c2, undef, undef, undef, undef, undef], []⟩, ?_, ?_⟩
                    · intro t ht
                      have ht' : t ∈ ([52] : List Nat) := ht
                      simp only [List.mem_cons, List.not_mem_nil, or_false] at ht'
                      subst ht'
                      exact e7.symm
                    · skip
                      have C := M.ruleAll; simp only [Go.Proofs.Ytinjjaoikofkdaa.ruleAll] at C
                      refine yield_walk (ops := #[]) rfl rfl (show 53 < 58 by decide) ?_
                      go_wp2_with (first | (go_at_call 35; fail))
                      refine (HC2.out _ M.below).mono ?_
                      rintro e w1 ⟨v, rfl, M'⟩
                      go_wp2
                      exact S.add (i := 8) hst (by decide) hi0 HR HW (M'.weakRow S.base.size) (new_row1 M') ⟨trivial, by rw [S.not_yet hi0 (show 8 ∈ kpR 11 by decide) (by decide), updG_at]; rfl⟩
                  · simp only [List.getElem?_cons_succ, List.getElem?_cons_zero, Option.some.injEq] at hi
                    subst hi
                    have M := S.base
                    have HR : ∀ j ∈ kpR 9, D j = true := (fun _ h => by cases h)
                    have HW : ∀ j, D j = true → 9 ∉ kpW j := fun j _ h => by
                      unfold kpW at h
                      (repeat' split at h) <;> simp at h
                    have hst := kpS ns ls s q g1 c1 g2 c2 bb w.heap.size
                    refine ⟨⟨#[undef, undef, undef, undef, undef, .pointer (some ⟨bq, 0, none⟩), undef, undef, undef, undef, undef, undef, undef, undef, undef, undef, undef, undef, undef, undef, undef, undef, undef, undef, undef, undef, undef, undef, undef, undef, undef, undef, undef, undef, undef, undef, undef, undef, undef, undef, undef, undef, undef, undef, undef, undef, undef, undef, undef, undef, undef, undef, undef, undef, undef, undef, undef, undef], []⟩, ?_, ?_⟩
                    · intro t ht
                      have ht' : t ∈ ([5] : List Nat) := ht
                      simp only [List.mem_cons, List.not_mem_nil, or_false] at ht'
                      subst ht'
                      exact rfl
                    · skip
                      have C := M.ruleAll; simp only [Go.Proofs.Ytinjjaoikofkdaa.ruleAll] at C
                      refine yield_walk (ops := #[]) rfl rfl (show 54 < 58 by decide) ?_
                      go_wp2_with (first | ((with_reducible apply wpM_lda' M 1 43 0 (sqs q.n q.t)); rfl; rfl; rfl; exact ⟨rfl, inf_sqs.trans (congrArg some (sqs_size ..).symm), _, und_sqs, rfl⟩; exact whole_of rfl))
                      exact S.val (i := 9) hst (by decide) hi0 HR HW (Below.refl _ _) ⟨updG_at .., rfl⟩
                  · simp only [List.getElem?_cons_succ, List.getElem?_cons_zero, Option.some.injEq] at hi
                    subst hi
                    have d9 : D 9 = true := hpre _ (Array.mem_of_getElem? (i := 0) rfl) rfl
                    obtain ⟨E, P, M⟩ := S.get [9] (by decide) (by intro j hj; simp only [List.mem_cons, List.not_mem_nil, or_false] at hj; subst hj <;> assumption)
                    obtain ⟨e9, E9⟩ : g 9 = .agg (sqs q.n q.t) ∧ E 9 = [] := P 9 (by decide)
                    simp only [List.flatMap_cons, List.flatMap_nil, List.append_nil, E9, List.cons_append, List.nil_append] at M
                    clear P
                    have HR : ∀ j ∈ kpR 10, D j = true := (by intro j hj; have hj' : j ∈ ([9] : List Nat) := hj; simp only [List.mem_cons, List.not_mem_nil, or_false] at hj'; subst hj' <;> assumption)
                    have HW : ∀ j, D j = true → 10 ∉ kpW j := fun j _ h => by
                      unfold kpW at h
                      (repeat' split at h) <;> simp at h
                    have hst := kpS ns ls s q g1 c1 g2 c2 bb w.heap.size
                    refine ⟨⟨#[undef, undef, undef, undef, undef, undef, undef, undef, undef, undef, undef, undef, undef, undef, undef, undef, undef, undef, undef, undef, undef, undef, undef, undef, undef, undef, undef, undef, undef, undef, undef, undef, undef, undef, undef, undef, undef, undef, undef, undef, undef, undef, undef, undef, undef, undef, undef, undef, undef, undef, undef, undef, undef, undef, .agg (sqs q.n q.t), undef, undef, undef], []⟩, ?_, ?_⟩
                    · intro t ht
                      have ht' : t ∈ ([54] : List Nat) := ht
                      simp only [List.mem_cons, List.not_mem_nil, or_false] at ht'
                      subst ht'
                      exact e9.symm
                    · skip
                      clear M
                      have M := Mm.start no w2
                      have C := M.ruleAll; simp only [Go.Proofs.Ytinjjaoikofkdaa.ruleAll] at C
                      refine yield_walk (ops := #[]) rfl rfl (show 55 < 58 by decide) ?_
                      go_wp2_with (first | ((with_reducible apply wpM_bsl' M 27 1 43 ([(0, .agg (sqs q.n q.t))]) (sqs q.n q.t)); rfl; rfl; rfl; exact bsl_Q1 q; clear M; (try clear C); intro bj w9 h_bj M; have C := M.ruleAll; simp only [Go.Proofs.Ytinjjaoikofkdaa.ruleAll] at C))
                      exact S.add (i := 10) hst (by decide) hi0 HR HW M (new_box h_bj) ⟨bj, updG_at .., rfl⟩
                  · simp only [List.getElem?_cons_succ, List.getElem?_cons_zero, Option.some.injEq] at hi
                    subst hi
                    have d8 : D 8 = true := hpre _ (Array.mem_of_getElem? (i := 0) rfl) rfl
                    have d10 : D 10 = true := hpre _ (Array.mem_of_getElem? (i := 1) rfl) rfl
                    have d9 : D 9 = true := S.anc 10 d10 9 (show 9 ∈ kpR 10 by decide)
                    have d0 : D 0 = true := S.anc 8 d8 0 (show 0 ∈ kpR 8 by decide)
                    have d1 : D 1 = true := S.anc 8 d8 1 (show 1 ∈ kpR 8 by decide)
                    have d2 : D 2 = true := S.anc 8 d8 2 (show 2 ∈ kpR 8 by decide)
                    have d3 : D 3 = true := S.anc 8 d8 3 (show 3 ∈ kpR 8 by decide)
                    have d4 : D 4 = true := S.anc 8 d8 4 (show 4 ∈ kpR 8 by decide)
                    have d5 : D 5 = true := S.anc 8 d8 5 (show 5 ∈ kpR 8 by decide)
                    have d6 : D 6 = true := S.anc 8 d8 6 (show 6 ∈ kpR 8 by decide)
                    have d7 : D 7 = true := S.anc 8 d8 7 (show 7 ∈ kpR 8 by decide)
                    have M := S.base
                    have HR : ∀ j ∈ kpR 11, D j = true := (by intro j hj; have hj' : j ∈ ([0, 1, 2, 3, 4, 5, 6, 7, 8, 9, 10] : List Nat) := hj; simp only [List.mem_cons, List.not_mem_nil, or_false] at hj'; rcases hj' with rfl | rfl | rfl | rfl | rfl | rfl | rfl | rfl | rfl | rfl | rfl <;> assumption)
                    have HW : ∀ j, D j = true → j ≠ 8 → 11 ∉ kpW j := fun j _ hne h => by
                      unfold kpW at h
                      (repeat' split at h) <;> first | contradiction | simp at h
                    have hst := kpS ns ls s q g1 c1 g2 c2 bb w.heap.size
                    try clear M
                    obtain ⟨E', X, P, M, FIN⟩ := S.writeK (i := 11) (t := 8) hst (by decide) hi0 HR HW d8 [10] (by decide) (by intro j hj; simp only [List.mem_cons, List.not_mem_nil, or_false] at hj; subst hj <;> assumption)
                    obtain ⟨e8, E8⟩ : True ∧ E' 8 = [.row w.heap.size (bif D 11 then g 11 else g 8) (bif D 11 then ls.length + 1 else ls.length) (bif D 11 then slC ls ++ (sqs q.n q.t).toList else slC ls) 43 101] := P 8 (by decide)
                    obtain ⟨bj, e10, E10⟩ : ∃ bj, g 10 = .slice (some ⟨bj, 0, none⟩) 1 1 ∧ E' 10 = [.box bj (sqs q.n q.t) 43] := P 10 (by decide)
                    simp only [E8, E10, List.flatMap_cons, List.flatMap_nil, List.append_nil, List.cons_append, List.nil_append] at M
                    simp only [E10, List.flatMap_cons, List.flatMap_nil, List.append_nil, List.cons_append, List.nil_append] at FIN
                    clear P
                    refine ⟨⟨#[undef, undef, undef, undef, undef, undef, undef, undef, undef, undef, undef, undef, undef, undef, undef, undef, undef, undef, undef, undef, undef, undef, undef, undef, undef, undef, undef, undef, undef, undef, undef, undef, undef, undef, undef, undef, undef, undef, undef, undef, undef, undef, undef, undef, undef, undef, undef, undef, undef, undef, undef, undef, undef, g 8, undef, .slice (some ⟨bj, 0, none⟩) 1 1, undef, undef], []⟩, ?_, ?_⟩
                    · intro t ht
                      have ht' : t ∈ ([53, 55] : List Nat) := ht
                      simp only [List.mem_cons, List.not_mem_nil, or_false] at ht'
                      rcases ht' with rfl | rfl
                      · exact rfl
                      · exact e10.symm
                    · skip
                      have C := M.ruleAll; simp only [Go.Proofs.Ytinjjaoikofkdaa.ruleAll] at C
                      simp only [hi0, cond_false] at M
                      obtain ⟨ppx, capx, hgx⟩ := own_form (M.row 0 rfl)
                      rw [hgx] at M ⊢
                      try clear C
                      have C := M.ruleAll; simp only [Go.Proofs.Ytinjjaoikofkdaa.ruleAll] at C
                      refine yield_walk (ops := #[]) rfl rfl (show 56 < 58 by decide) ?_
                      go_wp2_with (first | ((with_reducible apply wpM_app' M 27 0 1 (w.heap.size) (.slice ppx ls.length capx) (ls.length) (slC ls) 43 101 112); rfl; rfl; rfl; rfl; rfl; rfl; rfl; (first | exact .inl (Nat.le_refl _) | exact .inl (by assumption) | exact .inr (by assumption) | exact .inr HDv.out); (first | exact M.size | (have hq := M.size; omega)); exact und_sqH; exact inf_sqH; rfl; decide; decide; rfl; exact sqs_size ..; exact flat_sqs _ _; omega; clear M; (try clear C); intro v3 w9 far_v3 M; simp only [List.set_cons_zero, List.set_cons_succ, entBlk, entT, List.getElem?_cons_zero, List.getElem?_cons_succ] at M; obtain ⟨pp_v3, cap_v3, rfl⟩ := own_form (M.row 0 rfl); have C := M.ruleAll; simp only [Go.Proofs.Ytinjjaoikofkdaa.ruleAll] at C))
                      exact FIN _ _ [.row w.heap.size (.slice pp_v3 (ls.length + 1) cap_v3) (ls.length + 1) (slC ls ++ (sqs q.n q.t).toList) 43 101] M ⟨trivial, by rw [updD_at, updG_at]; rfl⟩ rfl
                case hfirst =>
                  clear M
                  try clear C
                  intro o hi D g w2 hpre S
                  simp only [List.getElem?_cons_succ, List.getElem?_cons_zero, Option.some.injEq] at hi
                  subst hi
                  have d5 : D 5 = true := hpre _ (Array.mem_of_getElem? (i := 0) rfl) rfl
                  have d11 : D 11 = true := hpre _ (Array.mem_of_getElem? (i := 1) rfl) rfl
                  have d2 : D 2 = true := S.anc 5 d5 2 (by decide)
                  have d8 : D 8 = true := S.anc 11 d11 8 (by decide)
                  refine ⟨fun i hi => ?_, ?_⟩
                  · by_cases e : i = 11
                    · rw [e]; exact d11
                    · exact S.anc 11 d11 i ((by decide : ∀ i, i < 12 → i ≠ 11 → i ∈ kpR 11) i hi e)
                  · obtain ⟨E, P, M⟩ := S.get [2, 8] (by decide) (by intro j hj; simp only [List.mem_cons, List.not_mem_nil, or_false] at hj; rcases hj with rfl | rfl <;> assumption)
                    obtain ⟨_, E2⟩ : True ∧ E 2 = [.row w.heap.size (bif D 5 then g 5 else g 2) (bif D 5 then ns.length + 1 else ns.length) (bif D 5 then nmR ns ++ [Value.string s] else nmR ns) 9 1] := P 2 (by decide)
                    obtain ⟨_, E8⟩ : True ∧ E 8 = [.row w.heap.size (bif D 11 then g 11 else g 8) (bif D 11 then ls.length + 1 else ls.length) (bif D 11 then slC ls ++ (sqs q.n q.t).toList else slC ls) 43 101] := P 8 (by decide)
                    simp only [List.flatMap_cons, List.flatMap_nil, List.append_nil, E2, E8, List.cons_append, List.nil_append, d5, d11, cond_true] at M
                    obtain ⟨p1, d1, e1⟩ := own_form (M.row 0 rfl)
                    obtain ⟨p2, d2, e2⟩ := own_form (M.row 1 rfl)
                    rw [e1, e2] at M
                    exact ⟨p1, d1, p2, d2, .inl ⟨rfl, e1, e2, M⟩⟩
                case htail =>
                  clear M
                  try clear C
                  intro k o hk hi g w2 hT
                  obtain ⟨p1, d1, p2, d2, ⟨rfl, e3, e7, M⟩ | ⟨rfl, e8, M⟩ | ⟨rfl, M⟩ | ⟨rfl, _, M⟩⟩ := hT
                  · simp only [List.getElem?_cons_succ, List.getElem?_cons_zero, Option.some.injEq] at hi
                    subst hi
                    refine ⟨⟨#[undef, undef, undef, undef, undef, undef, undef, undef, undef, undef, undef, undef, undef, undef, undef, undef, undef, undef, undef, undef, undef, undef, undef, undef, undef, undef, undef, undef, undef, undef, undef, undef, undef, undef, undef, undef, undef, undef, undef, undef, undef, undef, undef, undef, undef, undef, undef, undef, undef, undef, .slice p1 (ns.length + 1) d1, undef, undef, undef, undef, undef, .slice p2 (ls.length + 1) d2, undef], []⟩, ?_, ?_⟩
                    · intro t ht
                      have ht' : t ∈ ([50, 56] : List Nat) := ht
                      simp only [List.mem_cons, List.not_mem_nil, or_false] at ht'
                      rcases ht' with rfl | rfl
                      · exact e3.symm
                      · exact e7.symm
                    · have C := M.ruleAll; simp only [Go.Proofs.Ytinjjaoikofkdaa.ruleAll] at C
                      refine yield_walk (ops := #[]) rfl rfl (show 57 < 58 by decide) ?_
                      go_wp2_with (first | (refine wpList_build 29 _ rfl rfl [(0, .slice p1 (ns.length + 1) d1), (1, .slice p2 (ls.length + 1) d2)] rfl _ (build_bk2 ..) ?_))
                      exact ⟨p1, d1, p2, d2, updG_at .., M⟩
                  · simp only [List.getElem?_cons_succ, List.getElem?_cons_zero, Option.some.injEq] at hi
                    subst hi
                    refine ⟨⟨#[undef, undef, undef, undef, undef, undef, .pointer (some ⟨b6, 0, none⟩), undef, undef, undef, undef, undef, undef, undef, undef, undef, undef, undef, undef, undef, undef, undef, undef, undef, undef, undef, undef, undef, undef, undef, undef, undef, undef, undef, undef, undef, undef, undef, undef, undef, undef, undef, undef, undef, undef, undef, undef, undef, undef, undef, undef, undef, undef, undef, undef, undef, undef, .agg (bkV p1 d1 p2 d2 (ns.length + 1) (ls.length + 1))], []⟩, ?_, ?_⟩
                    · intro t ht
                      have ht' : t ∈ ([6, 57] : List Nat) := ht
                      simp only [List.mem_cons, List.not_mem_nil, or_false] at ht'
                      rcases ht' with rfl | rfl
                      · rfl
                      · exact e8.symm
                    · refine yield_store (ops := #[]) (by exact rfl) (by exact rfl) ?_
                      have C := M.ruleAll; simp only [Go.Proofs.Ytinjjaoikofkdaa.ruleAll] at C
                      go_wp2_with (first | ((with_reducible apply wpM_sta' M 2 29 (bkV p1 d1 p2 d2 (ns.length + 1) (ls.length + 1))); rfl; rfl; rfl; rfl; (first | exact .inl (by assumption) | exact .inr rfl | exact .inr (by assumption)); exact ⟨rfl, inf_bok.trans (congrArg some (bkv_size ..).symm), flat_bkv _ _ _ _ _ _⟩; (simp only [entCells, List.getElem?_cons_zero, List.getElem?_cons_succ, bkv_size, bkv_size]); clear M; (try clear C); intro w9 M; simp only [List.set_cons_zero, List.set_cons_succ, entBlk, entT, List.getElem?_cons_zero, List.getElem?_cons_succ] at M; have C := M.ruleAll; simp only [Go.Proofs.Ytinjjaoikofkdaa.ruleAll] at C))
                      exact ⟨p1, d1, p2, d2, M⟩
                  · simp only [List.getElem?_cons_succ, List.getElem?_cons_zero, Option.some.injEq] at hi
                    subst hi
                    refine ⟨⟨#[undef, undef, undef, undef, undef, undef, undef, undef, undef, undef, undef, undef, undef, undef, undef, undef, undef, undef, undef, undef, undef, undef, undef, undef, undef, undef, undef, undef, undef, undef, undef, undef, undef, undef, undef, undef, undef, undef, undef, undef, undef, undef, undef, undef, undef, undef, undef, undef, undef, undef, undef, undef, undef, undef, undef, undef, undef, undef], []⟩, ?_, ?_⟩
                    · intro t ht
                      have ht' : t ∈ ([] : List Nat) := ht
                      cases ht'
                    · refine yield_walk (ops := #[]) rfl rfl (show 7 < 58 by decide) ?_
                      go_wp2
                      exact ⟨updG_at .., p1, d1, p2, d2, M⟩
                  · cases hi
                case hQ =>
                  clear M
                  try clear C
                  intro g w2 hT
                  obtain ⟨p1, d1, p2, d2, ⟨h, _⟩ | ⟨h, _⟩ | ⟨h, _⟩ | ⟨_, e14, M⟩⟩ := hT
                  · cases h
                  · cases h
                  · cases h
                  · simp only [fullAct, e14, Act.put, List.setIfInBounds_toArray, List.set_cons_succ, List.set_cons_zero]
                    have C := M.ruleAll; simp only [Go.Proofs.Ytinjjaoikofkdaa.ruleAll] at C
                    go_wp2
                    refine bodyPost_ret (v := .tuple #[.agg (bkV p1 d1 p2 d2 (ns.length + 1) (ls.length + 1)), .int .i64 0]) (by exact results_part2 rfl _ _ _ _ (bkV p1 d1 p2 d2 (ns.length + 1) (ls.length + 1)) _ rfl und_bok rfl inf_bok (cells_of_blk0 (M.box 2 rfl)) _ rfl) rfl ?_
                    unfold BkNew
                    rw [HR.out.1, HR.out.2.1, HR.out.2.2, nmR_snoc, slC_snocH, List.length_append, List.length_append]
                    exact ⟨p1, d1, p2, d2, rfl, (M.sub [0, 1] (by decide)).eq rfl⟩
end Go.Proofs.Ytinjjaoikofkdaa

/- The law on a book with a loop more: its walk. Printed by gen/h19.py. -/
namespace Go.Proofs.Ytinjjaoikofkdaa
set_option linter.unusedSimpArgs false
set_option linter.unusedVariables false
open Go Go.RowKit

theorem newRowsW {w w' : World} {B : Nat} {v1 v2 : Value} {n1 n2 : Nat} {xs1 xs2 : List Value} {e1 s1 e2 s2 : Nat} (M : Mm no w w' [.row w.heap.size v1 n1 xs1 e1 s1, .row w.heap.size v2 n2 xs2 e2 s2]) : ∀ x ∈ [Ent.row B v1 n1 xs1 e1 s1, .row B v2 n2 xs2 e2 s2], ∀ b, x.place b → w.heap.size ≤ b := fun x hx b hb => by
  simp only [List.mem_cons, List.not_mem_nil, or_false] at hx
  rcases hx with rfl | rfl
  · exact own_ge (M.row 0 rfl) hb
  · exact own_ge (M.row 1 rfl) hb
section
variable {n : Nat} {post : Nat → (Nat → Bool) → (Nat → Value) → List Ent → Prop} {R W : Nat → List Nat} {w0 w w' : World} {L : List Ent} {D : Nat → Bool} {g : Nat → Value}
/-- An operation i that writes to what t has made, and takes it. -/
theorem GrS.hand (S : GrS n post R w0 L D g w) (hst : Stable post R W) {i t : Nat} (hi : i < n) (h0 : D i = false) (hR : ∀ j ∈ R i, D j = true) (hW : ∀ j, D j = true → j ≠ t → i ∉ W j) (ht : D t = true) :
    ∃ (E X : List Ent), post t D g E ∧ Mm no w0 w (E ++ X) ∧ ∀ u w' Ei, Mm no w0 w' (Ei ++ X) → post t (updD D i) (updG g i u) [] → post i (updD D i) (updG g i u) Ei → GrS n post R w0 L (updD D i) (updG g i u) w' := by
  obtain ⟨E, h1, h2, M⟩ := S.mem
  have htn := S.top t ht
  have hti : t ≠ i := fun e => by rw [e, h0] at ht; cases ht
  obtain ⟨X, hX⟩ := pull_list (K := [t]) (l := List.range n) (by simp) fun k hk => by simp at hk; subst hk; exact List.mem_range.2 htn
  have hnd : (t :: X).Nodup := (hX.nodup_iff).1 List.nodup_range
  have hXt : t ∉ X := (List.nodup_cons.1 hnd).1
  refine ⟨E t, X.flatMap E ++ L, h1 t ht, ?_, fun u w' Ei M' hp1 hp2 => ?_⟩
  · have hp := flat_perm (E := E) hX
    have h3 : ((List.range n).flatMap E ++ L).Perm (E t ++ (X.flatMap E ++ L)) := by
      rw [← List.append_assoc]
      exact List.Perm.append_right L (by simpa [List.flatMap_cons] using hp)
    exact M.perm h3
  · refine ⟨updD_anc S hR, updD_top S hi, updE (updE E t []) i Ei, fun k hk => ?_, fun k hk => ?_, ?_⟩
    · by_cases e2 : k = i
      · subst e2; rw [updE_at]; exact hp2
      · rw [updE_ne e2]
        by_cases e : k = t
        · subst e; rw [updE_at]; exact hp1
        · rw [updE_ne e]
          rw [updD_ne e2] at hk
          exact hst k i D g u (E k) (fun h => e2 h.symm) (fun h => by have := S.anc k hk i h; rw [h0] at this; cases this) (hW k hk e) (h1 k hk)
    · by_cases e2 : k = i
      · subst e2; rw [updD_at] at hk; cases hk
      · rw [updE_ne e2]
        rw [updD_ne e2] at hk
        by_cases e : k = t
        · subst e; rw [updE_at]
        · rw [updE_ne e]; exact h2 k hk
    · have hp := flat_perm (E := updE E t []) hX
      have e : (X.flatMap (updE E t [])) = X.flatMap E := by
        clear hp hX hnd M M'
        induction X with
        | nil => rfl
        | cons b X ih =>
          simp only [List.flatMap_cons]
          rw [updE_ne (fun e => hXt (by rw [e]; exact List.mem_cons_self ..)), ih fun h => hXt (List.mem_cons_of_mem _ h)]
      have hp2 : ((List.range n).flatMap (updE E t [])).Perm (X.flatMap E) := by
        refine hp.trans ?_
        rw [show [t] ++ X = t :: X from rfl, List.flatMap_cons, updE_at, e, List.nil_append]
      have hE : updE E t [] i = [] := by rw [updE_ne (fun e => hti e.symm)]; exact h2 i h0
      have hp3 := flat_upd (E := updE E t []) (Ei := Ei) List.nodup_range (List.mem_range.2 hi) hE
      refine M'.perm ?_
      rw [← List.append_assoc]
      exact List.Perm.append_right L ((List.Perm.append_left Ei hp2.symm).trans hp3.symm)
end
/-- What is known behind a call of KeepLoop whose results lie in variables. -/
def kepT (x1 al tl : Nat) (N : List ByteArray) (Q : List Sqr) (d : Int) (w : World) (L : List Ent) (k : Nat) (g : Nat → Value) (wr : World) : Prop := ∃ pa ca pb cb b8, w.heap.size ≤ b8 ∧ g x1 = .int .i64 d ∧ g al = .pointer (some ⟨b8, 0, none⟩) ∧ Mm no w wr (.row w.heap.size (.slice pa N.length ca) N.length (nmR N) 9 1 :: .row w.heap.size (.slice pb Q.length cb) Q.length (slC Q) 43 101 :: .box b8 (bkV pa ca pb cb N.length Q.length) 29 :: L) ∧ (k = tl ∨ (k = tl + 1 ∧ g tl = .int .i64 d))
theorem kepT.mk {x1 al tl : Nat} {N : List ByteArray} {Q : List Sqr} {d : Int} {w : World} {L : List Ent} {g : Nat → Value} {wr : World} {pa pb : Option Addr} {ca cb b8 : Nat} (h1 : w.heap.size ≤ b8) (h2 : g x1 = .int .i64 d) (h3 : g al = .pointer (some ⟨b8, 0, none⟩)) (h4 : Mm no w wr (.row w.heap.size (.slice pa N.length ca) N.length (nmR N) 9 1 :: .row w.heap.size (.slice pb Q.length cb) Q.length (slC Q) 43 101 :: .box b8 (bkV pa ca pb cb N.length Q.length) 29 :: L)) (h5 : g tl = .int .i64 d) : kepT x1 al tl N Q d w L (tl + 1) g wr :=
  ⟨pa, ca, pb, cb, b8, h1, h2, h3, h4, .inr ⟨rfl, h5⟩⟩
theorem isBk_small {ns : List ByteArray} {ls : List Sqr} (h : isBk ns ls = true) : ns.length ≤ 20 := by
  unfold isBk at h
  simp only [Bool.and_eq_true, decide_eq_true_eq] at h
  exact h.1.1.1
theorem keep_len (ns : List ByteArray) (ls : List Sqr) (s : ByteArray) (q : Sqr) : (keepN ns ls s q).length ≤ 21 ∧ (keepL ns ls s q).length ≤ 21 := by
  by_cases h : keepC ns ls s q = 0
  · have hb : isBk ns ls = true := by
      by_cases hb : isBk ns ls = true
      · exact hb
      · have h1 := (keep_1 (ns := ns) (ls := ls) (s := s) (q := q) fun h => hb h.1).2.2
        rw [h] at h1; exact absurd h1 (by decide)
    have h1 := isBk_small hb
    have h2 := isBk_len2 hb
    unfold keepN keepL
    rw [if_pos h, if_pos h, List.length_append, List.length_append]
    simp only [List.length_cons, List.length_nil]
    omega
  · unfold keepN keepL
    rw [if_neg h, if_neg h]
    exact ⟨Nat.zero_le _, Nat.zero_le _⟩
def lk7R : Nat → List Nat
  | 0 => []
  | 1 => [0]
  | 2 => []
  | 3 => []
  | 4 => [0, 1, 3]
  | 5 => [0, 1, 2, 3, 4]
  | 6 => [0, 1, 2, 3, 4, 5]
  | 7 => [0, 1, 2, 3, 4, 5, 6]
  | 8 => [0, 1, 2, 3, 4, 5, 6]
  | 9 => []
  | 10 => [0, 1, 2, 3, 4, 5, 6, 7, 9]
  | _ => []
def lk7P (ns : List ByteArray) (ls : List Sqr) (s : ByteArray) (q : Sqr) (N : List ByteArray) (Q : List Sqr) (d : Int) (p1 p2 : Option Addr) (c1 c2 ge gf B0 : Nat) : Nat → (Nat → Bool) → (Nat → Value) → List Ent → Prop
  | 0, _, g, E => g 0 = .agg (bkV p1 c1 p2 c2 ns.length ls.length) ∧ E = []
  | 1, _, g, E => ∃ ga gb csa csb, g 1 = .agg (bkA ga ns.length gb ls.length ns.length ls.length) ∧ strC ns csa ∧ sqaC ls csb ∧ E = [.box ga csa 9, .box gb csb 43]
  | 2, _, g, E => g 2 = .string s ∧ E = []
  | 3, _, g, E => g 3 = .agg (sqs q.n q.t) ∧ E = []
  | 4, _, g, E => g 4 = .agg (sqs q.n q.t) ∧ E = []
  | 5, _, g, E => ∃ pa ca pb cb, g 5 = .tuple #[.agg (bkV pa ca pb cb N.length Q.length), .int .i64 d] ∧ E = [.row B0 (.slice pa N.length ca) N.length (nmR N) 9 1, .row B0 (.slice pb Q.length cb) Q.length (slC Q) 43 101]
  | 6, _, g, E => ∃ pa ca pb cb, g 5 = .tuple #[.agg (bkV pa ca pb cb N.length Q.length), .int .i64 d] ∧ g 6 = .tuple #[.agg (bkV pa ca pb cb N.length Q.length), .int .i64 d] ∧ E = []
  | 7, _, g, E => ∃ pa ca pb cb, g 5 = .tuple #[.agg (bkV pa ca pb cb N.length Q.length), .int .i64 d] ∧ g 7 = .agg (bkV pa ca pb cb N.length Q.length) ∧ E = []
  | 8, _, g, E => ∃ pa ca pb cb, g 5 = .tuple #[.agg (bkV pa ca pb cb N.length Q.length), .int .i64 d] ∧ g 8 = .int .i64 d ∧ E = []
  | 9, D, g, E => ∃ b8, g 9 = .pointer (some ⟨b8, 0, none⟩) ∧ B0 ≤ b8 ∧ E = (bif D 10 then [] else [.box b8 (bkV none 0 none 0 0 0) 29])
  | 10, _, g, E => ∃ b8 pa ca pb cb, g 9 = .pointer (some ⟨b8, 0, none⟩) ∧ B0 ≤ b8 ∧ g 5 = .tuple #[.agg (bkV pa ca pb cb N.length Q.length), .int .i64 d] ∧ E = [.box b8 (bkV pa ca pb cb N.length Q.length) 29]
  | _, _, _, _ => False
def lk7W (j : Nat) : List Nat := if j = 9 then [10] else []
theorem lk7S (ns : List ByteArray) (ls : List Sqr) (s : ByteArray) (q : Sqr) (N : List ByteArray) (Q : List Sqr) (d : Int) (p1 p2 : Option Addr) (c1 c2 ge gf B0 : Nat) : Stable (lk7P ns ls s q N Q d p1 p2 c1 c2 ge gf B0) lk7R lk7W := fun i k D g u E hki hkR hkW h => by
  match i with
  | 0 =>
    have e0 : updG g k u 0 = g 0 := updG_ne (g := g) (u := u) (Ne.symm hki)
    simp only [lk7P, e0]; exact h
  | 1 =>
    have e1 : updG g k u 1 = g 1 := updG_ne (g := g) (u := u) (Ne.symm hki)
    simp only [lk7P, e1]; exact h
  | 2 =>
    have e2 : updG g k u 2 = g 2 := updG_ne (g := g) (u := u) (Ne.symm hki)
    simp only [lk7P, e2]; exact h
  | 3 =>
    have e3 : updG g k u 3 = g 3 := updG_ne (g := g) (u := u) (Ne.symm hki)
    simp only [lk7P, e3]; exact h
  | 4 =>
    have e4 : updG g k u 4 = g 4 := updG_ne (g := g) (u := u) (Ne.symm hki)
    simp only [lk7P, e4]; exact h
  | 5 =>
    have e5 : updG g k u 5 = g 5 := updG_ne (g := g) (u := u) (Ne.symm hki)
    simp only [lk7P, e5]; exact h
  | 6 =>
    have e5 : updG g k u 5 = g 5 := updG_ne (g := g) (u := u) (i := k) (j := 5) (fun e => hkR (by rw [← e]; decide))
    have e6 : updG g k u 6 = g 6 := updG_ne (g := g) (u := u) (Ne.symm hki)
    simp only [lk7P, e5, e6]; exact h
  | 7 =>
    have e5 : updG g k u 5 = g 5 := updG_ne (g := g) (u := u) (i := k) (j := 5) (fun e => hkR (by rw [← e]; decide))
    have e7 : updG g k u 7 = g 7 := updG_ne (g := g) (u := u) (Ne.symm hki)
    simp only [lk7P, e5, e7]; exact h
  | 8 =>
    have e5 : updG g k u 5 = g 5 := updG_ne (g := g) (u := u) (i := k) (j := 5) (fun e => hkR (by rw [← e]; decide))
    have e8 : updG g k u 8 = g 8 := updG_ne (g := g) (u := u) (Ne.symm hki)
    simp only [lk7P, e5, e8]; exact h
  | 9 =>
    have e9 : updG g k u 9 = g 9 := updG_ne (g := g) (u := u) (Ne.symm hki)
    have hkW' : k ∉ ([10] : List Nat) := hkW
    simp only [List.mem_cons, List.not_mem_nil, or_false, not_or] at hkW'
    have d10 : updD D k 10 = D 10 := updD_ne (by omega)
    simp only [lk7P, e9, d10]; exact h
  | 10 =>
    have e9 : updG g k u 9 = g 9 := updG_ne (g := g) (u := u) (i := k) (j := 9) (fun e => hkR (by rw [← e]; decide))
    have e5 : updG g k u 5 = g 5 := updG_ne (g := g) (u := u) (i := k) (j := 5) (fun e => hkR (by rw [← e]; decide))
    simp only [lk7P, e9, e5]; exact h
  | n + 11 => exact h.elim
def lk9R : Nat → List Nat
  | 0 => []
  | 1 => []
  | 2 => []
  | 3 => [2]
  | 4 => [0, 1, 2, 3]
  | 5 => [0, 1, 2, 3, 4]
  | 6 => [0, 1, 2, 3, 4, 5]
  | 7 => [0, 1, 2, 3, 4, 5]
  | 8 => []
  | 9 => [0, 1, 2, 3, 4, 5, 6, 8]
  | _ => []
def lk9P (ns : List ByteArray) (ls : List Sqr) (s : ByteArray) (q : Sqr) (N : List ByteArray) (Q : List Sqr) (d : Int) (p1 p2 : Option Addr) (c1 c2 ge gf B0 : Nat) : Nat → (Nat → Bool) → (Nat → Value) → List Ent → Prop
  | 0, _, g, E => g 0 = .agg (bkA ge ns.length gf ls.length ns.length ls.length) ∧ E = []
  | 1, _, g, E => g 1 = .string s ∧ E = []
  | 2, _, g, E => g 2 = .agg (sqs q.n q.t) ∧ E = []
  | 3, _, g, E => g 3 = .agg (sqs q.n q.t) ∧ E = []
  | 4, _, g, E => ∃ pa ca pb cb, g 4 = .tuple #[.agg (bkV pa ca pb cb N.length Q.length), .int .i64 d] ∧ E = [.row B0 (.slice pa N.length ca) N.length (nmR N) 9 1, .row B0 (.slice pb Q.length cb) Q.length (slC Q) 43 101]
  | 5, _, g, E => ∃ pa ca pb cb, g 4 = .tuple #[.agg (bkV pa ca pb cb N.length Q.length), .int .i64 d] ∧ g 5 = .tuple #[.agg (bkV pa ca pb cb N.length Q.length), .int .i64 d] ∧ E = []
  | 6, _, g, E => ∃ pa ca pb cb, g 4 = .tuple #[.agg (bkV pa ca pb cb N.length Q.length), .int .i64 d] ∧ g 6 = .agg (bkV pa ca pb cb N.length Q.length) ∧ E = []
  | 7, _, g, E => ∃ pa ca pb cb, g 4 = .tuple #[.agg (bkV pa ca pb cb N.length Q.length), .int .i64 d] ∧ g 7 = .int .i64 d ∧ E = []
  | 8, D, g, E => ∃ b8, g 8 = .pointer (some ⟨b8, 0, none⟩) ∧ B0 ≤ b8 ∧ E = (bif D 9 then [] else [.box b8 (bkV none 0 none 0 0 0) 29])
  | 9, _, g, E => ∃ b8 pa ca pb cb, g 8 = .pointer (some ⟨b8, 0, none⟩) ∧ B0 ≤ b8 ∧ g 4 = .tuple #[.agg (bkV pa ca pb cb N.length Q.length), .int .i64 d] ∧ E = [.box b8 (bkV pa ca pb cb N.length Q.length) 29]
  | _, _, _, _ => False
def lk9W (j : Nat) : List Nat := if j = 8 then [9] else []
theorem lk9S (ns : List ByteArray) (ls : List Sqr) (s : ByteArray) (q : Sqr) (N : List ByteArray) (Q : List Sqr) (d : Int) (p1 p2 : Option Addr) (c1 c2 ge gf B0 : Nat) : Stable (lk9P ns ls s q N Q d p1 p2 c1 c2 ge gf B0) lk9R lk9W := fun i k D g u E hki hkR hkW h => by
  match i with
  | 0 =>
    have e0 : updG g k u 0 = g 0 := updG_ne (g := g) (u := u) (Ne.symm hki)
    simp only [lk9P, e0]; exact h
  | 1 =>
    have e1 : updG g k u 1 = g 1 := updG_ne (g := g) (u := u) (Ne.symm hki)
    simp only [lk9P, e1]; exact h
  | 2 =>
    have e2 : updG g k u 2 = g 2 := updG_ne (g := g) (u := u) (Ne.symm hki)
    simp only [lk9P, e2]; exact h
  | 3 =>
    have e3 : updG g k u 3 = g 3 := updG_ne (g := g) (u := u) (Ne.symm hki)
    simp only [lk9P, e3]; exact h
  | 4 =>
    have e4 : updG g k u 4 = g 4 := updG_ne (g := g) (u := u) (Ne.symm hki)
    simp only [lk9P, e4]; exact h
  | 5 =>
    have e4 : updG g k u 4 = g 4 := updG_ne (g := g) (u := u) (i := k) (j := 4) (fun e => hkR (by rw [← e]; decide))
    have e5 : updG g k u 5 = g 5 := updG_ne (g := g) (u := u) (Ne.symm hki)
    simp only [lk9P, e4, e5]; exact h
  | 6 =>
    have e4 : updG g k u 4 = g 4 := updG_ne (g := g) (u := u) (i := k) (j := 4) (fun e => hkR (by rw [← e]; decide))
    have e6 : updG g k u 6 = g 6 := updG_ne (g := g) (u := u) (Ne.symm hki)
    simp only [lk9P, e4, e6]; exact h
  | 7 =>
    have e4 : updG g k u 4 = g 4 := updG_ne (g := g) (u := u) (i := k) (j := 4) (fun e => hkR (by rw [← e]; decide))
    have e7 : updG g k u 7 = g 7 := updG_ne (g := g) (u := u) (Ne.symm hki)
    simp only [lk9P, e4, e7]; exact h
  | 8 =>
    have e8 : updG g k u 8 = g 8 := updG_ne (g := g) (u := u) (Ne.symm hki)
    have hkW' : k ∉ ([9] : List Nat) := hkW
    simp only [List.mem_cons, List.not_mem_nil, or_false, not_or] at hkW'
    have d9 : updD D k 9 = D 9 := updD_ne (by omega)
    simp only [lk9P, e8, d9]; exact h
  | 9 =>
    have e8 : updG g k u 8 = g 8 := updG_ne (g := g) (u := u) (i := k) (j := 8) (fun e => hkR (by rw [← e]; decide))
    have e4 : updG g k u 4 = g 4 := updG_ne (g := g) (u := u) (i := k) (j := 4) (fun e => hkR (by rw [← e]; decide))
    simp only [lk9P, e8, e4]; exact h
  | n + 10 => exact h.elim
def lk26R : Nat → List Nat
  | 0 => []
  | 1 => [0]
  | 2 => []
  | 3 => []
  | 4 => [0, 1, 3]
  | 5 => [0, 1, 2, 3, 4]
  | 6 => [0, 1, 2, 3, 4, 5]
  | 7 => [0, 1, 2, 3, 4, 5, 6]
  | 8 => [0, 1, 2, 3, 4, 5, 6]
  | 9 => []
  | 10 => [0, 1, 2, 3, 4, 5, 6, 7, 9]
  | _ => []
def lk26P (ns : List ByteArray) (ls : List Sqr) (s : ByteArray) (q : Sqr) (N : List ByteArray) (Q : List Sqr) (d : Int) (p1 p2 : Option Addr) (c1 c2 ge gf B0 : Nat) : Nat → (Nat → Bool) → (Nat → Value) → List Ent → Prop
  | 0, _, g, E => g 0 = .agg (bkV p1 c1 p2 c2 ns.length ls.length) ∧ E = []
  | 1, _, g, E => ∃ ga gb csa csb, g 1 = .agg (bkA ga ns.length gb ls.length ns.length ls.length) ∧ strC ns csa ∧ sqaC ls csb ∧ E = [.box ga csa 9, .box gb csb 43]
  | 2, _, g, E => g 2 = .string s ∧ E = []
  | 3, _, g, E => g 3 = .agg (sqs q.n q.t) ∧ E = []
  | 4, _, g, E => g 4 = .agg (sqs q.n q.t) ∧ E = []
  | 5, _, g, E => ∃ pa ca pb cb, g 5 = .tuple #[.agg (bkV pa ca pb cb N.length Q.length), .int .i64 d] ∧ E = [.row B0 (.slice pa N.length ca) N.length (nmR N) 9 1, .row B0 (.slice pb Q.length cb) Q.length (slC Q) 43 101]
  | 6, _, g, E => ∃ pa ca pb cb, g 5 = .tuple #[.agg (bkV pa ca pb cb N.length Q.length), .int .i64 d] ∧ g 6 = .tuple #[.agg (bkV pa ca pb cb N.length Q.length), .int .i64 d] ∧ E = []
  | 7, _, g, E => ∃ pa ca pb cb, g 5 = .tuple #[.agg (bkV pa ca pb cb N.length Q.length), .int .i64 d] ∧ g 7 = .agg (bkV pa ca pb cb N.length Q.length) ∧ E = []
  | 8, _, g, E => ∃ pa ca pb cb, g 5 = .tuple #[.agg (bkV pa ca pb cb N.length Q.length), .int .i64 d] ∧ g 8 = .int .i64 d ∧ E = []
  | 9, D, g, E => ∃ b8, g 9 = .pointer (some ⟨b8, 0, none⟩) ∧ B0 ≤ b8 ∧ E = (bif D 10 then [] else [.box b8 (bkV none 0 none 0 0 0) 29])
  | 10, _, g, E => ∃ b8 pa ca pb cb, g 9 = .pointer (some ⟨b8, 0, none⟩) ∧ B0 ≤ b8 ∧ g 5 = .tuple #[.agg (bkV pa ca pb cb N.length Q.length), .int .i64 d] ∧ E = [.box b8 (bkV pa ca pb cb N.length Q.length) 29]
  | _, _, _, _ => False
def lk26W (j : Nat) : List Nat := if j = 9 then [10] else []
theorem lk26S (ns : List ByteArray) (ls : List Sqr) (s : ByteArray) (q : Sqr) (N : List ByteArray) (Q : List Sqr) (d : Int) (p1 p2 : Option Addr) (c1 c2 ge gf B0 : Nat) : Stable (lk26P ns ls s q N Q d p1 p2 c1 c2 ge gf B0) lk26R lk26W := fun i k D g u E hki hkR hkW h => by
  match i with
  | 0 =>
    have e0 : updG g k u 0 = g 0 := updG_ne (g := g) (u := u) (Ne.symm hki)
    simp only [lk26P, e0]; exact h
  | 1 =>
    have e1 : updG g k u 1 = g 1 := updG_ne (g := g) (u := u) (Ne.symm hki)
    simp only [lk26P, e1]; exact h
  | 2 =>
    have e2 : updG g k u 2 = g 2 := updG_ne (g := g) (u := u) (Ne.symm hki)
    simp only [lk26P, e2]; exact h
  | 3 =>
    have e3 : updG g k u 3 = g 3 := updG_ne (g := g) (u := u) (Ne.symm hki)
    simp only [lk26P, e3]; exact h
  | 4 =>
    have e4 : updG g k u 4 = g 4 := updG_ne (g := g) (u := u) (Ne.symm hki)
    simp only [lk26P, e4]; exact h
  | 5 =>
    have e5 : updG g k u 5 = g 5 := updG_ne (g := g) (u := u) (Ne.symm hki)
    simp only [lk26P, e5]; exact h
  | 6 =>
    have e5 : updG g k u 5 = g 5 := updG_ne (g := g) (u := u) (i := k) (j := 5) (fun e => hkR (by rw [← e]; decide))
    have e6 : updG g k u 6 = g 6 := updG_ne (g := g) (u := u) (Ne.symm hki)
    simp only [lk26P, e5, e6]; exact h
  | 7 =>
    have e5 : updG g k u 5 = g 5 := updG_ne (g := g) (u := u) (i := k) (j := 5) (fun e => hkR (by rw [← e]; decide))
    have e7 : updG g k u 7 = g 7 := updG_ne (g := g) (u := u) (Ne.symm hki)
    simp only [lk26P, e5, e7]; exact h
  | 8 =>
    have e5 : updG g k u 5 = g 5 := updG_ne (g := g) (u := u) (i := k) (j := 5) (fun e => hkR (by rw [← e]; decide))
    have e8 : updG g k u 8 = g 8 := updG_ne (g := g) (u := u) (Ne.symm hki)
    simp only [lk26P, e5, e8]; exact h
  | 9 =>
    have e9 : updG g k u 9 = g 9 := updG_ne (g := g) (u := u) (Ne.symm hki)
    have hkW' : k ∉ ([10] : List Nat) := hkW
    simp only [List.mem_cons, List.not_mem_nil, or_false, not_or] at hkW'
    have d10 : updD D k 10 = D 10 := updD_ne (by omega)
    simp only [lk26P, e9, d10]; exact h
  | 10 =>
    have e9 : updG g k u 9 = g 9 := updG_ne (g := g) (u := u) (i := k) (j := 9) (fun e => hkR (by rw [← e]; decide))
    have e5 : updG g k u 5 = g 5 := updG_ne (g := g) (u := u) (i := k) (j := 5) (fun e => hkR (by rw [← e]; decide))
    simp only [lk26P, e9, e5]; exact h
  | n + 11 => exact h.elim

set_option maxRecDepth 100000 in
set_option maxHeartbeats 8000000 in
theorem lawKeepLoop_any (ns : List ByteArray) (ls : List Sqr) (s : ByteArray) (q : Sqr) (hq : Byt2 q.t) (hn : ns.length ≤ maxLen) (hm : ls.length ≤ maxLen) (hs : ∀ x ∈ ns, x.size ≤ maxLen) (hby : ∀ q ∈ ls, Byt2 q.t) (w : World) (p1 p2 : Option Addr) (c1 c2 : Nat)
    (hr1 : rdp w p1 ns.length (nmF ns)) (hr2 : rdp w p2 (ls.length * 101) (fun j => (slC ls).getD j undef)) :
    Calls Try.prog 4 #[.agg (bkV p1 c1 p2 c2 ns.length ls.length), .string s, .agg (sqs q.n q.t)] w fun e w' => e = .returned (.bool true) ∧ Below w.heap.size w w' := by
  have M := Mm.start no w
  have HS := fun w1 (hb : Below w.heap.size w w1) => szBook_any ns hn hs ls.length hm w1 p1 p2 c1 c2 1048576 (by omega) (by omega) (hr1.later hb)
  have R1 := Hid2.mk (fun w1 (hb : Below w.heap.size w w1) => hr1.later hb)
  have R2 := Hid2.mk (fun w1 (hb : Below w.heap.size w w1) => hr2.later hb)
  have HBY := Hid2.mk hby
  clear hr1 hr2 hs hby
  by_cases hlong : 1048576 < (s.size : Int)
  · go_enter Try.func4, Try.ntmps4
    go_wp2_with (first | ((with_reducible apply wpM_box' M 25 (bkV p1 c1 p2 c2 ns.length ls.length)); rfl; exact ⟨rfl, rfl⟩; clear M; (try clear C); intro bb w9 h_bb M; have C := M.ruleAll; simp only [Go.Proofs.Ytinjjaoikofkdaa.ruleAll] at C) | ((with_reducible apply wpM_box' M 39 (sqs q.n q.t)); rfl; exact ⟨rfl, rfl⟩; clear M; (try clear C); intro bq w9 h_bq M; have C := M.ruleAll; simp only [Go.Proofs.Ytinjjaoikofkdaa.ruleAll] at C))
    go_ret
    exact ⟨rfl, M.below⟩
  go_enter Try.func4, Try.ntmps4
  go_wp2_with (first | ((with_reducible apply wpM_box' M 25 (bkV p1 c1 p2 c2 ns.length ls.length)); rfl; exact ⟨rfl, rfl⟩; clear M; (try clear C); intro bb w9 h_bb M; have C := M.ruleAll; simp only [Go.Proofs.Ytinjjaoikofkdaa.ruleAll] at C) | ((with_reducible apply wpM_box' M 39 (sqs q.n q.t)); rfl; exact ⟨rfl, rfl⟩; clear M; (try clear C); intro bq w9 h_bq M; have C := M.ruleAll; simp only [Go.Proofs.Ytinjjaoikofkdaa.ruleAll] at C) | ((with_reducible apply wpM_lda' M 1 25 0 (bkV p1 c1 p2 c2 ns.length ls.length)); rfl; rfl; rfl; exact ⟨rfl, inf_bk0.trans (congrArg some (bkv_size ..).symm), _, und_bk0, rfl⟩; exact whole_of rfl) | (go_at_call 7; fail))
  refine (HS _ M.below).mono ?_
  rintro e w1 ⟨r, rfl, hr, hb⟩
  have M9 := M.later hb
  clear M; (try clear C)
  have M := M9
  clear M9 hb
  have C := M.ruleAll; simp only [Go.Proofs.Ytinjjaoikofkdaa.ruleAll] at C
  clear HS
  by_cases hneg : r < 0
  · go_wp2
    go_ret
    exact ⟨rfl, M.below⟩
  obtain ⟨_, q1, q2, q3⟩ := hr (by omega)
  have HB : BkIn ns ls := ⟨by omega, by omega, fun x hx => by have := q2 x hx; omega, HBY.out⟩
  clear hr q2
  have HT := fun w1 (hb : Below w.heap.size w w1) => toBook_any ns ls HB.n HB.m w1 p1 p2 c1 c2 (R1.out w1 hb) (R2.out w1 hb)
  have HS := Hid2.mk (fun w1 g1 g2 (h : BkHere ns ls w1 g1 g2) => specKeepLoop_any HB s (by omega) q hq w1 h ns.length ls.length)
  have HP := Hid2.mk (fun w1 g1 g2 (h : BkHere ns ls w1 g1 g2) => implKeepLoop_any HB s (by omega) q hq w1 h ns.length ls.length (Nat.le_refl _))
  have HE := Hid2.mk (fun w1 g1 g2 g3 g4 (h : BkHere ns ls w1 g1 g2) (h' : BkHere ns ls w1 g3 g4) => eqBookA_any HB w1 h h' ns.length ls.length ns.length ls.length)
  have HSQ := fun w1 => toSquare_any q.n q.t w1
  have hN := (keep_len ns ls s q).1
  have hQ := (keep_len ns ls s q).2
  clear hq
  generalize keepN ns ls s q = N at *
  generalize keepL ns ls s q = Q at *
  generalize keepC ns ls s q = d at *
  have HEQ := Hid2.mk (fun w1 pa pb pc pd ca cb cc cd h1 h2 h3 h4 => eqBook_any N Q (by omega) (by omega) w1 pa pb pc pd ca cb cc cd h1 h2 h3 h4)
  have hdd : (d == d) = true := by simp
  go_wp2
  refine wp_region_ownN 11 (GrS 11 (lk7P ns ls s q N Q d p1 p2 c1 c2 0 0 w.heap.size) lk7R w ([.box bq (sqs q.n q.t) 39, .box bb (bkV p1 c1 p2 c2 ns.length ls.length) 25])) (kepT 8 9 11 N Q d w ([.box bq (sqs q.n q.t) 39, .box bb (bkV p1 c1 p2 c2 ns.length ls.length) 25])) (by kernel_rfl) (by kernel_rfl) (by kernel_rfl) (by decide) (GrS.start M _) ?hstep_lk7 ?hfirst_lk7 ?htail_lk7 ?hQ_lk7
  case hstep_lk7 =>
    clear M
    try clear C
    intro i o hlt hi D g w2 hi0 hpre S
    obtain rfl | rfl | rfl | rfl | rfl | rfl | rfl | rfl | rfl | rfl | rfl : i = 0 ∨ i = 1 ∨ i = 2 ∨ i = 3 ∨ i = 4 ∨ i = 5 ∨ i = 6 ∨ i = 7 ∨ i = 8 ∨ i = 9 ∨ i = 10 := by omega
    · simp only [List.getElem?_cons_succ, List.getElem?_cons_zero, Option.some.injEq] at hi
      subst hi
      have M := S.base
      have HR : ∀ j ∈ lk7R 0, D j = true := (fun _ h => by cases h)
      have HW : ∀ j, D j = true → 0 ∉ lk7W j := fun j _ h => by
        unfold lk7W at h
        (repeat' split at h) <;> simp at h
      have hst := lk7S ns ls s q N Q d p1 p2 c1 c2 0 0 w.heap.size
      refine ⟨⟨#[undef, undef, undef, .pointer (some ⟨bb, 0, none⟩), undef, undef, undef, undef, undef, undef, undef, undef, undef, undef, undef, undef, undef, undef, undef, undef, undef, undef, undef, undef, undef, undef, undef, undef, undef, undef, undef, undef, undef, undef, undef, undef, undef, undef, undef, undef, undef, undef, undef, undef, undef, undef, undef, undef, undef, undef, undef, undef, undef, undef, undef, undef, undef, undef, undef, undef, undef, undef, undef, undef, undef, undef, undef, undef, undef, undef, undef, undef, undef, undef, undef, undef, undef, undef, undef, undef, undef, undef, undef, undef, undef, undef, undef, undef, undef, undef, undef, undef, undef, undef, undef, undef, undef, undef, undef, undef, undef, undef, undef, undef, undef, undef, undef, undef, undef, undef, undef, undef], []⟩, ?_, ?_⟩
      · intro t ht
        have ht' : t ∈ ([3] : List Nat) := ht
        simp only [List.mem_cons, List.not_mem_nil, or_false] at ht'
        subst ht'
        exact rfl
      · skip
        have C := M.ruleAll; simp only [Go.Proofs.Ytinjjaoikofkdaa.ruleAll] at C
        refine yield_walk (ops := #[]) rfl rfl (show 27 < 112 by decide) ?_
        go_wp2_with (first | ((with_reducible apply wpM_lda' M 1 25 0 (bkV p1 c1 p2 c2 ns.length ls.length)); rfl; rfl; rfl; exact ⟨rfl, inf_bk0.trans (congrArg some (bkv_size ..).symm), _, und_bk0, rfl⟩; exact whole_of rfl))
        exact S.val (i := 0) hst (by decide) hi0 HR HW (Below.refl _ _) ⟨updG_at .., rfl⟩
    · simp only [List.getElem?_cons_succ, List.getElem?_cons_zero, Option.some.injEq] at hi
      subst hi
      have d0 : D 0 = true := hpre _ (Array.mem_of_getElem? (i := 0) rfl) rfl
      obtain ⟨E, P, M⟩ := S.get [0] (by decide) (by intro j hj; simp only [List.mem_cons, List.not_mem_nil, or_false] at hj; subst hj <;> assumption)
      obtain ⟨e0, E0⟩ : g 0 = .agg (bkV p1 c1 p2 c2 ns.length ls.length) ∧ E 0 = [] := P 0 (by decide)
      simp only [List.flatMap_cons, List.flatMap_nil, List.append_nil, E0, List.cons_append, List.nil_append] at M
      clear P
      have HR : ∀ j ∈ lk7R 1, D j = true := (by intro j hj; have hj' : j ∈ ([0] : List Nat) := hj; simp only [List.mem_cons, List.not_mem_nil, or_false] at hj'; subst hj' <;> assumption)
      have HW : ∀ j, D j = true → 1 ∉ lk7W j := fun j _ h => by
        unfold lk7W at h
        (repeat' split at h) <;> simp at h
      have hst := lk7S ns ls s q N Q d p1 p2 c1 c2 0 0 w.heap.size
      refine ⟨⟨#[undef, undef, undef, undef, undef, undef, undef, undef, undef, undef, undef, undef, undef, undef, undef, undef, undef, undef, undef, undef, undef, undef, undef, undef, undef, undef, undef, .agg (bkV p1 c1 p2 c2 ns.length ls.length), undef, undef, undef, undef, undef, undef, undef, undef, undef, undef, undef, undef, undef, undef, undef, undef, undef, undef, undef, undef, undef, undef, undef, undef, undef, undef, undef, undef, undef, undef, undef, undef, undef, undef, undef, undef, undef, undef, undef, undef, undef, undef, undef, undef, undef, undef, undef, undef, undef, undef, undef, undef, undef, undef, undef, undef, undef, undef, undef, undef, undef, undef, undef, undef, undef, undef, undef, undef, undef, undef, undef, undef, undef, undef, undef, undef, undef, undef, undef, undef, undef, undef, undef, undef], []⟩, ?_, ?_⟩
      · intro t ht
        have ht' : t ∈ ([27] : List Nat) := ht
        simp only [List.mem_cons, List.not_mem_nil, or_false] at ht'
        subst ht'
        exact e0.symm
      · skip
        have C := M.ruleAll; simp only [Go.Proofs.Ytinjjaoikofkdaa.ruleAll] at C
        refine yield_walk (ops := #[]) rfl rfl (show 28 < 112 by decide) ?_
        go_wp2_with (first | (go_at_call 9; fail))
        refine (HT _ M.below).mono ?_
        rintro e w1 ⟨ga, gb, csa, csb, rfl, hga, hgb, hsa, hsb, M'⟩
        go_wp2
        exact S.add (i := 1) hst (by decide) hi0 HR HW M' (new_box2 hga hgb) ⟨ga, gb, csa, csb, updG_at .., hsa, hsb, rfl⟩
    · simp only [List.getElem?_cons_succ, List.getElem?_cons_zero, Option.some.injEq] at hi
      subst hi
      have M := S.base
      have HR : ∀ j ∈ lk7R 2, D j = true := (fun _ h => by cases h)
      have HW : ∀ j, D j = true → 2 ∉ lk7W j := fun j _ h => by
        unfold lk7W at h
        (repeat' split at h) <;> simp at h
      have hst := lk7S ns ls s q N Q d p1 p2 c1 c2 0 0 w.heap.size
      refine ⟨⟨#[undef, .string s, undef, undef, undef, undef, undef, undef, undef, undef, undef, undef, undef, undef, undef, undef, undef, undef, undef, undef, undef, undef, undef, undef, undef, undef, undef, undef, undef, undef, undef, undef, undef, undef, undef, undef, undef, undef, undef, undef, undef, undef, undef, undef, undef, undef, undef, undef, undef, undef, undef, undef, undef, undef, undef, undef, undef, undef, undef, undef, undef, undef, undef, undef, undef, undef, undef, undef, undef, undef, undef, undef, undef, undef, undef, undef, undef, undef, undef, undef, undef, undef, undef, undef, undef, undef, undef, undef, undef, undef, undef, undef, undef, undef, undef, undef, undef, undef, undef, undef, undef, undef, undef, undef, undef, undef, undef, undef, undef, undef, undef, undef], []⟩, ?_, ?_⟩
      · intro t ht
        have ht' : t ∈ ([1] : List Nat) := ht
        simp only [List.mem_cons, List.not_mem_nil, or_false] at ht'
        subst ht'
        exact rfl
      · skip
        have C := M.ruleAll; simp only [Go.Proofs.Ytinjjaoikofkdaa.ruleAll] at C
        refine yield_walk (ops := #[]) rfl rfl (show 29 < 112 by decide) ?_
        go_wp2
        exact S.val (i := 2) hst (by decide) hi0 HR HW (Below.refl _ _) ⟨updG_at .., rfl⟩
    · simp only [List.getElem?_cons_succ, List.getElem?_cons_zero, Option.some.injEq] at hi
      subst hi
      have M := S.base
      have HR : ∀ j ∈ lk7R 3, D j = true := (fun _ h => by cases h)
      have HW : ∀ j, D j = true → 3 ∉ lk7W j := fun j _ h => by
        unfold lk7W at h
        (repeat' split at h) <;> simp at h
      have hst := lk7S ns ls s q N Q d p1 p2 c1 c2 0 0 w.heap.size
      refine ⟨⟨#[undef, undef, undef, undef, undef, .pointer (some ⟨bq, 0, none⟩), undef, undef, undef, undef, undef, undef, undef, undef, undef, undef, undef, undef, undef, undef, undef, undef, undef, undef, undef, undef, undef, undef, undef, undef, undef, undef, undef, undef, undef, undef, undef, undef, undef, undef, undef, undef, undef, undef, undef, undef, undef, undef, undef, undef, undef, undef, undef, undef, undef, undef, undef, undef, undef, undef, undef, undef, undef, undef, undef, undef, undef, undef, undef, undef, undef, undef, undef, undef, undef, undef, undef, undef, undef, undef, undef, undef, undef, undef, undef, undef, undef, undef, undef, undef, undef, undef, undef, undef, undef, undef, undef, undef, undef, undef, undef, undef, undef, undef, undef, undef, undef, undef, undef, undef, undef, undef], []⟩, ?_, ?_⟩
      · intro t ht
        have ht' : t ∈ ([5] : List Nat) := ht
        simp only [List.mem_cons, List.not_mem_nil, or_false] at ht'
        subst ht'
        exact rfl
      · skip
        have C := M.ruleAll; simp only [Go.Proofs.Ytinjjaoikofkdaa.ruleAll] at C
        refine yield_walk (ops := #[]) rfl rfl (show 30 < 112 by decide) ?_
        go_wp2_with (first | ((with_reducible apply wpM_lda' M 0 39 0 (sqs q.n q.t)); rfl; rfl; rfl; exact ⟨rfl, inf_sq0.trans (congrArg some (sqs_size ..).symm), _, und_sq0, rfl⟩; exact whole_of rfl))
        exact S.val (i := 3) hst (by decide) hi0 HR HW (Below.refl _ _) ⟨updG_at .., rfl⟩
    · simp only [List.getElem?_cons_succ, List.getElem?_cons_zero, Option.some.injEq] at hi
      subst hi
      have d3 : D 3 = true := hpre _ (Array.mem_of_getElem? (i := 0) rfl) rfl
      have d1 : D 1 = true := hpre _ (Array.mem_of_getElem? (i := 1) rfl) rfl
      have d0 : D 0 = true := S.anc 1 d1 0 (show 0 ∈ lk7R 1 by decide)
      obtain ⟨E, P, M⟩ := S.get [3] (by decide) (by intro j hj; simp only [List.mem_cons, List.not_mem_nil, or_false] at hj; subst hj <;> assumption)
      obtain ⟨e3, E3⟩ : g 3 = .agg (sqs q.n q.t) ∧ E 3 = [] := P 3 (by decide)
      simp only [List.flatMap_cons, List.flatMap_nil, List.append_nil, E3, List.cons_append, List.nil_append] at M
      clear P
      have HR : ∀ j ∈ lk7R 4, D j = true := (by intro j hj; have hj' : j ∈ ([0, 1, 3] : List Nat) := hj; simp only [List.mem_cons, List.not_mem_nil, or_false] at hj'; rcases hj' with rfl | rfl | rfl <;> assumption)
      have HW : ∀ j, D j = true → 4 ∉ lk7W j := fun j _ h => by
        unfold lk7W at h
        (repeat' split at h) <;> simp at h
      have hst := lk7S ns ls s q N Q d p1 p2 c1 c2 0 0 w.heap.size
      refine ⟨⟨#[undef, undef, undef, undef, undef, undef, undef, undef, undef, undef, undef, undef, undef, undef, undef, undef, undef, undef, undef, undef, undef, undef, undef, undef, undef, undef, undef, undef, undef, undef, .agg (sqs q.n q.t), undef, undef, undef, undef, undef, undef, undef, undef, undef, undef, undef, undef, undef, undef, undef, undef, undef, undef, undef, undef, undef, undef, undef, undef, undef, undef, undef, undef, undef, undef, undef, undef, undef, undef, undef, undef, undef, undef, undef, undef, undef, undef, undef, undef, undef, undef, undef, undef, undef, undef, undef, undef, undef, undef, undef, undef, undef, undef, undef, undef, undef, undef, undef, undef, undef, undef, undef, undef, undef, undef, undef, undef, undef, undef, undef, undef, undef, undef, undef, undef, undef], []⟩, ?_, ?_⟩
      · intro t ht
        have ht' : t ∈ ([30] : List Nat) := ht
        simp only [List.mem_cons, List.not_mem_nil, or_false] at ht'
        subst ht'
        exact e3.symm
      · skip
        have C := M.ruleAll; simp only [Go.Proofs.Ytinjjaoikofkdaa.ruleAll] at C
        refine yield_walk (ops := #[]) rfl rfl (show 31 < 112 by decide) ?_
        go_wp2_with (first | (go_at_call 15; fail))
        refine (HSQ _).mono ?_
        rintro e w1 ⟨rfl, hb⟩
        go_wp2
        exact S.val (i := 4) hst (by decide) hi0 HR HW hb ⟨updG_at .., rfl⟩
    · simp only [List.getElem?_cons_succ, List.getElem?_cons_zero, Option.some.injEq] at hi
      subst hi
      have d1 : D 1 = true := hpre _ (Array.mem_of_getElem? (i := 0) rfl) rfl
      have d2 : D 2 = true := hpre _ (Array.mem_of_getElem? (i := 1) rfl) rfl
      have d4 : D 4 = true := hpre _ (Array.mem_of_getElem? (i := 2) rfl) rfl
      have d0 : D 0 = true := S.anc 4 d4 0 (show 0 ∈ lk7R 4 by decide)
      have d3 : D 3 = true := S.anc 4 d4 3 (show 3 ∈ lk7R 4 by decide)
      obtain ⟨E, P, M⟩ := S.get [1, 2, 4] (by decide) (by intro j hj; simp only [List.mem_cons, List.not_mem_nil, or_false] at hj; rcases hj with rfl | rfl | rfl <;> assumption)
      obtain ⟨ga, gb, csa, csb, e1, hsa, hsb, E1⟩ : ∃ ga gb csa csb, g 1 = .agg (bkA ga ns.length gb ls.length ns.length ls.length) ∧ strC ns csa ∧ sqaC ls csb ∧ E 1 = [.box ga csa 9, .box gb csb 43] := P 1 (by decide)
      obtain ⟨e2, E2⟩ : g 2 = .string s ∧ E 2 = [] := P 2 (by decide)
      obtain ⟨e4, E4⟩ : g 4 = .agg (sqs q.n q.t) ∧ E 4 = [] := P 4 (by decide)
      simp only [List.flatMap_cons, List.flatMap_nil, List.append_nil, E1, E2, E4, List.cons_append, List.nil_append] at M
      clear P
      have HR : ∀ j ∈ lk7R 5, D j = true := (by intro j hj; have hj' : j ∈ ([0, 1, 2, 3, 4] : List Nat) := hj; simp only [List.mem_cons, List.not_mem_nil, or_false] at hj'; rcases hj' with rfl | rfl | rfl | rfl | rfl <;> assumption)
      have HW : ∀ j, D j = true → 5 ∉ lk7W j := fun j _ h => by
        unfold lk7W at h
        (repeat' split at h) <;> simp at h
      have hst := lk7S ns ls s q N Q d p1 p2 c1 c2 0 0 w.heap.size
      refine ⟨⟨#[undef, undef, undef, undef, undef, undef, undef, undef, undef, undef, undef, undef, undef, undef, undef, undef, undef, undef, undef, undef, undef, undef, undef, undef, undef, undef, undef, undef, .agg (bkA ga ns.length gb ls.length ns.length ls.length), .string s, undef, .agg (sqs q.n q.t), undef, undef, undef, undef, undef, undef, undef, undef, undef, undef, undef, undef, undef, undef, undef, undef, undef, undef, undef, undef, undef, undef, undef, undef, undef, undef, undef, undef, undef, undef, undef, undef, undef, undef, undef, undef, undef, undef, undef, undef, undef, undef, undef, undef, undef, undef, undef, undef, undef, undef, undef, undef, undef, undef, undef, undef, undef, undef, undef, undef, undef, undef, undef, undef, undef, undef, undef, undef, undef, undef, undef, undef, undef, undef, undef, undef, undef, undef, undef, undef], []⟩, ?_, ?_⟩
      · intro t ht
        have ht' : t ∈ ([28, 29, 31] : List Nat) := ht
        simp only [List.mem_cons, List.not_mem_nil, or_false] at ht'
        rcases ht' with rfl | rfl | rfl
        · exact e1.symm
        · exact e2.symm
        · exact e4.symm
      · skip
        have C := M.ruleAll; simp only [Go.Proofs.Ytinjjaoikofkdaa.ruleAll] at C
        refine yield_walk (ops := #[]) rfl rfl (show 32 < 112 by decide) ?_
        go_wp2_with (first | (go_at_call 14; fail))
        refine (HS.out _ _ _ (BkHere.of M 0 1 (by decide) rfl rfl hsa hsb)).mono ?_
        rintro e w1 ⟨pa, ca, pb, cb, rfl, M'⟩
        go_wp2
        exact S.add (i := 5) hst (by decide) hi0 HR HW (M'.weakRows S.base.size S.base.size) (newRowsW M') ⟨pa, ca, pb, cb, updG_at .., rfl⟩
    · simp only [List.getElem?_cons_succ, List.getElem?_cons_zero, Option.some.injEq] at hi
      subst hi
      have d5 : D 5 = true := hpre _ (Array.mem_of_getElem? (i := 0) rfl) rfl
      have d0 : D 0 = true := S.anc 5 d5 0 (show 0 ∈ lk7R 5 by decide)
      have d1 : D 1 = true := S.anc 5 d5 1 (show 1 ∈ lk7R 5 by decide)
      have d2 : D 2 = true := S.anc 5 d5 2 (show 2 ∈ lk7R 5 by decide)
      have d3 : D 3 = true := S.anc 5 d5 3 (show 3 ∈ lk7R 5 by decide)
      have d4 : D 4 = true := S.anc 5 d5 4 (show 4 ∈ lk7R 5 by decide)
      obtain ⟨E, P, M⟩ := S.get [5] (by decide) (by intro j hj; simp only [List.mem_cons, List.not_mem_nil, or_false] at hj; subst hj <;> assumption)
      obtain ⟨pa, ca, pb, cb, e5, E5⟩ : ∃ pa ca pb cb, g 5 = .tuple #[.agg (bkV pa ca pb cb N.length Q.length), .int .i64 d] ∧ E 5 = [.row w.heap.size (.slice pa N.length ca) N.length (nmR N) 9 1, .row w.heap.size (.slice pb Q.length cb) Q.length (slC Q) 43 101] := P 5 (by decide)
      simp only [List.flatMap_cons, List.flatMap_nil, List.append_nil, E5, List.cons_append, List.nil_append] at M
      clear P
      have HR : ∀ j ∈ lk7R 6, D j = true := (by intro j hj; have hj' : j ∈ ([0, 1, 2, 3, 4, 5] : List Nat) := hj; simp only [List.mem_cons, List.not_mem_nil, or_false] at hj'; rcases hj' with rfl | rfl | rfl | rfl | rfl | rfl <;> assumption)
      have HW : ∀ j, D j = true → 6 ∉ lk7W j := fun j _ h => by
        unfold lk7W at h
        (repeat' split at h) <;> simp at h
      have hst := lk7S ns ls s q N Q d p1 p2 c1 c2 0 0 w.heap.size
      refine ⟨⟨#[undef, undef, undef, undef, undef, undef, undef, undef, undef, undef, undef, undef, undef, undef, undef, undef, undef, undef, undef, undef, undef, undef, undef, undef, undef, undef, undef, undef, undef, undef, undef, undef, .tuple #[.agg (bkV pa ca pb cb N.length Q.length), .int .i64 d], undef, undef, undef, undef, undef, undef, undef, undef, undef, undef, undef, undef, undef, undef, undef, undef, undef, undef, undef, undef, undef, undef, undef, undef, undef, undef, undef, undef, undef, undef, undef, undef, undef, undef, undef, undef, undef, undef, undef, undef, undef, undef, undef, undef, undef, undef, undef, undef, undef, undef, undef, undef, undef, undef, undef, undef, undef, undef, undef, undef, undef, undef, undef, undef, undef, undef, undef, undef, undef, undef, undef, undef, undef, undef, undef, undef, undef, undef, undef], []⟩, ?_, ?_⟩
      · intro t ht
        have ht' : t ∈ ([32] : List Nat) := ht
        simp only [List.mem_cons, List.not_mem_nil, or_false] at ht'
        subst ht'
        exact e5.symm
      · skip
        have C := M.ruleAll; simp only [Go.Proofs.Ytinjjaoikofkdaa.ruleAll] at C
        refine yield_walk (ops := #[]) rfl rfl (show 26 < 112 by decide) ?_
        go_wp2
        exact S.val (i := 6) hst (by decide) hi0 HR HW (Below.refl _ _) ⟨pa, ca, pb, cb, (updG_ne (by decide)).trans e5, updG_at .., rfl⟩
    · simp only [List.getElem?_cons_succ, List.getElem?_cons_zero, Option.some.injEq] at hi
      subst hi
      have d6 : D 6 = true := hpre _ (Array.mem_of_getElem? (i := 0) rfl) rfl
      have d0 : D 0 = true := S.anc 6 d6 0 (show 0 ∈ lk7R 6 by decide)
      have d1 : D 1 = true := S.anc 6 d6 1 (show 1 ∈ lk7R 6 by decide)
      have d2 : D 2 = true := S.anc 6 d6 2 (show 2 ∈ lk7R 6 by decide)
      have d3 : D 3 = true := S.anc 6 d6 3 (show 3 ∈ lk7R 6 by decide)
      have d4 : D 4 = true := S.anc 6 d6 4 (show 4 ∈ lk7R 6 by decide)
      have d5 : D 5 = true := S.anc 6 d6 5 (show 5 ∈ lk7R 6 by decide)
      obtain ⟨E, P, M⟩ := S.get [6] (by decide) (by intro j hj; simp only [List.mem_cons, List.not_mem_nil, or_false] at hj; subst hj <;> assumption)
      obtain ⟨pa, ca, pb, cb, er6, e6, E6⟩ : ∃ pa ca pb cb, g 5 = .tuple #[.agg (bkV pa ca pb cb N.length Q.length), .int .i64 d] ∧ g 6 = .tuple #[.agg (bkV pa ca pb cb N.length Q.length), .int .i64 d] ∧ E 6 = [] := P 6 (by decide)
      simp only [List.flatMap_cons, List.flatMap_nil, List.append_nil, E6, List.cons_append, List.nil_append] at M
      clear P
      have HR : ∀ j ∈ lk7R 7, D j = true := (by intro j hj; have hj' : j ∈ ([0, 1, 2, 3, 4, 5, 6] : List Nat) := hj; simp only [List.mem_cons, List.not_mem_nil, or_false] at hj'; rcases hj' with rfl | rfl | rfl | rfl | rfl | rfl | rfl <;> assumption)
      have HW : ∀ j, D j = true → 7 ∉ lk7W j := fun j _ h => by
        unfold lk7W at h
        (repeat' split at h) <;> simp at h
      have hst := lk7S ns ls s q N Q d p1 p2 c1 c2 0 0 w.heap.size
      refine ⟨⟨#[undef, undef, undef, undef, undef, undef, undef, undef, undef, undef, undef, undef, undef, undef, undef, undef, undef, undef, undef, undef, undef, undef, undef, undef, undef, undef, .tuple #[.agg (bkV pa ca pb cb N.length Q.length), .int .i64 d], undef, undef, undef, undef, undef, undef, undef, undef, undef, undef, undef, undef, undef, undef, undef, undef, undef, undef, undef, undef, undef, undef, undef, undef, undef, undef, undef, undef, undef, undef, undef, undef, undef, undef, undef, undef, undef, undef, undef, undef, undef, undef, undef, undef, undef, undef, undef, undef, undef, undef, undef, undef, undef, undef, undef, undef, undef, undef, undef, undef, undef, undef, undef, undef, undef, undef, undef, undef, undef, undef, undef, undef, undef, undef, undef, undef, undef, undef, undef, undef, undef, undef, undef, undef, undef], []⟩, ?_, ?_⟩
      · intro t ht
        have ht' : t ∈ ([26] : List Nat) := ht
        simp only [List.mem_cons, List.not_mem_nil, or_false] at ht'
        subst ht'
        exact e6.symm
      · skip
        have C := M.ruleAll; simp only [Go.Proofs.Ytinjjaoikofkdaa.ruleAll] at C
        refine yield_walk (ops := #[]) rfl rfl (show 33 < 112 by decide) ?_
        go_wp2
        exact S.val (i := 7) hst (by decide) hi0 HR HW (Below.refl _ _) ⟨pa, ca, pb, cb, (updG_ne (by decide)).trans er6, updG_at .., rfl⟩
    · simp only [List.getElem?_cons_succ, List.getElem?_cons_zero, Option.some.injEq] at hi
      subst hi
      have d6 : D 6 = true := hpre _ (Array.mem_of_getElem? (i := 0) rfl) rfl
      have d0 : D 0 = true := S.anc 6 d6 0 (show 0 ∈ lk7R 6 by decide)
      have d1 : D 1 = true := S.anc 6 d6 1 (show 1 ∈ lk7R 6 by decide)
      have d2 : D 2 = true := S.anc 6 d6 2 (show 2 ∈ lk7R 6 by decide)
      have d3 : D 3 = true := S.anc 6 d6 3 (show 3 ∈ lk7R 6 by decide)
      have d4 : D 4 = true := S.anc 6 d6 4 (show 4 ∈ lk7R 6 by decide)
      have d5 : D 5 = true := S.anc 6 d6 5 (show 5 ∈ lk7R 6 by decide)
      obtain ⟨E, P, M⟩ := S.get [6] (by decide) (by intro j hj; simp only [List.mem_cons, List.not_mem_nil, or_false] at hj; subst hj <;> assumption)
      obtain ⟨pa, ca, pb, cb, er6, e6, E6⟩ : ∃ pa ca pb cb, g 5 = .tuple #[.agg (bkV pa ca pb cb N.length Q.length), .int .i64 d] ∧ g 6 = .tuple #[.agg (bkV pa ca pb cb N.length Q.length), .int .i64 d] ∧ E 6 = [] := P 6 (by decide)
      simp only [List.flatMap_cons, List.flatMap_nil, List.append_nil, E6, List.cons_append, List.nil_append] at M
      clear P
      have HR : ∀ j ∈ lk7R 8, D j = true := (by intro j hj; have hj' : j ∈ ([0, 1, 2, 3, 4, 5, 6] : List Nat) := hj; simp only [List.mem_cons, List.not_mem_nil, or_false] at hj'; rcases hj' with rfl | rfl | rfl | rfl | rfl | rfl | rfl <;> assumption)
      have HW : ∀ j, D j = true → 8 ∉ lk7W j := fun j _ h => by
        unfold lk7W at h
        (repeat' split at h) <;> simp at h
      have hst := lk7S ns ls s q N Q d p1 p2 c1 c2 0 0 w.heap.size
      refine ⟨⟨#[undef, undef, undef, undef, undef, undef, undef, undef, undef, undef, undef, undef, undef, undef, undef, undef, undef, undef, undef, undef, undef, undef, undef, undef, undef, undef, .tuple #[.agg (bkV pa ca pb cb N.length Q.length), .int .i64 d], undef, undef, undef, undef, undef, undef, undef, undef, undef, undef, undef, undef, undef, undef, undef, undef, undef, undef, undef, undef, undef, undef, undef, undef, undef, undef, undef, undef, undef, undef, undef, undef, undef, undef, undef, undef, undef, undef, undef, undef, undef, undef, undef, undef, undef, undef, undef, undef, undef, undef, undef, undef, undef, undef, undef, undef, undef, undef, undef, undef, undef, undef, undef, undef, undef, undef, undef, undef, undef, undef, undef, undef, undef, undef, undef, undef, undef, undef, undef, undef, undef, undef, undef, undef, undef], []⟩, ?_, ?_⟩
      · intro t ht
        have ht' : t ∈ ([26] : List Nat) := ht
        simp only [List.mem_cons, List.not_mem_nil, or_false] at ht'
        subst ht'
        exact e6.symm
      · skip
        have C := M.ruleAll; simp only [Go.Proofs.Ytinjjaoikofkdaa.ruleAll] at C
        refine yield_walk (ops := #[]) rfl rfl (show 34 < 112 by decide) ?_
        go_wp2
        exact S.val (i := 8) hst (by decide) hi0 HR HW (Below.refl _ _) ⟨pa, ca, pb, cb, (updG_ne (by decide)).trans er6, updG_at .., rfl⟩
    · simp only [List.getElem?_cons_succ, List.getElem?_cons_zero, Option.some.injEq] at hi
      subst hi
      have M := S.base
      have HR : ∀ j ∈ lk7R 9, D j = true := (fun _ h => by cases h)
      have HW : ∀ j, D j = true → 9 ∉ lk7W j := fun j _ h => by
        unfold lk7W at h
        (repeat' split at h) <;> simp at h
      have hst := lk7S ns ls s q N Q d p1 p2 c1 c2 0 0 w.heap.size
      refine ⟨⟨#[undef, undef, undef, undef, undef, undef, undef, undef, undef, undef, undef, undef, undef, undef, undef, undef, undef, undef, undef, undef, undef, undef, undef, undef, undef, undef, undef, undef, undef, undef, undef, undef, undef, undef, undef, undef, undef, undef, undef, undef, undef, undef, undef, undef, undef, undef, undef, undef, undef, undef, undef, undef, undef, undef, undef, undef, undef, undef, undef, undef, undef, undef, undef, undef, undef, undef, undef, undef, undef, undef, undef, undef, undef, undef, undef, undef, undef, undef, undef, undef, undef, undef, undef, undef, undef, undef, undef, undef, undef, undef, undef, undef, undef, undef, undef, undef, undef, undef, undef, undef, undef, undef, undef, undef, undef, undef, undef, undef, undef, undef, undef, undef], []⟩, ?_, ?_⟩
      · intro t ht
        have ht' : t ∈ ([] : List Nat) := ht
        cases ht'
      · skip
        clear M
        have M := Mm.start no w2
        have C := M.ruleAll; simp only [Go.Proofs.Ytinjjaoikofkdaa.ruleAll] at C
        refine yield_walk (ops := #[]) rfl rfl (show 8 < 112 by decide) ?_
        go_wp2_with (first | ((with_reducible apply wpM_alloc' M 29 (bkV none 0 none 0 0 0)); rfl; exact ⟨rfl, _, zero_bkH _, rfl⟩; clear M; (try clear C); intro b8 w9 h_b8 M; have C := M.ruleAll; simp only [Go.Proofs.Ytinjjaoikofkdaa.ruleAll] at C))
        exact S.add (i := 9) hst (by decide) hi0 HR HW M (new_box h_b8) ⟨b8, updG_at .., Nat.le_trans S.base.size h_b8, by rw [S.not_yet hi0 (show 9 ∈ lk7R 10 by decide) (by decide)]; rfl⟩
    · simp only [List.getElem?_cons_succ, List.getElem?_cons_zero, Option.some.injEq] at hi
      subst hi
      have d9 : D 9 = true := hpre _ (Array.mem_of_getElem? (i := 0) rfl) rfl
      have d7 : D 7 = true := hpre _ (Array.mem_of_getElem? (i := 1) rfl) rfl
      have d5 : D 5 = true := hpre _ (Array.mem_of_getElem? (i := 2) rfl) rfl
      have d0 : D 0 = true := hpre _ (Array.mem_of_getElem? (i := 3) rfl) rfl
      have d1 : D 1 = true := hpre _ (Array.mem_of_getElem? (i := 4) rfl) rfl
      have d2 : D 2 = true := hpre _ (Array.mem_of_getElem? (i := 5) rfl) rfl
      have d3 : D 3 = true := hpre _ (Array.mem_of_getElem? (i := 6) rfl) rfl
      have d4 : D 4 = true := hpre _ (Array.mem_of_getElem? (i := 7) rfl) rfl
      have d6 : D 6 = true := hpre _ (Array.mem_of_getElem? (i := 9) rfl) rfl
      obtain ⟨E, P, M⟩ := S.get [7] (by decide) (by intro j hj; simp only [List.mem_cons, List.not_mem_nil, or_false] at hj; subst hj <;> assumption)
      obtain ⟨pa, ca, pb, cb, er7, e7, E7⟩ : ∃ pa ca pb cb, g 5 = .tuple #[.agg (bkV pa ca pb cb N.length Q.length), .int .i64 d] ∧ g 7 = .agg (bkV pa ca pb cb N.length Q.length) ∧ E 7 = [] := P 7 (by decide)
      simp only [List.flatMap_cons, List.flatMap_nil, List.append_nil, E7, List.cons_append, List.nil_append] at M
      clear P
      have HR : ∀ j ∈ lk7R 10, D j = true := (by intro j hj; have hj' : j ∈ ([0, 1, 2, 3, 4, 5, 6, 7, 9] : List Nat) := hj; simp only [List.mem_cons, List.not_mem_nil, or_false] at hj'; rcases hj' with rfl | rfl | rfl | rfl | rfl | rfl | rfl | rfl | rfl <;> assumption)
      have HW : ∀ j, D j = true → j ≠ 9 → 10 ∉ lk7W j := fun j _ hne h => by
        unfold lk7W at h
        (repeat' split at h) <;> first | contradiction | simp at h
      have hst := lk7S ns ls s q N Q d p1 p2 c1 c2 0 0 w.heap.size
      try clear M
      obtain ⟨E', X, P, M, FIN⟩ := S.hand (i := 10) (t := 9) hst (by decide) hi0 HR HW d9
      obtain ⟨b8, e9, hb8, rfl⟩ : ∃ b8, g 9 = .pointer (some ⟨b8, 0, none⟩) ∧ w.heap.size ≤ b8 ∧ E' = (bif D 10 then [] else [.box b8 (bkV none 0 none 0 0 0) 29]) := P
      simp only [hi0, cond_false, List.cons_append, List.nil_append] at M FIN
      refine ⟨⟨#[undef, undef, undef, undef, undef, undef, undef, undef, .pointer (some ⟨b8, 0, none⟩), undef, undef, undef, undef, undef, undef, undef, undef, undef, undef, undef, undef, undef, undef, undef, undef, undef, undef, undef, undef, undef, undef, undef, undef, .agg (bkV pa ca pb cb N.length Q.length), undef, undef, undef, undef, undef, undef, undef, undef, undef, undef, undef, undef, undef, undef, undef, undef, undef, undef, undef, undef, undef, undef, undef, undef, undef, undef, undef, undef, undef, undef, undef, undef, undef, undef, undef, undef, undef, undef, undef, undef, undef, undef, undef, undef, undef, undef, undef, undef, undef, undef, undef, undef, undef, undef, undef, undef, undef, undef, undef, undef, undef, undef, undef, undef, undef, undef, undef, undef, undef, undef, undef, undef, undef, undef, undef, undef, undef, undef], []⟩, ?_, ?_⟩
      · intro t ht
        have ht' : t ∈ ([8, 33] : List Nat) := ht
        simp only [List.mem_cons, List.not_mem_nil, or_false] at ht'
        rcases ht' with rfl | rfl
        · exact e9.symm
        · exact e7.symm
      · skip
        have C := M.ruleAll; simp only [Go.Proofs.Ytinjjaoikofkdaa.ruleAll] at C
        refine yield_store (ops := #[]) (by exact rfl) (by exact rfl) ?_
        go_wp2_with (first | ((with_reducible apply wpM_sta' M 0 29 (bkV pa ca pb cb N.length Q.length)); rfl; rfl; rfl; rfl; (first | exact .inl (by assumption) | exact .inr rfl | exact .inr (by assumption)); exact ⟨rfl, inf_bok.trans (congrArg some (bkv_size ..).symm), flat_bkv _ _ _ _ _ _⟩; (simp only [entCells, List.getElem?_cons_zero, List.getElem?_cons_succ, bkv_size, bkv_size]); clear M; (try clear C); intro w9 M; simp only [List.set_cons_zero, List.set_cons_succ, entBlk, entT, List.getElem?_cons_zero, List.getElem?_cons_succ] at M; have C := M.ruleAll; simp only [Go.Proofs.Ytinjjaoikofkdaa.ruleAll] at C))
        exact FIN _ _ [.box b8 (bkV pa ca pb cb N.length Q.length) 29] M ⟨b8, (updG_ne (by decide)).trans e9, hb8, by rw [updD_at]; rfl⟩ ⟨b8, pa, ca, pb, cb, (updG_ne (by decide)).trans e9, hb8, (updG_ne (by decide)).trans er7, rfl⟩
  case hfirst_lk7 =>
    clear M
    try clear C
    intro o hi D g w2 hpre S
    simp only [List.getElem?_cons_succ, List.getElem?_cons_zero, Option.some.injEq] at hi
    subst hi
    have dall : ∀ i, i < 11 → D i = true := fun i hi => by
      obtain rfl | rfl | rfl | rfl | rfl | rfl | rfl | rfl | rfl | rfl | rfl : i = 0 ∨ i = 1 ∨ i = 2 ∨ i = 3 ∨ i = 4 ∨ i = 5 ∨ i = 6 ∨ i = 7 ∨ i = 8 ∨ i = 9 ∨ i = 10 := by omega
      · exact hpre _ (Array.mem_of_getElem? (i := 2) rfl) rfl
      · exact hpre _ (Array.mem_of_getElem? (i := 3) rfl) rfl
      · exact hpre _ (Array.mem_of_getElem? (i := 4) rfl) rfl
      · exact hpre _ (Array.mem_of_getElem? (i := 5) rfl) rfl
      · exact hpre _ (Array.mem_of_getElem? (i := 6) rfl) rfl
      · exact hpre _ (Array.mem_of_getElem? (i := 7) rfl) rfl
      · exact hpre _ (Array.mem_of_getElem? (i := 8) rfl) rfl
      · exact hpre _ (Array.mem_of_getElem? (i := 9) rfl) rfl
      · exact hpre _ (Array.mem_of_getElem? (i := 0) rfl) rfl
      · exact hpre _ (Array.mem_of_getElem? (i := 11) rfl) rfl
      · exact hpre _ (Array.mem_of_getElem? (i := 1) rfl) rfl
    refine ⟨dall, ?_⟩
    obtain ⟨E, P, M⟩ := S.get [5, 10] (by decide) (by intro j hj; exact dall j (by simp only [List.mem_cons, List.not_mem_nil, or_false] at hj; omega))
    obtain ⟨pa, ca, pb, cb, e5, E5⟩ : ∃ pa ca pb cb, g 5 = .tuple #[.agg (bkV pa ca pb cb N.length Q.length), .int .i64 d] ∧ E 5 = [.row w.heap.size (.slice pa N.length ca) N.length (nmR N) 9 1, .row w.heap.size (.slice pb Q.length cb) Q.length (slC Q) 43 101] := P 5 (by decide)
    obtain ⟨b8, pa', ca', pb', cb', e9, hb8, e5', E10⟩ : ∃ b8 pa ca pb cb, g 9 = .pointer (some ⟨b8, 0, none⟩) ∧ w.heap.size ≤ b8 ∧ g 5 = .tuple #[.agg (bkV pa ca pb cb N.length Q.length), .int .i64 d] ∧ E 10 = [.box b8 (bkV pa ca pb cb N.length Q.length) 29] := P 10 (by decide)
    have hq := e5.symm.trans e5'
    simp only [Value.tuple.injEq, bkV, Array.mk.injEq, List.cons.injEq, and_true, true_and, Value.agg.injEq, Value.slice.injEq] at hq
    obtain ⟨⟨rfl, rfl⟩, rfl, rfl⟩ := hq
    simp only [List.flatMap_cons, List.flatMap_nil, List.append_nil, E5, E10, List.cons_append, List.nil_append] at M
    obtain ⟨_, P8, _⟩ := S.get [8] (by decide) (by intro j hj; exact dall j (by simp only [List.mem_cons, List.not_mem_nil, or_false] at hj; omega))
    obtain ⟨_, _, _, _, _, e8, _⟩ : ∃ pa ca pb cb, g 5 = .tuple #[.agg (bkV pa ca pb cb N.length Q.length), .int .i64 d] ∧ g 8 = .int .i64 d ∧ _ = [] := P8 8 (by decide)
    exact ⟨pa, ca, pb, cb, b8, hb8, e8, e9, M, .inl rfl⟩
  case htail_lk7 =>
    clear M
    try clear C
    intro k o hk hi g w2 hT
    obtain ⟨pa, ca, pb, cb, b8, hb8, e8, e9, M, rfl | ⟨rfl, _⟩⟩ := hT
    · simp only [List.getElem?_cons_succ, List.getElem?_cons_zero, Option.some.injEq] at hi
      subst hi
      refine ⟨⟨#[undef, undef, undef, undef, undef, undef, undef, undef, undef, undef, undef, undef, undef, undef, undef, undef, undef, undef, undef, undef, undef, undef, undef, undef, undef, undef, undef, undef, undef, undef, undef, undef, undef, undef, .int .i64 d, undef, undef, undef, undef, undef, undef, undef, undef, undef, undef, undef, undef, undef, undef, undef, undef, undef, undef, undef, undef, undef, undef, undef, undef, undef, undef, undef, undef, undef, undef, undef, undef, undef, undef, undef, undef, undef, undef, undef, undef, undef, undef, undef, undef, undef, undef, undef, undef, undef, undef, undef, undef, undef, undef, undef, undef, undef, undef, undef, undef, undef, undef, undef, undef, undef, undef, undef, undef, undef, undef, undef, undef, undef, undef, undef, undef, undef], []⟩, ?_, ?_⟩
      · intro t ht
        have ht' : t ∈ ([34] : List Nat) := ht
        simp only [List.mem_cons, List.not_mem_nil, or_false] at ht'
        subst ht'
        exact e8.symm
      · refine yield_walk (ops := #[]) rfl rfl (show 9 < 112 by decide) ?_
        go_wp2
        exact kepT.mk hb8 ((updG_ne (by decide)).trans e8) ((updG_ne (by decide)).trans e9) M (updG_at ..)
    · cases hi
  clear M
  try clear C
  intro g w2 hT
  obtain ⟨pAa, cAa, pAb, cAb, b8, h_b8, e8, e9, M, h | ⟨_, e11⟩⟩ := hT
  · cases h
  simp only [fullAct, e9, e11, Act.put, List.setIfInBounds_toArray, List.set_cons_succ, List.set_cons_zero]
  clear e8 e9 e11
  have C := M.ruleAll; simp only [Go.Proofs.Ytinjjaoikofkdaa.ruleAll] at C
  go_wp2_with (first | ((with_reducible apply wpM_lda' M 4 25 0 (bkV p1 c1 p2 c2 ns.length ls.length)); rfl; rfl; rfl; exact ⟨rfl, inf_bk0.trans (congrArg some (bkv_size ..).symm), _, und_bk0, rfl⟩; exact whole_of rfl) | (go_at_call 9; fail))
  refine (HT _ M.below).mono ?_
  rintro e w1 ⟨g3, g4, cs3, cs4, rfl, hgg3, hgg4, hs3, hs4, M'⟩
  have hzg3 := M.size
  have M9 := M.join2 M' (new_box2 hgg3 hgg4)
  clear M; (try clear C)
  have M := M9
  clear M9 M'
  have C := M.ruleAll; simp only [Go.Proofs.Ytinjjaoikofkdaa.ruleAll] at C
  go_wp2_with (first | ((with_reducible apply wpM_alloc' M 29 (bkZ)); rfl; exact ⟨rfl, _, zero_bok _, rfl⟩; clear M; (try clear C); intro b10 w9 h_b10 M; have C := M.ruleAll; simp only [Go.Proofs.Ytinjjaoikofkdaa.ruleAll] at C) | ((with_reducible apply wpM_sta' M 0 29 (bkA g3 ns.length g4 ls.length ns.length ls.length)); rfl; rfl; rfl; rfl; (first | exact .inl (by assumption) | exact .inr rfl | exact .inr (by assumption)); exact ⟨rfl, inf_bok.trans (congrArg some (bok_size ..).symm), flat_bok _ _ _ _ _ _⟩; (simp only [entCells, List.getElem?_cons_zero, List.getElem?_cons_succ, bok_size, bkz_size]); clear M; (try clear C); intro w9 M; simp only [List.set_cons_zero, List.set_cons_succ, entBlk, entT, List.getElem?_cons_zero, List.getElem?_cons_succ] at M; have C := M.ruleAll; simp only [Go.Proofs.Ytinjjaoikofkdaa.ruleAll] at C))
  refine wp_region_ownN 10 (GrS 10 (lk9P ns ls s q N Q d p1 p2 c1 c2 g3 g4 w.heap.size) lk9R w ([.box b10 (bkA g3 ns.length g4 ls.length ns.length ls.length) 29, .box g3 cs3 9, .box g4 cs4 43, .row w.heap.size (.slice pAa N.length cAa) N.length (nmR N) 9 1, .row w.heap.size (.slice pAb Q.length cAb) Q.length (slC Q) 43 101, .box b8 (bkV pAa cAa pAb cAb N.length Q.length) 29, .box bq (sqs q.n q.t) 39, .box bb (bkV p1 c1 p2 c2 ns.length ls.length) 25])) (kepT 7 8 10 N Q d w ([.box b10 (bkA g3 ns.length g4 ls.length ns.length ls.length) 29, .box g3 cs3 9, .box g4 cs4 43, .row w.heap.size (.slice pAa N.length cAa) N.length (nmR N) 9 1, .row w.heap.size (.slice pAb Q.length cAb) Q.length (slC Q) 43 101, .box b8 (bkV pAa cAa pAb cAb N.length Q.length) 29, .box bq (sqs q.n q.t) 39, .box bb (bkV p1 c1 p2 c2 ns.length ls.length) 25])) (by kernel_rfl) (by kernel_rfl) (by kernel_rfl) (by decide) (GrS.start M _) ?hstep_lk9 ?hfirst_lk9 ?htail_lk9 ?hQ_lk9
  case hstep_lk9 =>
    clear M
    try clear C
    intro i o hlt hi D g w2 hi0 hpre S
    obtain rfl | rfl | rfl | rfl | rfl | rfl | rfl | rfl | rfl | rfl : i = 0 ∨ i = 1 ∨ i = 2 ∨ i = 3 ∨ i = 4 ∨ i = 5 ∨ i = 6 ∨ i = 7 ∨ i = 8 ∨ i = 9 := by omega
    · simp only [List.getElem?_cons_succ, List.getElem?_cons_zero, Option.some.injEq] at hi
      subst hi
      have M := S.base
      have HR : ∀ j ∈ lk9R 0, D j = true := (fun _ h => by cases h)
      have HW : ∀ j, D j = true → 0 ∉ lk9W j := fun j _ h => by
        unfold lk9W at h
        (repeat' split at h) <;> simp at h
      have hst := lk9S ns ls s q N Q d p1 p2 c1 c2 g3 g4 w.heap.size
      refine ⟨⟨#[undef, undef, undef, undef, undef, undef, undef, undef, undef, undef, .pointer (some ⟨b10, 0, none⟩), undef, undef, undef, undef, undef, undef, undef, undef, undef, undef, undef, undef, undef, undef, undef, undef, undef, undef, undef, undef, undef, undef, undef, undef, undef, undef, undef, undef, undef, undef, undef, undef, undef, undef, undef, undef, undef, undef, undef, undef, undef, undef, undef, undef, undef, undef, undef, undef, undef, undef, undef, undef, undef, undef, undef, undef, undef, undef, undef, undef, undef, undef, undef, undef, undef, undef, undef, undef, undef, undef, undef, undef, undef, undef, undef, undef, undef, undef, undef, undef, undef, undef, undef, undef, undef, undef, undef, undef, undef, undef, undef, undef, undef, undef, undef, undef, undef, undef, undef, undef, undef], []⟩, ?_, ?_⟩
      · intro t ht
        have ht' : t ∈ ([10] : List Nat) := ht
        simp only [List.mem_cons, List.not_mem_nil, or_false] at ht'
        subst ht'
        exact rfl
      · skip
        have C := M.ruleAll; simp only [Go.Proofs.Ytinjjaoikofkdaa.ruleAll] at C
        refine yield_walk (ops := #[]) rfl rfl (show 38 < 112 by decide) ?_
        go_wp2_with (first | ((with_reducible apply wpM_lda' M 0 29 0 (bkA g3 ns.length g4 ls.length ns.length ls.length)); rfl; rfl; rfl; exact ⟨rfl, inf_bok.trans (congrArg some (bok_size ..).symm), _, und_bok, rfl⟩; exact whole_of rfl))
        exact S.val (i := 0) hst (by decide) hi0 HR HW (Below.refl _ _) ⟨updG_at .., rfl⟩
    · simp only [List.getElem?_cons_succ, List.getElem?_cons_zero, Option.some.injEq] at hi
      subst hi
      have M := S.base
      have HR : ∀ j ∈ lk9R 1, D j = true := (fun _ h => by cases h)
      have HW : ∀ j, D j = true → 1 ∉ lk9W j := fun j _ h => by
        unfold lk9W at h
        (repeat' split at h) <;> simp at h
      have hst := lk9S ns ls s q N Q d p1 p2 c1 c2 g3 g4 w.heap.size
      refine ⟨⟨#[undef, .string s, undef, undef, undef, undef, undef, undef, undef, undef, undef, undef, undef, undef, undef, undef, undef, undef, undef, undef, undef, undef, undef, undef, undef, undef, undef, undef, undef, undef, undef, undef, undef, undef, undef, undef, undef, undef, undef, undef, undef, undef, undef, undef, undef, undef, undef, undef, undef, undef, undef, undef, undef, undef, undef, undef, undef, undef, undef, undef, undef, undef, undef, undef, undef, undef, undef, undef, undef, undef, undef, undef, undef, undef, undef, undef, undef, undef, undef, undef, undef, undef, undef, undef, undef, undef, undef, undef, undef, undef, undef, undef, undef, undef, undef, undef, undef, undef, undef, undef, undef, undef, undef, undef, undef, undef, undef, undef, undef, undef, undef, undef], []⟩, ?_, ?_⟩
      · intro t ht
        have ht' : t ∈ ([1] : List Nat) := ht
        simp only [List.mem_cons, List.not_mem_nil, or_false] at ht'
        subst ht'
        exact rfl
      · skip
        have C := M.ruleAll; simp only [Go.Proofs.Ytinjjaoikofkdaa.ruleAll] at C
        refine yield_walk (ops := #[]) rfl rfl (show 39 < 112 by decide) ?_
        go_wp2
        exact S.val (i := 1) hst (by decide) hi0 HR HW (Below.refl _ _) ⟨updG_at .., rfl⟩
    · simp only [List.getElem?_cons_succ, List.getElem?_cons_zero, Option.some.injEq] at hi
      subst hi
      have M := S.base
      have HR : ∀ j ∈ lk9R 2, D j = true := (fun _ h => by cases h)
      have HW : ∀ j, D j = true → 2 ∉ lk9W j := fun j _ h => by
        unfold lk9W at h
        (repeat' split at h) <;> simp at h
      have hst := lk9S ns ls s q N Q d p1 p2 c1 c2 g3 g4 w.heap.size
      refine ⟨⟨#[undef, undef, undef, undef, undef, .pointer (some ⟨bq, 0, none⟩), undef, undef, undef, undef, undef, undef, undef, undef, undef, undef, undef, undef, undef, undef, undef, undef, undef, undef, undef, undef, undef, undef, undef, undef, undef, undef, undef, undef, undef, undef, undef, undef, undef, undef, undef, undef, undef, undef, undef, undef, undef, undef, undef, undef, undef, undef, undef, undef, undef, undef, undef, undef, undef, undef, undef, undef, undef, undef, undef, undef, undef, undef, undef, undef, undef, undef, undef, undef, undef, undef, undef, undef, undef, undef, undef, undef, undef, undef, undef, undef, undef, undef, undef, undef, undef, undef, undef, undef, undef, undef, undef, undef, undef, undef, undef, undef, undef, undef, undef, undef, undef, undef, undef, undef, undef, undef], []⟩, ?_, ?_⟩
      · intro t ht
        have ht' : t ∈ ([5] : List Nat) := ht
        simp only [List.mem_cons, List.not_mem_nil, or_false] at ht'
        subst ht'
        exact rfl
      · skip
        have C := M.ruleAll; simp only [Go.Proofs.Ytinjjaoikofkdaa.ruleAll] at C
        refine yield_walk (ops := #[]) rfl rfl (show 40 < 112 by decide) ?_
        go_wp2_with (first | ((with_reducible apply wpM_lda' M 6 39 0 (sqs q.n q.t)); rfl; rfl; rfl; exact ⟨rfl, inf_sq0.trans (congrArg some (sqs_size ..).symm), _, und_sq0, rfl⟩; exact whole_of rfl))
        exact S.val (i := 2) hst (by decide) hi0 HR HW (Below.refl _ _) ⟨updG_at .., rfl⟩
    · simp only [List.getElem?_cons_succ, List.getElem?_cons_zero, Option.some.injEq] at hi
      subst hi
      have d2 : D 2 = true := hpre _ (Array.mem_of_getElem? (i := 0) rfl) rfl
      obtain ⟨E, P, M⟩ := S.get [2] (by decide) (by intro j hj; simp only [List.mem_cons, List.not_mem_nil, or_false] at hj; subst hj <;> assumption)
      obtain ⟨e2, E2⟩ : g 2 = .agg (sqs q.n q.t) ∧ E 2 = [] := P 2 (by decide)
      simp only [List.flatMap_cons, List.flatMap_nil, List.append_nil, E2, List.cons_append, List.nil_append] at M
      clear P
      have HR : ∀ j ∈ lk9R 3, D j = true := (by intro j hj; have hj' : j ∈ ([2] : List Nat) := hj; simp only [List.mem_cons, List.not_mem_nil, or_false] at hj'; subst hj' <;> assumption)
      have HW : ∀ j, D j = true → 3 ∉ lk9W j := fun j _ h => by
        unfold lk9W at h
        (repeat' split at h) <;> simp at h
      have hst := lk9S ns ls s q N Q d p1 p2 c1 c2 g3 g4 w.heap.size
      refine ⟨⟨#[undef, undef, undef, undef, undef, undef, undef, undef, undef, undef, undef, undef, undef, undef, undef, undef, undef, undef, undef, undef, undef, undef, undef, undef, undef, undef, undef, undef, undef, undef, undef, undef, undef, undef, undef, undef, undef, undef, undef, undef, .agg (sqs q.n q.t), undef, undef, undef, undef, undef, undef, undef, undef, undef, undef, undef, undef, undef, undef, undef, undef, undef, undef, undef, undef, undef, undef, undef, undef, undef, undef, undef, undef, undef, undef, undef, undef, undef, undef, undef, undef, undef, undef, undef, undef, undef, undef, undef, undef, undef, undef, undef, undef, undef, undef, undef, undef, undef, undef, undef, undef, undef, undef, undef, undef, undef, undef, undef, undef, undef, undef, undef, undef, undef, undef, undef], []⟩, ?_, ?_⟩
      · intro t ht
        have ht' : t ∈ ([40] : List Nat) := ht
        simp only [List.mem_cons, List.not_mem_nil, or_false] at ht'
        subst ht'
        exact e2.symm
      · skip
        have C := M.ruleAll; simp only [Go.Proofs.Ytinjjaoikofkdaa.ruleAll] at C
        refine yield_walk (ops := #[]) rfl rfl (show 41 < 112 by decide) ?_
        go_wp2_with (first | (go_at_call 15; fail))
        refine (HSQ _).mono ?_
        rintro e w1 ⟨rfl, hb⟩
        go_wp2
        exact S.val (i := 3) hst (by decide) hi0 HR HW hb ⟨updG_at .., rfl⟩
    · simp only [List.getElem?_cons_succ, List.getElem?_cons_zero, Option.some.injEq] at hi
      subst hi
      have d0 : D 0 = true := hpre _ (Array.mem_of_getElem? (i := 0) rfl) rfl
      have d1 : D 1 = true := hpre _ (Array.mem_of_getElem? (i := 1) rfl) rfl
      have d3 : D 3 = true := hpre _ (Array.mem_of_getElem? (i := 2) rfl) rfl
      have d2 : D 2 = true := S.anc 3 d3 2 (show 2 ∈ lk9R 3 by decide)
      obtain ⟨E, P, M⟩ := S.get [0, 1, 3] (by decide) (by intro j hj; simp only [List.mem_cons, List.not_mem_nil, or_false] at hj; rcases hj with rfl | rfl | rfl <;> assumption)
      obtain ⟨e0, E0⟩ : g 0 = .agg (bkA g3 ns.length g4 ls.length ns.length ls.length) ∧ E 0 = [] := P 0 (by decide)
      obtain ⟨e1, E1⟩ : g 1 = .string s ∧ E 1 = [] := P 1 (by decide)
      obtain ⟨e3, E3⟩ : g 3 = .agg (sqs q.n q.t) ∧ E 3 = [] := P 3 (by decide)
      simp only [List.flatMap_cons, List.flatMap_nil, List.append_nil, E0, E1, E3, List.cons_append, List.nil_append] at M
      clear P
      have HR : ∀ j ∈ lk9R 4, D j = true := (by intro j hj; have hj' : j ∈ ([0, 1, 2, 3] : List Nat) := hj; simp only [List.mem_cons, List.not_mem_nil, or_false] at hj'; rcases hj' with rfl | rfl | rfl | rfl <;> assumption)
      have HW : ∀ j, D j = true → 4 ∉ lk9W j := fun j _ h => by
        unfold lk9W at h
        (repeat' split at h) <;> simp at h
      have hst := lk9S ns ls s q N Q d p1 p2 c1 c2 g3 g4 w.heap.size
      refine ⟨⟨#[undef, undef, undef, undef, undef, undef, undef, undef, undef, undef, undef, undef, undef, undef, undef, undef, undef, undef, undef, undef, undef, undef, undef, undef, undef, undef, undef, undef, undef, undef, undef, undef, undef, undef, undef, undef, undef, undef, .agg (bkA g3 ns.length g4 ls.length ns.length ls.length), .string s, undef, .agg (sqs q.n q.t), undef, undef, undef, undef, undef, undef, undef, undef, undef, undef, undef, undef, undef, undef, undef, undef, undef, undef, undef, undef, undef, undef, undef, undef, undef, undef, undef, undef, undef, undef, undef, undef, undef, undef, undef, undef, undef, undef, undef, undef, undef, undef, undef, undef, undef, undef, undef, undef, undef, undef, undef, undef, undef, undef, undef, undef, undef, undef, undef, undef, undef, undef, undef, undef, undef, undef, undef, undef, undef, undef], []⟩, ?_, ?_⟩
      · intro t ht
        have ht' : t ∈ ([38, 39, 41] : List Nat) := ht
        simp only [List.mem_cons, List.not_mem_nil, or_false] at ht'
        rcases ht' with rfl | rfl | rfl
        · exact e0.symm
        · exact e1.symm
        · exact e3.symm
      · skip
        have C := M.ruleAll; simp only [Go.Proofs.Ytinjjaoikofkdaa.ruleAll] at C
        refine yield_walk (ops := #[]) rfl rfl (show 42 < 112 by decide) ?_
        go_wp2_with (first | (go_at_call 16; fail))
        refine (HP.out _ _ _ (BkHere.of M 1 2 (by decide) rfl rfl hs3 hs4)).mono ?_
        rintro e w1 ⟨pa, ca, pb, cb, rfl, M'⟩
        go_wp2
        exact S.add (i := 4) hst (by decide) hi0 HR HW (M'.weakRows S.base.size S.base.size) (newRowsW M') ⟨pa, ca, pb, cb, updG_at .., rfl⟩
    · simp only [List.getElem?_cons_succ, List.getElem?_cons_zero, Option.some.injEq] at hi
      subst hi
      have d4 : D 4 = true := hpre _ (Array.mem_of_getElem? (i := 0) rfl) rfl
      have d0 : D 0 = true := S.anc 4 d4 0 (show 0 ∈ lk9R 4 by decide)
      have d1 : D 1 = true := S.anc 4 d4 1 (show 1 ∈ lk9R 4 by decide)
      have d2 : D 2 = true := S.anc 4 d4 2 (show 2 ∈ lk9R 4 by decide)
      have d3 : D 3 = true := S.anc 4 d4 3 (show 3 ∈ lk9R 4 by decide)
      obtain ⟨E, P, M⟩ := S.get [4] (by decide) (by intro j hj; simp only [List.mem_cons, List.not_mem_nil, or_false] at hj; subst hj <;> assumption)
      obtain ⟨pa, ca, pb, cb, e4, E4⟩ : ∃ pa ca pb cb, g 4 = .tuple #[.agg (bkV pa ca pb cb N.length Q.length), .int .i64 d] ∧ E 4 = [.row w.heap.size (.slice pa N.length ca) N.length (nmR N) 9 1, .row w.heap.size (.slice pb Q.length cb) Q.length (slC Q) 43 101] := P 4 (by decide)
      simp only [List.flatMap_cons, List.flatMap_nil, List.append_nil, E4, List.cons_append, List.nil_append] at M
      clear P
      have HR : ∀ j ∈ lk9R 5, D j = true := (by intro j hj; have hj' : j ∈ ([0, 1, 2, 3, 4] : List Nat) := hj; simp only [List.mem_cons, List.not_mem_nil, or_false] at hj'; rcases hj' with rfl | rfl | rfl | rfl | rfl <;> assumption)
      have HW : ∀ j, D j = true → 5 ∉ lk9W j := fun j _ h => by
        unfold lk9W at h
        (repeat' split at h) <;> simp at h
      have hst := lk9S ns ls s q N Q d p1 p2 c1 c2 g3 g4 w.heap.size
      refine ⟨⟨#[undef, undef, undef, undef, undef, undef, undef, undef, undef, undef, undef, undef, undef, undef, undef, undef, undef, undef, undef, undef, undef, undef, undef, undef, undef, undef, undef, undef, undef, undef, undef, undef, undef, undef, undef, undef, undef, undef, undef, undef, undef, undef, .tuple #[.agg (bkV pa ca pb cb N.length Q.length), .int .i64 d], undef, undef, undef, undef, undef, undef, undef, undef, undef, undef, undef, undef, undef, undef, undef, undef, undef, undef, undef, undef, undef, undef, undef, undef, undef, undef, undef, undef, undef, undef, undef, undef, undef, undef, undef, undef, undef, undef, undef, undef, undef, undef, undef, undef, undef, undef, undef, undef, undef, undef, undef, undef, undef, undef, undef, undef, undef, undef, undef, undef, undef, undef, undef, undef, undef, undef, undef, undef, undef], []⟩, ?_, ?_⟩
      · intro t ht
        have ht' : t ∈ ([42] : List Nat) := ht
        simp only [List.mem_cons, List.not_mem_nil, or_false] at ht'
        subst ht'
        exact e4.symm
      · skip
        have C := M.ruleAll; simp only [Go.Proofs.Ytinjjaoikofkdaa.ruleAll] at C
        refine yield_walk (ops := #[]) rfl rfl (show 37 < 112 by decide) ?_
        go_wp2
        exact S.val (i := 5) hst (by decide) hi0 HR HW (Below.refl _ _) ⟨pa, ca, pb, cb, (updG_ne (by decide)).trans e4, updG_at .., rfl⟩
    · simp only [List.getElem?_cons_succ, List.getElem?_cons_zero, Option.some.injEq] at hi
      subst hi
      have d5 : D 5 = true := hpre _ (Array.mem_of_getElem? (i := 0) rfl) rfl
      have d0 : D 0 = true := S.anc 5 d5 0 (show 0 ∈ lk9R 5 by decide)
      have d1 : D 1 = true := S.anc 5 d5 1 (show 1 ∈ lk9R 5 by decide)
      have d2 : D 2 = true := S.anc 5 d5 2 (show 2 ∈ lk9R 5 by decide)
      have d3 : D 3 = true := S.anc 5 d5 3 (show 3 ∈ lk9R 5 by decide)
      have d4 : D 4 = true := S.anc 5 d5 4 (show 4 ∈ lk9R 5 by decide)
      obtain ⟨E, P, M⟩ := S.get [5] (by decide) (by intro j hj; simp only [List.mem_cons, List.not_mem_nil, or_false] at hj; subst hj <;> assumption)
      obtain ⟨pa, ca, pb, cb, er5, e5, E5⟩ : ∃ pa ca pb cb, g 4 = .tuple #[.agg (bkV pa ca pb cb N.length Q.length), .int .i64 d] ∧ g 5 = .tuple #[.agg (bkV pa ca pb cb N.length Q.length), .int .i64 d] ∧ E 5 = [] := P 5 (by decide)
      simp only [List.flatMap_cons, List.flatMap_nil, List.append_nil, E5, List.cons_append, List.nil_append] at M
      clear P
      have HR : ∀ j ∈ lk9R 6, D j = true := (by intro j hj; have hj' : j ∈ ([0, 1, 2, 3, 4, 5] : List Nat) := hj; simp only [List.mem_cons, List.not_mem_nil, or_false] at hj'; rcases hj' with rfl | rfl | rfl | rfl | rfl | rfl <;> assumption)
      have HW : ∀ j, D j = true → 6 ∉ lk9W j := fun j _ h => by
        unfold lk9W at h
        (repeat' split at h) <;> simp at h
      have hst := lk9S ns ls s q N Q d p1 p2 c1 c2 g3 g4 w.heap.size
      refine ⟨⟨#[undef, undef, undef, undef, undef, undef, undef, undef, undef, undef, undef, undef, undef, undef, undef, undef, undef, undef, undef, undef, undef, undef, undef, undef, undef, undef, undef, undef, undef, undef, undef, undef, undef, undef, undef, undef, undef, .tuple #[.agg (bkV pa ca pb cb N.length Q.length), .int .i64 d], undef, undef, undef, undef, undef, undef, undef, undef, undef, undef, undef, undef, undef, undef, undef, undef, undef, undef, undef, undef, undef, undef, undef, undef, undef, undef, undef, undef, undef, undef, undef, undef, undef, undef, undef, undef, undef, undef, undef, undef, undef, undef, undef, undef, undef, undef, undef, undef, undef, undef, undef, undef, undef, undef, undef, undef, undef, undef, undef, undef, undef, undef, undef, undef, undef, undef, undef, undef, undef, undef, undef, undef, undef, undef], []⟩, ?_, ?_⟩
      · intro t ht
        have ht' : t ∈ ([37] : List Nat) := ht
        simp only [List.mem_cons, List.not_mem_nil, or_false] at ht'
        subst ht'
        exact e5.symm
      · skip
        have C := M.ruleAll; simp only [Go.Proofs.Ytinjjaoikofkdaa.ruleAll] at C
        refine yield_walk (ops := #[]) rfl rfl (show 43 < 112 by decide) ?_
        go_wp2
        exact S.val (i := 6) hst (by decide) hi0 HR HW (Below.refl _ _) ⟨pa, ca, pb, cb, (updG_ne (by decide)).trans er5, updG_at .., rfl⟩
    · simp only [List.getElem?_cons_succ, List.getElem?_cons_zero, Option.some.injEq] at hi
      subst hi
      have d5 : D 5 = true := hpre _ (Array.mem_of_getElem? (i := 0) rfl) rfl
      have d0 : D 0 = true := S.anc 5 d5 0 (show 0 ∈ lk9R 5 by decide)
      have d1 : D 1 = true := S.anc 5 d5 1 (show 1 ∈ lk9R 5 by decide)
      have d2 : D 2 = true := S.anc 5 d5 2 (show 2 ∈ lk9R 5 by decide)
      have d3 : D 3 = true := S.anc 5 d5 3 (show 3 ∈ lk9R 5 by decide)
      have d4 : D 4 = true := S.anc 5 d5 4 (show 4 ∈ lk9R 5 by decide)
      obtain ⟨E, P, M⟩ := S.get [5] (by decide) (by intro j hj; simp only [List.mem_cons, List.not_mem_nil, or_false] at hj; subst hj <;> assumption)
      obtain ⟨pa, ca, pb, cb, er5, e5, E5⟩ : ∃ pa ca pb cb, g 4 = .tuple #[.agg (bkV pa ca pb cb N.length Q.length), .int .i64 d] ∧ g 5 = .tuple #[.agg (bkV pa ca pb cb N.length Q.length), .int .i64 d] ∧ E 5 = [] := P 5 (by decide)
      simp only [List.flatMap_cons, List.flatMap_nil, List.append_nil, E5, List.cons_append, List.nil_append] at M
      clear P
      have HR : ∀ j ∈ lk9R 7, D j = true := (by intro j hj; have hj' : j ∈ ([0, 1, 2, 3, 4, 5] : List Nat) := hj; simp only [List.mem_cons, List.not_mem_nil, or_false] at hj'; rcases hj' with rfl | rfl | rfl | rfl | rfl | rfl <;> assumption)
      have HW : ∀ j, D j = true → 7 ∉ lk9W j := fun j _ h => by
        unfold lk9W at h
        (repeat' split at h) <;> simp at h
      have hst := lk9S ns ls s q N Q d p1 p2 c1 c2 g3 g4 w.heap.size
      refine ⟨⟨#[undef, undef, undef, undef, undef, undef, undef, undef, undef, undef, undef, undef, undef, undef, undef, undef, undef, undef, undef, undef, undef, undef, undef, undef, undef, undef, undef, undef, undef, undef, undef, undef, undef, undef, undef, undef, undef, .tuple #[.agg (bkV pa ca pb cb N.length Q.length), .int .i64 d], undef, undef, undef, undef, undef, undef, undef, undef, undef, undef, undef, undef, undef, undef, undef, undef, undef, undef, undef, undef, undef, undef, undef, undef, undef, undef, undef, undef, undef, undef, undef, undef, undef, undef, undef, undef, undef, undef, undef, undef, undef, undef, undef, undef, undef, undef, undef, undef, undef, undef, undef, undef, undef, undef, undef, undef, undef, undef, undef, undef, undef, undef, undef, undef, undef, undef, undef, undef, undef, undef, undef, undef, undef, undef], []⟩, ?_, ?_⟩
      · intro t ht
        have ht' : t ∈ ([37] : List Nat) := ht
        simp only [List.mem_cons, List.not_mem_nil, or_false] at ht'
        subst ht'
        exact e5.symm
      · skip
        have C := M.ruleAll; simp only [Go.Proofs.Ytinjjaoikofkdaa.ruleAll] at C
        refine yield_walk (ops := #[]) rfl rfl (show 44 < 112 by decide) ?_
        go_wp2
        exact S.val (i := 7) hst (by decide) hi0 HR HW (Below.refl _ _) ⟨pa, ca, pb, cb, (updG_ne (by decide)).trans er5, updG_at .., rfl⟩
    · simp only [List.getElem?_cons_succ, List.getElem?_cons_zero, Option.some.injEq] at hi
      subst hi
      have M := S.base
      have HR : ∀ j ∈ lk9R 8, D j = true := (fun _ h => by cases h)
      have HW : ∀ j, D j = true → 8 ∉ lk9W j := fun j _ h => by
        unfold lk9W at h
        (repeat' split at h) <;> simp at h
      have hst := lk9S ns ls s q N Q d p1 p2 c1 c2 g3 g4 w.heap.size
      refine ⟨⟨#[undef, undef, undef, undef, undef, undef, undef, undef, undef, undef, undef, undef, undef, undef, undef, undef, undef, undef, undef, undef, undef, undef, undef, undef, undef, undef, undef, undef, undef, undef, undef, undef, undef, undef, undef, undef, undef, undef, undef, undef, undef, undef, undef, undef, undef, undef, undef, undef, undef, undef, undef, undef, undef, undef, undef, undef, undef, undef, undef, undef, undef, undef, undef, undef, undef, undef, undef, undef, undef, undef, undef, undef, undef, undef, undef, undef, undef, undef, undef, undef, undef, undef, undef, undef, undef, undef, undef, undef, undef, undef, undef, undef, undef, undef, undef, undef, undef, undef, undef, undef, undef, undef, undef, undef, undef, undef, undef, undef, undef, undef, undef, undef], []⟩, ?_, ?_⟩
      · intro t ht
        have ht' : t ∈ ([] : List Nat) := ht
        cases ht'
      · skip
        clear M
        have M := Mm.start no w2
        have C := M.ruleAll; simp only [Go.Proofs.Ytinjjaoikofkdaa.ruleAll] at C
        refine yield_walk (ops := #[]) rfl rfl (show 11 < 112 by decide) ?_
        go_wp2_with (first | ((with_reducible apply wpM_alloc' M 29 (bkV none 0 none 0 0 0)); rfl; exact ⟨rfl, _, zero_bkH _, rfl⟩; clear M; (try clear C); intro b8 w9 h_b8 M; have C := M.ruleAll; simp only [Go.Proofs.Ytinjjaoikofkdaa.ruleAll] at C))
        exact S.add (i := 8) hst (by decide) hi0 HR HW M (new_box h_b8) ⟨b8, updG_at .., Nat.le_trans S.base.size h_b8, by rw [S.not_yet hi0 (show 8 ∈ lk9R 9 by decide) (by decide)]; rfl⟩
    · simp only [List.getElem?_cons_succ, List.getElem?_cons_zero, Option.some.injEq] at hi
      subst hi
      have d8 : D 8 = true := hpre _ (Array.mem_of_getElem? (i := 0) rfl) rfl
      have d6 : D 6 = true := hpre _ (Array.mem_of_getElem? (i := 1) rfl) rfl
      have d4 : D 4 = true := hpre _ (Array.mem_of_getElem? (i := 2) rfl) rfl
      have d0 : D 0 = true := hpre _ (Array.mem_of_getElem? (i := 3) rfl) rfl
      have d1 : D 1 = true := hpre _ (Array.mem_of_getElem? (i := 4) rfl) rfl
      have d2 : D 2 = true := hpre _ (Array.mem_of_getElem? (i := 5) rfl) rfl
      have d3 : D 3 = true := hpre _ (Array.mem_of_getElem? (i := 6) rfl) rfl
      have d5 : D 5 = true := hpre _ (Array.mem_of_getElem? (i := 8) rfl) rfl
      obtain ⟨E, P, M⟩ := S.get [6] (by decide) (by intro j hj; simp only [List.mem_cons, List.not_mem_nil, or_false] at hj; subst hj <;> assumption)
      obtain ⟨pa, ca, pb, cb, er6, e6, E6⟩ : ∃ pa ca pb cb, g 4 = .tuple #[.agg (bkV pa ca pb cb N.length Q.length), .int .i64 d] ∧ g 6 = .agg (bkV pa ca pb cb N.length Q.length) ∧ E 6 = [] := P 6 (by decide)
      simp only [List.flatMap_cons, List.flatMap_nil, List.append_nil, E6, List.cons_append, List.nil_append] at M
      clear P
      have HR : ∀ j ∈ lk9R 9, D j = true := (by intro j hj; have hj' : j ∈ ([0, 1, 2, 3, 4, 5, 6, 8] : List Nat) := hj; simp only [List.mem_cons, List.not_mem_nil, or_false] at hj'; rcases hj' with rfl | rfl | rfl | rfl | rfl | rfl | rfl | rfl <;> assumption)
      have HW : ∀ j, D j = true → j ≠ 8 → 9 ∉ lk9W j := fun j _ hne h => by
        unfold lk9W at h
        (repeat' split at h) <;> first | contradiction | simp at h
      have hst := lk9S ns ls s q N Q d p1 p2 c1 c2 g3 g4 w.heap.size
      try clear M
      obtain ⟨E', X, P, M, FIN⟩ := S.hand (i := 9) (t := 8) hst (by decide) hi0 HR HW d8
      obtain ⟨b8, e8, hb8, rfl⟩ : ∃ b8, g 8 = .pointer (some ⟨b8, 0, none⟩) ∧ w.heap.size ≤ b8 ∧ E' = (bif D 9 then [] else [.box b8 (bkV none 0 none 0 0 0) 29]) := P
      simp only [hi0, cond_false, List.cons_append, List.nil_append] at M FIN
      refine ⟨⟨#[undef, undef, undef, undef, undef, undef, undef, undef, undef, undef, undef, .pointer (some ⟨b8, 0, none⟩), undef, undef, undef, undef, undef, undef, undef, undef, undef, undef, undef, undef, undef, undef, undef, undef, undef, undef, undef, undef, undef, undef, undef, undef, undef, undef, undef, undef, undef, undef, undef, .agg (bkV pa ca pb cb N.length Q.length), undef, undef, undef, undef, undef, undef, undef, undef, undef, undef, undef, undef, undef, undef, undef, undef, undef, undef, undef, undef, undef, undef, undef, undef, undef, undef, undef, undef, undef, undef, undef, undef, undef, undef, undef, undef, undef, undef, undef, undef, undef, undef, undef, undef, undef, undef, undef, undef, undef, undef, undef, undef, undef, undef, undef, undef, undef, undef, undef, undef, undef, undef, undef, undef, undef, undef, undef, undef], []⟩, ?_, ?_⟩
      · intro t ht
        have ht' : t ∈ ([11, 43] : List Nat) := ht
        simp only [List.mem_cons, List.not_mem_nil, or_false] at ht'
        rcases ht' with rfl | rfl
        · exact e8.symm
        · exact e6.symm
      · skip
        have C := M.ruleAll; simp only [Go.Proofs.Ytinjjaoikofkdaa.ruleAll] at C
        refine yield_store (ops := #[]) (by exact rfl) (by exact rfl) ?_
        go_wp2_with (first | ((with_reducible apply wpM_sta' M 0 29 (bkV pa ca pb cb N.length Q.length)); rfl; rfl; rfl; rfl; (first | exact .inl (by assumption) | exact .inr rfl | exact .inr (by assumption)); exact ⟨rfl, inf_bok.trans (congrArg some (bkv_size ..).symm), flat_bkv _ _ _ _ _ _⟩; (simp only [entCells, List.getElem?_cons_zero, List.getElem?_cons_succ, bkv_size, bkv_size]); clear M; (try clear C); intro w9 M; simp only [List.set_cons_zero, List.set_cons_succ, entBlk, entT, List.getElem?_cons_zero, List.getElem?_cons_succ] at M; have C := M.ruleAll; simp only [Go.Proofs.Ytinjjaoikofkdaa.ruleAll] at C))
        exact FIN _ _ [.box b8 (bkV pa ca pb cb N.length Q.length) 29] M ⟨b8, (updG_ne (by decide)).trans e8, hb8, by rw [updD_at]; rfl⟩ ⟨b8, pa, ca, pb, cb, (updG_ne (by decide)).trans e8, hb8, (updG_ne (by decide)).trans er6, rfl⟩
  case hfirst_lk9 =>
    clear M
    try clear C
    intro o hi D g w2 hpre S
    simp only [List.getElem?_cons_succ, List.getElem?_cons_zero, Option.some.injEq] at hi
    subst hi
    have dall : ∀ i, i < 10 → D i = true := fun i hi => by
      obtain rfl | rfl | rfl | rfl | rfl | rfl | rfl | rfl | rfl | rfl : i = 0 ∨ i = 1 ∨ i = 2 ∨ i = 3 ∨ i = 4 ∨ i = 5 ∨ i = 6 ∨ i = 7 ∨ i = 8 ∨ i = 9 := by omega
      · exact hpre _ (Array.mem_of_getElem? (i := 2) rfl) rfl
      · exact hpre _ (Array.mem_of_getElem? (i := 3) rfl) rfl
      · exact hpre _ (Array.mem_of_getElem? (i := 4) rfl) rfl
      · exact hpre _ (Array.mem_of_getElem? (i := 5) rfl) rfl
      · exact hpre _ (Array.mem_of_getElem? (i := 6) rfl) rfl
      · exact hpre _ (Array.mem_of_getElem? (i := 7) rfl) rfl
      · exact hpre _ (Array.mem_of_getElem? (i := 8) rfl) rfl
      · exact hpre _ (Array.mem_of_getElem? (i := 0) rfl) rfl
      · exact hpre _ (Array.mem_of_getElem? (i := 10) rfl) rfl
      · exact hpre _ (Array.mem_of_getElem? (i := 1) rfl) rfl
    refine ⟨dall, ?_⟩
    obtain ⟨E, P, M⟩ := S.get [4, 9] (by decide) (by intro j hj; exact dall j (by simp only [List.mem_cons, List.not_mem_nil, or_false] at hj; omega))
    obtain ⟨pa, ca, pb, cb, e5, E5⟩ : ∃ pa ca pb cb, g 4 = .tuple #[.agg (bkV pa ca pb cb N.length Q.length), .int .i64 d] ∧ E 4 = [.row w.heap.size (.slice pa N.length ca) N.length (nmR N) 9 1, .row w.heap.size (.slice pb Q.length cb) Q.length (slC Q) 43 101] := P 4 (by decide)
    obtain ⟨b8, pa', ca', pb', cb', e9, hb8, e5', E10⟩ : ∃ b8 pa ca pb cb, g 8 = .pointer (some ⟨b8, 0, none⟩) ∧ w.heap.size ≤ b8 ∧ g 4 = .tuple #[.agg (bkV pa ca pb cb N.length Q.length), .int .i64 d] ∧ E 9 = [.box b8 (bkV pa ca pb cb N.length Q.length) 29] := P 9 (by decide)
    have hq := e5.symm.trans e5'
    simp only [Value.tuple.injEq, bkV, Array.mk.injEq, List.cons.injEq, and_true, true_and, Value.agg.injEq, Value.slice.injEq] at hq
    obtain ⟨⟨rfl, rfl⟩, rfl, rfl⟩ := hq
    simp only [List.flatMap_cons, List.flatMap_nil, List.append_nil, E5, E10, List.cons_append, List.nil_append] at M
    obtain ⟨_, P8, _⟩ := S.get [7] (by decide) (by intro j hj; exact dall j (by simp only [List.mem_cons, List.not_mem_nil, or_false] at hj; omega))
    obtain ⟨_, _, _, _, _, e8, _⟩ : ∃ pa ca pb cb, g 4 = .tuple #[.agg (bkV pa ca pb cb N.length Q.length), .int .i64 d] ∧ g 7 = .int .i64 d ∧ _ = [] := P8 7 (by decide)
    exact ⟨pa, ca, pb, cb, b8, hb8, e8, e9, M, .inl rfl⟩
  case htail_lk9 =>
    clear M
    try clear C
    intro k o hk hi g w2 hT
    obtain ⟨pa, ca, pb, cb, b8, hb8, e8, e9, M, rfl | ⟨rfl, _⟩⟩ := hT
    · simp only [List.getElem?_cons_succ, List.getElem?_cons_zero, Option.some.injEq] at hi
      subst hi
      refine ⟨⟨#[undef, undef, undef, undef, undef, undef, undef, undef, undef, undef, undef, undef, undef, undef, undef, undef, undef, undef, undef, undef, undef, undef, undef, undef, undef, undef, undef, undef, undef, undef, undef, undef, undef, undef, undef, undef, undef, undef, undef, undef, undef, undef, undef, undef, .int .i64 d, undef, undef, undef, undef, undef, undef, undef, undef, undef, undef, undef, undef, undef, undef, undef, undef, undef, undef, undef, undef, undef, undef, undef, undef, undef, undef, undef, undef, undef, undef, undef, undef, undef, undef, undef, undef, undef, undef, undef, undef, undef, undef, undef, undef, undef, undef, undef, undef, undef, undef, undef, undef, undef, undef, undef, undef, undef, undef, undef, undef, undef, undef, undef, undef, undef, undef, undef], []⟩, ?_, ?_⟩
      · intro t ht
        have ht' : t ∈ ([44] : List Nat) := ht
        simp only [List.mem_cons, List.not_mem_nil, or_false] at ht'
        subst ht'
        exact e8.symm
      · refine yield_walk (ops := #[]) rfl rfl (show 12 < 112 by decide) ?_
        go_wp2
        exact kepT.mk hb8 ((updG_ne (by decide)).trans e8) ((updG_ne (by decide)).trans e9) M (updG_at ..)
    · cases hi
  clear M
  try clear C
  intro g w2 hT
  obtain ⟨pCa, cCa, pCb, cCb, b11, h_b11, e8, e9, M, h | ⟨_, e11⟩⟩ := hT
  · cases h
  simp only [fullAct, e9, e11, Act.put, List.setIfInBounds_toArray, List.set_cons_succ, List.set_cons_zero]
  clear e8 e9 e11
  have C := M.ruleAll; simp only [Go.Proofs.Ytinjjaoikofkdaa.ruleAll] at C
  go_wp2_with (first | ((with_reducible apply wpM_lda' M 2 29 0 (bkV pCa cCa pCb cCb N.length Q.length)); rfl; rfl; rfl; exact ⟨rfl, inf_bok.trans (congrArg some (bkv_size ..).symm), _, und_bok, rfl⟩; exact whole_of rfl) | ((with_reducible apply wpM_lda' M 8 29 0 (bkV pAa cAa pAb cAb N.length Q.length)); rfl; rfl; rfl; exact ⟨rfl, inf_bok.trans (congrArg some (bkv_size ..).symm), _, und_bok, rfl⟩; exact whole_of rfl) | (go_at_call 11; ((with_reducible refine (HEQ.out _ _ _ _ _ _ _ _ _ (nmR_rdq (M.row 0 rfl)) (slR_rdq (M.row 1 rfl)) (nmR_rdq (M.row 6 rfl)) (slR_rdq (M.row 7 rfl))).mono ?_); rintro e w1 ⟨rfl, hb⟩; have hsz := M.size; (try (have G9 := G.later hb; clear G; have G := G9; clear G9)); have M9 := M.later hb; clear M; (try clear C); have M := M9; clear M9; have C := M.ruleAll; simp only [Go.Proofs.Ytinjjaoikofkdaa.ruleAll] at C)))
  apply wp_region_mmf1 M [0, 1] 2 3 _ (StBk ns ls) (by kernel_rfl) (by kernel_rfl) rfl rfl rfl
  case ht => (repeat (first | exact wpTextG_nil | (apply wpTextG_cons; (intro g9 w2 hG; obtain ⟨Lg9, hSt9, G⟩ := hG; have M := G.suffix; have C := M.ruleAll; simp only [Go.Proofs.Ytinjjaoikofkdaa.ruleAll] at C; go_wp2_with (first | ((with_reducible apply wpM_lda' M 3 29 0 (bkA g3 ns.length g4 ls.length ns.length ls.length)); rfl; rfl; rfl; exact ⟨rfl, inf_bok.trans (congrArg some (bok_size ..).symm), _, und_bok, rfl⟩; exact whole_of rfl) | ((with_reducible apply wpM_lda' M 10 25 0 (bkV p1 c1 p2 c2 ns.length ls.length)); rfl; rfl; rfl; exact ⟨rfl, inf_bk0.trans (congrArg some (bkv_size ..).symm), _, und_bk0, rfl⟩; exact whole_of rfl)); exact ⟨rfl, rfl, Lg9, hSt9, G⟩); rfl)))
  case hA =>
    intro Lg w2 h M
    obtain rfl : Lg = [] := h
    refine yield_walk (ops := #[]) rfl rfl (by simp [Act.put]) ?_
    simp only [List.nil_append] at M
    go_wp2_with (first | (go_at_call 9; fail))
    refine (HT _ M.below).mono ?_
    rintro e w1 ⟨g5, g6, cs5, cs6, rfl, hg5, hg6, hs5, hs6, M'⟩
    have M9 := M.join2 M' (new_box2 hg5 hg6)
    go_wp2
    exact ⟨_, ⟨g5, g6, cs5, cs6, rfl, hs5, hs6, rfl⟩, M9⟩
  clear M; (try clear C)
  intro v Lg w2 h M
  obtain ⟨g5, g6, cs5, cs6, rfl, hs5, hs6, rfl⟩ := h
  simp only [List.drop_succ_cons, List.drop_zero, List.cons_append, List.nil_append] at M ⊢
  go_wp2_with (first | (go_at_call 11; ((with_reducible refine (HE.out _ _ _ _ _ (BkHere.of M 6 7 (by decide) rfl rfl hs3 hs4) (BkHere.of M 0 1 (by decide) rfl rfl hs5 hs6)).mono ?_); rintro e w1 ⟨rfl, hb⟩; have hsz := M.size; (try (have G9 := G.later hb; clear G; have G := G9; clear G9)); have M9 := M.later hb; clear M; (try clear C); have M := M9; clear M9; have C := M.ruleAll; simp only [Go.Proofs.Ytinjjaoikofkdaa.ruleAll] at C)) | (go_at_call 12; fail) | ((have M9 := M); clear M9; ((with_reducible apply wpM_lda' M 5 29 0 (bkA g3 ns.length g4 ls.length ns.length ls.length)); rfl; rfl; rfl; exact ⟨rfl, inf_bok.trans (congrArg some (bok_size ..).symm), _, und_bok, rfl⟩; exact whole_of rfl)))
  have M9 := (M.asRow 6 rfl w.heap.size ns.length 1 (Nat.le_trans hzg3 hgg3) (by rw [hs3.1, Nat.mul_one]) hn).asRow 7 rfl w.heap.size ls.length 101 (Nat.le_trans hzg3 hgg4) hs4.1 hm
  simp only [List.set_cons_zero, List.set_cons_succ] at M9
  have M8 := M9.sub [6, 7, 2, 3, 4, 5, 8, 9, 10, 11, 12] (by decide)
  simp only [List.filterMap_cons, List.filterMap_nil, List.getElem?_cons_succ, List.getElem?_cons_zero] at M8
  clear M; (try clear C)
  have M := M8
  clear M8 M9
  have C := M.ruleAll; simp only [Go.Proofs.Ytinjjaoikofkdaa.ruleAll] at C
  refine (markBook_any w.heap.size ns.length ls.length ns.length ls.length (some ⟨g3, 0, none⟩) (some ⟨g4, 0, none⟩) cs3.toList cs4.toList 1 HB.n HB.m (by omega) _ (M.sub [0, 1] (by decide)).anew).mono ?_
  rintro e w2 ⟨rfl, ys1, ys2, hy1, hy2, M'⟩
  have M9 := M.markd (Nat.le_refl _) M'
  clear M; (try clear C)
  have M := M9
  clear M9 M' hy1 hy2
  have C := M.ruleAll; simp only [Go.Proofs.Ytinjjaoikofkdaa.ruleAll] at C
  have hk1 : ¬ ((1 + ns.length + ls.length : Nat) : Int) < 0 := by omega
  generalize ((1 + ns.length + ls.length : Nat) : Int) = kk1 at hk1 ⊢
  have hd1 : decide (kk1 < 0) = false := decide_eq_false hk1
  go_wp2_with (first | ((with_reducible apply wpM_lda' M 4 29 0 (bkV pCa cCa pCb cCb N.length Q.length)); rfl; rfl; rfl; exact ⟨rfl, inf_bok.trans (congrArg some (bkv_size ..).symm), _, und_bok, rfl⟩; exact whole_of rfl) | ((with_reducible apply wpM_lda' M 8 29 0 (bkV pAa cAa pAb cAb N.length Q.length)); rfl; rfl; rfl; exact ⟨rfl, inf_bok.trans (congrArg some (bkv_size ..).symm), _, und_bok, rfl⟩; exact whole_of rfl) | (go_at_call 11; ((with_reducible refine (HEQ.out _ _ _ _ _ _ _ _ _ (nmR_rdq (M.row 2 rfl)) (slR_rdq (M.row 3 rfl)) (nmR_rdq (M.row 6 rfl)) (slR_rdq (M.row 7 rfl))).mono ?_); rintro e w1 ⟨rfl, hb⟩; have hsz := M.size; (try (have G9 := G.later hb; clear G; have G := G9; clear G9)); have M9 := M.later hb; clear M; (try clear C); have M := M9; clear M9; have C := M.ruleAll; simp only [Go.Proofs.Ytinjjaoikofkdaa.ruleAll] at C)) | (go_at_call 12; fail))
  refine (markBook_any _ N.length Q.length _ _ _ _ (nmR N) (slC Q) 1 (by omega) (by omega) (by omega) _ (M.sub [2, 3] (by decide)).anew).mono ?_
  rintro e w3 ⟨rfl, ys3, ys4, hy3, hy4, M'⟩
  have M8 := M.sub [2, 3, 0, 1, 4, 5, 6, 7, 8, 9, 10] (by decide)
  simp only [List.filterMap_cons, List.filterMap_nil, List.getElem?_cons_succ, List.getElem?_cons_zero] at M8
  have M9 := M8.markd (Nat.le_refl _) M'
  clear M; (try clear C)
  have M := M9
  clear M8 M9 M'
  have C := M.ruleAll; simp only [Go.Proofs.Ytinjjaoikofkdaa.ruleAll] at C
  have HHB := Hid2.mk (fun w1 h1 h2 => heldBook1_any N.length Q.length cCa cCb pCa pCb (by omega) (by omega) w1 (fun j => ys4.getD j undef) h1 h2 (fun j hj => by rw [List.getD_eq_getElem?_getD, hy4.2 j hj]; rfl))
  have HY3 := Hid2.mk hy3
  clear hy3 hy4
  have hk2 : ¬ ((1 + N.length + Q.length : Nat) : Int) < 0 := by omega
  generalize ((1 + N.length + Q.length : Nat) : Int) = kk2 at hk2 HHB ⊢
  have hkk : (kk2 == kk2) = true := by simp
  go_wp2_with (first | ((with_reducible apply wpM_lda' M 4 29 0 (bkV pCa cCa pCb cCb N.length Q.length)); rfl; rfl; rfl; exact ⟨rfl, inf_bok.trans (congrArg some (bkv_size ..).symm), _, und_bok, rfl⟩; exact whole_of rfl) | (go_at_call 13; ((with_reducible refine (HHB.out _ (mkdS_rdq HY3.out (M.row 0 rfl)) (rdq_of_own (M.row 1 rfl))).mono ?_); rintro e w1 ⟨rfl, hb⟩; have hsz := M.size; (try (have G9 := G.later hb; clear G; have G := G9; clear G9)); have M9 := M.later hb; clear M; (try clear C); have M := M9; clear M9; have C := M.ruleAll; simp only [Go.Proofs.Ytinjjaoikofkdaa.ruleAll] at C)))
  refine wp_region_ownN 11 (GrS 11 (lk26P ns ls s q N Q d p1 p2 c1 c2 0 0 w.heap.size) lk26R w ([.row w.heap.size (.slice pCa N.length cCa) N.length ys3 9 1, .row w.heap.size (.slice pCb Q.length cCb) Q.length ys4 43 101, .row w.heap.size (.slice (some ⟨g3, 0, none⟩) ns.length ns.length) ns.length ys1 9 1, .row w.heap.size (.slice (some ⟨g4, 0, none⟩) ls.length ls.length) ls.length ys2 43 101, .box b11 (bkV pCa cCa pCb cCb N.length Q.length) 29, .box b10 (bkA g3 ns.length g4 ls.length ns.length ls.length) 29, .row w.heap.size (.slice pAa N.length cAa) N.length (nmR N) 9 1, .row w.heap.size (.slice pAb Q.length cAb) Q.length (slC Q) 43 101, .box b8 (bkV pAa cAa pAb cAb N.length Q.length) 29, .box bq (sqs q.n q.t) 39, .box bb (bkV p1 c1 p2 c2 ns.length ls.length) 25])) (kepT 8 9 11 N Q d w ([.row w.heap.size (.slice pCa N.length cCa) N.length ys3 9 1, .row w.heap.size (.slice pCb Q.length cCb) Q.length ys4 43 101, .row w.heap.size (.slice (some ⟨g3, 0, none⟩) ns.length ns.length) ns.length ys1 9 1, .row w.heap.size (.slice (some ⟨g4, 0, none⟩) ls.length ls.length) ls.length ys2 43 101, .box b11 (bkV pCa cCa pCb cCb N.length Q.length) 29, .box b10 (bkA g3 ns.length g4 ls.length ns.length ls.length) 29, .row w.heap.size (.slice pAa N.length cAa) N.length (nmR N) 9 1, .row w.heap.size (.slice pAb Q.length cAb) Q.length (slC Q) 43 101, .box b8 (bkV pAa cAa pAb cAb N.length Q.length) 29, .box bq (sqs q.n q.t) 39, .box bb (bkV p1 c1 p2 c2 ns.length ls.length) 25])) (by kernel_rfl) (by kernel_rfl) (by kernel_rfl) (by decide) (GrS.start M _) ?hstep_lk26 ?hfirst_lk26 ?htail_lk26 ?hQ_lk26
  case hstep_lk26 =>
    clear M
    try clear C
    intro i o hlt hi D g w2 hi0 hpre S
    obtain rfl | rfl | rfl | rfl | rfl | rfl | rfl | rfl | rfl | rfl | rfl : i = 0 ∨ i = 1 ∨ i = 2 ∨ i = 3 ∨ i = 4 ∨ i = 5 ∨ i = 6 ∨ i = 7 ∨ i = 8 ∨ i = 9 ∨ i = 10 := by omega
    · simp only [List.getElem?_cons_succ, List.getElem?_cons_zero, Option.some.injEq] at hi
      subst hi
      have M := S.base
      have HR : ∀ j ∈ lk26R 0, D j = true := (fun _ h => by cases h)
      have HW : ∀ j, D j = true → 0 ∉ lk26W j := fun j _ h => by
        unfold lk26W at h
        (repeat' split at h) <;> simp at h
      have hst := lk26S ns ls s q N Q d p1 p2 c1 c2 0 0 w.heap.size
      refine ⟨⟨#[undef, undef, undef, .pointer (some ⟨bb, 0, none⟩), undef, undef, undef, undef, undef, undef, undef, undef, undef, undef, undef, undef, undef, undef, undef, undef, undef, undef, undef, undef, undef, undef, undef, undef, undef, undef, undef, undef, undef, undef, undef, undef, undef, undef, undef, undef, undef, undef, undef, undef, undef, undef, undef, undef, undef, undef, undef, undef, undef, undef, undef, undef, undef, undef, undef, undef, undef, undef, undef, undef, undef, undef, undef, undef, undef, undef, undef, undef, undef, undef, undef, undef, undef, undef, undef, undef, undef, undef, undef, undef, undef, undef, undef, undef, undef, undef, undef, undef, undef, undef, undef, undef, undef, undef, undef, undef, undef, undef, undef, undef, undef, undef, undef, undef, undef, undef, undef, undef], []⟩, ?_, ?_⟩
      · intro t ht
        have ht' : t ∈ ([3] : List Nat) := ht
        simp only [List.mem_cons, List.not_mem_nil, or_false] at ht'
        subst ht'
        exact rfl
      · skip
        have C := M.ruleAll; simp only [Go.Proofs.Ytinjjaoikofkdaa.ruleAll] at C
        refine yield_walk (ops := #[]) rfl rfl (show 87 < 112 by decide) ?_
        go_wp2_with (first | ((with_reducible apply wpM_lda' M 10 25 0 (bkV p1 c1 p2 c2 ns.length ls.length)); rfl; rfl; rfl; exact ⟨rfl, inf_bk0.trans (congrArg some (bkv_size ..).symm), _, und_bk0, rfl⟩; exact whole_of rfl))
        exact S.val (i := 0) hst (by decide) hi0 HR HW (Below.refl _ _) ⟨updG_at .., rfl⟩
    · simp only [List.getElem?_cons_succ, List.getElem?_cons_zero, Option.some.injEq] at hi
      subst hi
      have d0 : D 0 = true := hpre _ (Array.mem_of_getElem? (i := 0) rfl) rfl
      obtain ⟨E, P, M⟩ := S.get [0] (by decide) (by intro j hj; simp only [List.mem_cons, List.not_mem_nil, or_false] at hj; subst hj <;> assumption)
      obtain ⟨e0, E0⟩ : g 0 = .agg (bkV p1 c1 p2 c2 ns.length ls.length) ∧ E 0 = [] := P 0 (by decide)
      simp only [List.flatMap_cons, List.flatMap_nil, List.append_nil, E0, List.cons_append, List.nil_append] at M
      clear P
      have HR : ∀ j ∈ lk26R 1, D j = true := (by intro j hj; have hj' : j ∈ ([0] : List Nat) := hj; simp only [List.mem_cons, List.not_mem_nil, or_false] at hj'; subst hj' <;> assumption)
      have HW : ∀ j, D j = true → 1 ∉ lk26W j := fun j _ h => by
        unfold lk26W at h
        (repeat' split at h) <;> simp at h
      have hst := lk26S ns ls s q N Q d p1 p2 c1 c2 0 0 w.heap.size
      refine ⟨⟨#[undef, undef, undef, undef, undef, undef, undef, undef, undef, undef, undef, undef, undef, undef, undef, undef, undef, undef, undef, undef, undef, undef, undef, undef, undef, undef, undef, undef, undef, undef, undef, undef, undef, undef, undef, undef, undef, undef, undef, undef, undef, undef, undef, undef, undef, undef, undef, undef, undef, undef, undef, undef, undef, undef, undef, undef, undef, undef, undef, undef, undef, undef, undef, undef, undef, undef, undef, undef, undef, undef, undef, undef, undef, undef, undef, undef, undef, undef, undef, undef, undef, undef, undef, undef, undef, undef, undef, .agg (bkV p1 c1 p2 c2 ns.length ls.length), undef, undef, undef, undef, undef, undef, undef, undef, undef, undef, undef, undef, undef, undef, undef, undef, undef, undef, undef, undef, undef, undef, undef, undef], []⟩, ?_, ?_⟩
      · intro t ht
        have ht' : t ∈ ([87] : List Nat) := ht
        simp only [List.mem_cons, List.not_mem_nil, or_false] at ht'
        subst ht'
        exact e0.symm
      · skip
        have C := M.ruleAll; simp only [Go.Proofs.Ytinjjaoikofkdaa.ruleAll] at C
        refine yield_walk (ops := #[]) rfl rfl (show 88 < 112 by decide) ?_
        go_wp2_with (first | (go_at_call 9; fail))
        refine (HT _ M.below).mono ?_
        rintro e w1 ⟨ga, gb, csa, csb, rfl, hga, hgb, hsa, hsb, M'⟩
        go_wp2
        exact S.add (i := 1) hst (by decide) hi0 HR HW M' (new_box2 hga hgb) ⟨ga, gb, csa, csb, updG_at .., hsa, hsb, rfl⟩
    · simp only [List.getElem?_cons_succ, List.getElem?_cons_zero, Option.some.injEq] at hi
      subst hi
      have M := S.base
      have HR : ∀ j ∈ lk26R 2, D j = true := (fun _ h => by cases h)
      have HW : ∀ j, D j = true → 2 ∉ lk26W j := fun j _ h => by
        unfold lk26W at h
        (repeat' split at h) <;> simp at h
      have hst := lk26S ns ls s q N Q d p1 p2 c1 c2 0 0 w.heap.size
      refine ⟨⟨#[undef, .string s, undef, undef, undef, undef, undef, undef, undef, undef, undef, undef, undef, undef, undef, undef, undef, undef, undef, undef, undef, undef, undef, undef, undef, undef, undef, undef, undef, undef, undef, undef, undef, undef, undef, undef, undef, undef, undef, undef, undef, undef, undef, undef, undef, undef, undef, undef, undef, undef, undef, undef, undef, undef, undef, undef, undef, undef, undef, undef, undef, undef, undef, undef, undef, undef, undef, undef, undef, undef, undef, undef, undef, undef, undef, undef, undef, undef, undef, undef, undef, undef, undef, undef, undef, undef, undef, undef, undef, undef, undef, undef, undef, undef, undef, undef, undef, undef, undef, undef, undef, undef, undef, undef, undef, undef, undef, undef, undef, undef, undef, undef], []⟩, ?_, ?_⟩
      · intro t ht
        have ht' : t ∈ ([1] : List Nat) := ht
        simp only [List.mem_cons, List.not_mem_nil, or_false] at ht'
        subst ht'
        exact rfl
      · skip
        have C := M.ruleAll; simp only [Go.Proofs.Ytinjjaoikofkdaa.ruleAll] at C
        refine yield_walk (ops := #[]) rfl rfl (show 89 < 112 by decide) ?_
        go_wp2
        exact S.val (i := 2) hst (by decide) hi0 HR HW (Below.refl _ _) ⟨updG_at .., rfl⟩
    · simp only [List.getElem?_cons_succ, List.getElem?_cons_zero, Option.some.injEq] at hi
      subst hi
      have M := S.base
      have HR : ∀ j ∈ lk26R 3, D j = true := (fun _ h => by cases h)
      have HW : ∀ j, D j = true → 3 ∉ lk26W j := fun j _ h => by
        unfold lk26W at h
        (repeat' split at h) <;> simp at h
      have hst := lk26S ns ls s q N Q d p1 p2 c1 c2 0 0 w.heap.size
      refine ⟨⟨#[undef, undef, undef, undef, undef, .pointer (some ⟨bq, 0, none⟩), undef, undef, undef, undef, undef, undef, undef, undef, undef, undef, undef, undef, undef, undef, undef, undef, undef, undef, undef, undef, undef, undef, undef, undef, undef, undef, undef, undef, undef, undef, undef, undef, undef, undef, undef, undef, undef, undef, undef, undef, undef, undef, undef, undef, undef, undef, undef, undef, undef, undef, undef, undef, undef, undef, undef, undef, undef, undef, undef, undef, undef, undef, undef, undef, undef, undef, undef, undef, undef, undef, undef, undef, undef, undef, undef, undef, undef, undef, undef, undef, undef, undef, undef, undef, undef, undef, undef, undef, undef, undef, undef, undef, undef, undef, undef, undef, undef, undef, undef, undef, undef, undef, undef, undef, undef, undef], []⟩, ?_, ?_⟩
      · intro t ht
        have ht' : t ∈ ([5] : List Nat) := ht
        simp only [List.mem_cons, List.not_mem_nil, or_false] at ht'
        subst ht'
        exact rfl
      · skip
        have C := M.ruleAll; simp only [Go.Proofs.Ytinjjaoikofkdaa.ruleAll] at C
        refine yield_walk (ops := #[]) rfl rfl (show 90 < 112 by decide) ?_
        go_wp2_with (first | ((with_reducible apply wpM_lda' M 9 39 0 (sqs q.n q.t)); rfl; rfl; rfl; exact ⟨rfl, inf_sq0.trans (congrArg some (sqs_size ..).symm), _, und_sq0, rfl⟩; exact whole_of rfl))
        exact S.val (i := 3) hst (by decide) hi0 HR HW (Below.refl _ _) ⟨updG_at .., rfl⟩
    · simp only [List.getElem?_cons_succ, List.getElem?_cons_zero, Option.some.injEq] at hi
      subst hi
      have d3 : D 3 = true := hpre _ (Array.mem_of_getElem? (i := 0) rfl) rfl
      have d1 : D 1 = true := hpre _ (Array.mem_of_getElem? (i := 1) rfl) rfl
      have d0 : D 0 = true := S.anc 1 d1 0 (show 0 ∈ lk26R 1 by decide)
      obtain ⟨E, P, M⟩ := S.get [3] (by decide) (by intro j hj; simp only [List.mem_cons, List.not_mem_nil, or_false] at hj; subst hj <;> assumption)
      obtain ⟨e3, E3⟩ : g 3 = .agg (sqs q.n q.t) ∧ E 3 = [] := P 3 (by decide)
      simp only [List.flatMap_cons, List.flatMap_nil, List.append_nil, E3, List.cons_append, List.nil_append] at M
      clear P
      have HR : ∀ j ∈ lk26R 4, D j = true := (by intro j hj; have hj' : j ∈ ([0, 1, 3] : List Nat) := hj; simp only [List.mem_cons, List.not_mem_nil, or_false] at hj'; rcases hj' with rfl | rfl | rfl <;> assumption)
      have HW : ∀ j, D j = true → 4 ∉ lk26W j := fun j _ h => by
        unfold lk26W at h
        (repeat' split at h) <;> simp at h
      have hst := lk26S ns ls s q N Q d p1 p2 c1 c2 0 0 w.heap.size
      refine ⟨⟨#[undef, undef, undef, undef, undef, undef, undef, undef, undef, undef, undef, undef, undef, undef, undef, undef, undef, undef, undef, undef, undef, undef, undef, undef, undef, undef, undef, undef, undef, undef, undef, undef, undef, undef, undef, undef, undef, undef, undef, undef, undef, undef, undef, undef, undef, undef, undef, undef, undef, undef, undef, undef, undef, undef, undef, undef, undef, undef, undef, undef, undef, undef, undef, undef, undef, undef, undef, undef, undef, undef, undef, undef, undef, undef, undef, undef, undef, undef, undef, undef, undef, undef, undef, undef, undef, undef, undef, undef, undef, undef, .agg (sqs q.n q.t), undef, undef, undef, undef, undef, undef, undef, undef, undef, undef, undef, undef, undef, undef, undef, undef, undef, undef, undef, undef, undef], []⟩, ?_, ?_⟩
      · intro t ht
        have ht' : t ∈ ([90] : List Nat) := ht
        simp only [List.mem_cons, List.not_mem_nil, or_false] at ht'
        subst ht'
        exact e3.symm
      · skip
        have C := M.ruleAll; simp only [Go.Proofs.Ytinjjaoikofkdaa.ruleAll] at C
        refine yield_walk (ops := #[]) rfl rfl (show 91 < 112 by decide) ?_
        go_wp2_with (first | (go_at_call 15; fail))
        refine (HSQ _).mono ?_
        rintro e w1 ⟨rfl, hb⟩
        go_wp2
        exact S.val (i := 4) hst (by decide) hi0 HR HW hb ⟨updG_at .., rfl⟩
    · simp only [List.getElem?_cons_succ, List.getElem?_cons_zero, Option.some.injEq] at hi
      subst hi
      have d1 : D 1 = true := hpre _ (Array.mem_of_getElem? (i := 0) rfl) rfl
      have d2 : D 2 = true := hpre _ (Array.mem_of_getElem? (i := 1) rfl) rfl
      have d4 : D 4 = true := hpre _ (Array.mem_of_getElem? (i := 2) rfl) rfl
      have d0 : D 0 = true := S.anc 4 d4 0 (show 0 ∈ lk26R 4 by decide)
      have d3 : D 3 = true := S.anc 4 d4 3 (show 3 ∈ lk26R 4 by decide)
      obtain ⟨E, P, M⟩ := S.get [1, 2, 4] (by decide) (by intro j hj; simp only [List.mem_cons, List.not_mem_nil, or_false] at hj; rcases hj with rfl | rfl | rfl <;> assumption)
      obtain ⟨ga, gb, csa, csb, e1, hsa, hsb, E1⟩ : ∃ ga gb csa csb, g 1 = .agg (bkA ga ns.length gb ls.length ns.length ls.length) ∧ strC ns csa ∧ sqaC ls csb ∧ E 1 = [.box ga csa 9, .box gb csb 43] := P 1 (by decide)
      obtain ⟨e2, E2⟩ : g 2 = .string s ∧ E 2 = [] := P 2 (by decide)
      obtain ⟨e4, E4⟩ : g 4 = .agg (sqs q.n q.t) ∧ E 4 = [] := P 4 (by decide)
      simp only [List.flatMap_cons, List.flatMap_nil, List.append_nil, E1, E2, E4, List.cons_append, List.nil_append] at M
      clear P
      have HR : ∀ j ∈ lk26R 5, D j = true := (by intro j hj; have hj' : j ∈ ([0, 1, 2, 3, 4] : List Nat) := hj; simp only [List.mem_cons, List.not_mem_nil, or_false] at hj'; rcases hj' with rfl | rfl | rfl | rfl | rfl <;> assumption)
      have HW : ∀ j, D j = true → 5 ∉ lk26W j := fun j _ h => by
        unfold lk26W at h
        (repeat' split at h) <;> simp at h
      have hst := lk26S ns ls s q N Q d p1 p2 c1 c2 0 0 w.heap.size
      refine ⟨⟨#[undef, undef, undef, undef, undef, undef, undef, undef, undef, undef, undef, undef, undef, undef, undef, undef, undef, undef, undef, undef, undef, undef, undef, undef, undef, undef, undef, undef, undef, undef, undef, undef, undef, undef, undef, undef, undef, undef, undef, undef, undef, undef, undef, undef, undef, undef, undef, undef, undef, undef, undef, undef, undef, undef, undef, undef, undef, undef, undef, undef, undef, undef, undef, undef, undef, undef, undef, undef, undef, undef, undef, undef, undef, undef, undef, undef, undef, undef, undef, undef, undef, undef, undef, undef, undef, undef, undef, undef, .agg (bkA ga ns.length gb ls.length ns.length ls.length), .string s, undef, .agg (sqs q.n q.t), undef, undef, undef, undef, undef, undef, undef, undef, undef, undef, undef, undef, undef, undef, undef, undef, undef, undef, undef, undef], []⟩, ?_, ?_⟩
      · intro t ht
        have ht' : t ∈ ([88, 89, 91] : List Nat) := ht
        simp only [List.mem_cons, List.not_mem_nil, or_false] at ht'
        rcases ht' with rfl | rfl | rfl
        · exact e1.symm
        · exact e2.symm
        · exact e4.symm
      · skip
        have C := M.ruleAll; simp only [Go.Proofs.Ytinjjaoikofkdaa.ruleAll] at C
        refine yield_walk (ops := #[]) rfl rfl (show 92 < 112 by decide) ?_
        go_wp2_with (first | (go_at_call 16; fail))
        refine (HP.out _ _ _ (BkHere.of M 0 1 (by decide) rfl rfl hsa hsb)).mono ?_
        rintro e w1 ⟨pa, ca, pb, cb, rfl, M'⟩
        go_wp2
        exact S.add (i := 5) hst (by decide) hi0 HR HW (M'.weakRows S.base.size S.base.size) (newRowsW M') ⟨pa, ca, pb, cb, updG_at .., rfl⟩
    · simp only [List.getElem?_cons_succ, List.getElem?_cons_zero, Option.some.injEq] at hi
      subst hi
      have d5 : D 5 = true := hpre _ (Array.mem_of_getElem? (i := 0) rfl) rfl
      have d0 : D 0 = true := S.anc 5 d5 0 (show 0 ∈ lk26R 5 by decide)
      have d1 : D 1 = true := S.anc 5 d5 1 (show 1 ∈ lk26R 5 by decide)
      have d2 : D 2 = true := S.anc 5 d5 2 (show 2 ∈ lk26R 5 by decide)
      have d3 : D 3 = true := S.anc 5 d5 3 (show 3 ∈ lk26R 5 by decide)
      have d4 : D 4 = true := S.anc 5 d5 4 (show 4 ∈ lk26R 5 by decide)
      obtain ⟨E, P, M⟩ := S.get [5] (by decide) (by intro j hj; simp only [List.mem_cons, List.not_mem_nil, or_false] at hj; subst hj <;> assumption)
      obtain ⟨pa, ca, pb, cb, e5, E5⟩ : ∃ pa ca pb cb, g 5 = .tuple #[.agg (bkV pa ca pb cb N.length Q.length), .int .i64 d] ∧ E 5 = [.row w.heap.size (.slice pa N.length ca) N.length (nmR N) 9 1, .row w.heap.size (.slice pb Q.length cb) Q.length (slC Q) 43 101] := P 5 (by decide)
      simp only [List.flatMap_cons, List.flatMap_nil, List.append_nil, E5, List.cons_append, List.nil_append] at M
      clear P
      have HR : ∀ j ∈ lk26R 6, D j = true := (by intro j hj; have hj' : j ∈ ([0, 1, 2, 3, 4, 5] : List Nat) := hj; simp only [List.mem_cons, List.not_mem_nil, or_false] at hj'; rcases hj' with rfl | rfl | rfl | rfl | rfl | rfl <;> assumption)
      have HW : ∀ j, D j = true → 6 ∉ lk26W j := fun j _ h => by
        unfold lk26W at h
        (repeat' split at h) <;> simp at h
      have hst := lk26S ns ls s q N Q d p1 p2 c1 c2 0 0 w.heap.size
      refine ⟨⟨#[undef, undef, undef, undef, undef, undef, undef, undef, undef, undef, undef, undef, undef, undef, undef, undef, undef, undef, undef, undef, undef, undef, undef, undef, undef, undef, undef, undef, undef, undef, undef, undef, undef, undef, undef, undef, undef, undef, undef, undef, undef, undef, undef, undef, undef, undef, undef, undef, undef, undef, undef, undef, undef, undef, undef, undef, undef, undef, undef, undef, undef, undef, undef, undef, undef, undef, undef, undef, undef, undef, undef, undef, undef, undef, undef, undef, undef, undef, undef, undef, undef, undef, undef, undef, undef, undef, undef, undef, undef, undef, undef, undef, .tuple #[.agg (bkV pa ca pb cb N.length Q.length), .int .i64 d], undef, undef, undef, undef, undef, undef, undef, undef, undef, undef, undef, undef, undef, undef, undef, undef, undef, undef, undef], []⟩, ?_, ?_⟩
      · intro t ht
        have ht' : t ∈ ([92] : List Nat) := ht
        simp only [List.mem_cons, List.not_mem_nil, or_false] at ht'
        subst ht'
        exact e5.symm
      · skip
        have C := M.ruleAll; simp only [Go.Proofs.Ytinjjaoikofkdaa.ruleAll] at C
        refine yield_walk (ops := #[]) rfl rfl (show 86 < 112 by decide) ?_
        go_wp2
        exact S.val (i := 6) hst (by decide) hi0 HR HW (Below.refl _ _) ⟨pa, ca, pb, cb, (updG_ne (by decide)).trans e5, updG_at .., rfl⟩
    · simp only [List.getElem?_cons_succ, List.getElem?_cons_zero, Option.some.injEq] at hi
      subst hi
      have d6 : D 6 = true := hpre _ (Array.mem_of_getElem? (i := 0) rfl) rfl
      have d0 : D 0 = true := S.anc 6 d6 0 (show 0 ∈ lk26R 6 by decide)
      have d1 : D 1 = true := S.anc 6 d6 1 (show 1 ∈ lk26R 6 by decide)
      have d2 : D 2 = true := S.anc 6 d6 2 (show 2 ∈ lk26R 6 by decide)
      have d3 : D 3 = true := S.anc 6 d6 3 (show 3 ∈ lk26R 6 by decide)
      have d4 : D 4 = true := S.anc 6 d6 4 (show 4 ∈ lk26R 6 by decide)
      have d5 : D 5 = true := S.anc 6 d6 5 (show 5 ∈ lk26R 6 by decide)
      obtain ⟨E, P, M⟩ := S.get [6] (by decide) (by intro j hj; simp only [List.mem_cons, List.not_mem_nil, or_false] at hj; subst hj <;> assumption)
      obtain ⟨pa, ca, pb, cb, er6, e6, E6⟩ : ∃ pa ca pb cb, g 5 = .tuple #[.agg (bkV pa ca pb cb N.length Q.length), .int .i64 d] ∧ g 6 = .tuple #[.agg (bkV pa ca pb cb N.length Q.length), .int .i64 d] ∧ E 6 = [] := P 6 (by decide)
      simp only [List.flatMap_cons, List.flatMap_nil, List.append_nil, E6, List.cons_append, List.nil_append] at M
      clear P
      have HR : ∀ j ∈ lk26R 7, D j = true := (by intro j hj; have hj' : j ∈ ([0, 1, 2, 3, 4, 5, 6] : List Nat) := hj; simp only [List.mem_cons, List.not_mem_nil, or_false] at hj'; rcases hj' with rfl | rfl | rfl | rfl | rfl | rfl | rfl <;> assumption)
      have HW : ∀ j, D j = true → 7 ∉ lk26W j := fun j _ h => by
        unfold lk26W at h
        (repeat' split at h) <;> simp at h
      have hst := lk26S ns ls s q N Q d p1 p2 c1 c2 0 0 w.heap.size
      refine ⟨⟨#[undef, undef, undef, undef, undef, undef, undef, undef, undef, undef, undef, undef, undef, undef, undef, undef, undef, undef, undef, undef, undef, undef, undef, undef, undef, undef, undef, undef, undef, undef, undef, undef, undef, undef, undef, undef, undef, undef, undef, undef, undef, undef, undef, undef, undef, undef, undef, undef, undef, undef, undef, undef, undef, undef, undef, undef, undef, undef, undef, undef, undef, undef, undef, undef, undef, undef, undef, undef, undef, undef, undef, undef, undef, undef, undef, undef, undef, undef, undef, undef, undef, undef, undef, undef, undef, undef, .tuple #[.agg (bkV pa ca pb cb N.length Q.length), .int .i64 d], undef, undef, undef, undef, undef, undef, undef, undef, undef, undef, undef, undef, undef, undef, undef, undef, undef, undef, undef, undef, undef, undef, undef, undef, undef], []⟩, ?_, ?_⟩
      · intro t ht
        have ht' : t ∈ ([86] : List Nat) := ht
        simp only [List.mem_cons, List.not_mem_nil, or_false] at ht'
        subst ht'
        exact e6.symm
      · skip
        have C := M.ruleAll; simp only [Go.Proofs.Ytinjjaoikofkdaa.ruleAll] at C
        refine yield_walk (ops := #[]) rfl rfl (show 93 < 112 by decide) ?_
        go_wp2
        exact S.val (i := 7) hst (by decide) hi0 HR HW (Below.refl _ _) ⟨pa, ca, pb, cb, (updG_ne (by decide)).trans er6, updG_at .., rfl⟩
    · simp only [List.getElem?_cons_succ, List.getElem?_cons_zero, Option.some.injEq] at hi
      subst hi
      have d6 : D 6 = true := hpre _ (Array.mem_of_getElem? (i := 0) rfl) rfl
      have d0 : D 0 = true := S.anc 6 d6 0 (show 0 ∈ lk26R 6 by decide)
      have d1 : D 1 = true := S.anc 6 d6 1 (show 1 ∈ lk26R 6 by decide)
      have d2 : D 2 = true := S.anc 6 d6 2 (show 2 ∈ lk26R 6 by decide)
      have d3 : D 3 = true := S.anc 6 d6 3 (show 3 ∈ lk26R 6 by decide)
      have d4 : D 4 = true := S.anc 6 d6 4 (show 4 ∈ lk26R 6 by decide)
      have d5 : D 5 = true := S.anc 6 d6 5 (show 5 ∈ lk26R 6 by decide)
      obtain ⟨E, P, M⟩ := S.get [6] (by decide) (by intro j hj; simp only [List.mem_cons, List.not_mem_nil, or_false] at hj; subst hj <;> assumption)
      obtain ⟨pa, ca, pb, cb, er6, e6, E6⟩ : ∃ pa ca pb cb, g 5 = .tuple #[.agg (bkV pa ca pb cb N.length Q.length), .int .i64 d] ∧ g 6 = .tuple #[.agg (bkV pa ca pb cb N.length Q.length), .int .i64 d] ∧ E 6 = [] := P 6 (by decide)
      simp only [List.flatMap_cons, List.flatMap_nil, List.append_nil, E6, List.cons_append, List.nil_append] at M
      clear P
      have HR : ∀ j ∈ lk26R 8, D j = true := (by intro j hj; have hj' : j ∈ ([0, 1, 2, 3, 4, 5, 6] : List Nat) := hj; simp only [List.mem_cons, List.not_mem_nil, or_false] at hj'; rcases hj' with rfl | rfl | rfl | rfl | rfl | rfl | rfl <;> assumption)
      have HW : ∀ j, D j = true → 8 ∉ lk26W j := fun j _ h => by
        unfold lk26W at h
        (repeat' split at h) <;> simp at h
      have hst := lk26S ns ls s q N Q d p1 p2 c1 c2 0 0 w.heap.size
      refine ⟨⟨#[undef, undef, undef, undef, undef, undef, undef, undef, undef, undef, undef, undef, undef, undef, undef, undef, undef, undef, undef, undef, undef, undef, undef, undef, undef, undef, undef, undef, undef, undef, undef, undef, undef, undef, undef, undef, undef, undef, undef, undef, undef, undef, undef, undef, undef, undef, undef, undef, undef, undef, undef, undef, undef, undef, undef, undef, undef, undef, undef, undef, undef, undef, undef, undef, undef, undef, undef, undef, undef, undef, undef, undef, undef, undef, undef, undef, undef, undef, undef, undef, undef, undef, undef, undef, undef, undef, .tuple #[.agg (bkV pa ca pb cb N.length Q.length), .int .i64 d], undef, undef, undef, undef, undef, undef, undef, undef, undef, undef, undef, undef, undef, undef, undef, undef, undef, undef, undef, undef, undef, undef, undef, undef, undef], []⟩, ?_, ?_⟩
      · intro t ht
        have ht' : t ∈ ([86] : List Nat) := ht
        simp only [List.mem_cons, List.not_mem_nil, or_false] at ht'
        subst ht'
        exact e6.symm
      · skip
        have C := M.ruleAll; simp only [Go.Proofs.Ytinjjaoikofkdaa.ruleAll] at C
        refine yield_walk (ops := #[]) rfl rfl (show 94 < 112 by decide) ?_
        go_wp2
        exact S.val (i := 8) hst (by decide) hi0 HR HW (Below.refl _ _) ⟨pa, ca, pb, cb, (updG_ne (by decide)).trans er6, updG_at .., rfl⟩
    · simp only [List.getElem?_cons_succ, List.getElem?_cons_zero, Option.some.injEq] at hi
      subst hi
      have M := S.base
      have HR : ∀ j ∈ lk26R 9, D j = true := (fun _ h => by cases h)
      have HW : ∀ j, D j = true → 9 ∉ lk26W j := fun j _ h => by
        unfold lk26W at h
        (repeat' split at h) <;> simp at h
      have hst := lk26S ns ls s q N Q d p1 p2 c1 c2 0 0 w.heap.size
      refine ⟨⟨#[undef, undef, undef, undef, undef, undef, undef, undef, undef, undef, undef, undef, undef, undef, undef, undef, undef, undef, undef, undef, undef, undef, undef, undef, undef, undef, undef, undef, undef, undef, undef, undef, undef, undef, undef, undef, undef, undef, undef, undef, undef, undef, undef, undef, undef, undef, undef, undef, undef, undef, undef, undef, undef, undef, undef, undef, undef, undef, undef, undef, undef, undef, undef, undef, undef, undef, undef, undef, undef, undef, undef, undef, undef, undef, undef, undef, undef, undef, undef, undef, undef, undef, undef, undef, undef, undef, undef, undef, undef, undef, undef, undef, undef, undef, undef, undef, undef, undef, undef, undef, undef, undef, undef, undef, undef, undef, undef, undef, undef, undef, undef, undef], []⟩, ?_, ?_⟩
      · intro t ht
        have ht' : t ∈ ([] : List Nat) := ht
        cases ht'
      · skip
        clear M
        have M := Mm.start no w2
        have C := M.ruleAll; simp only [Go.Proofs.Ytinjjaoikofkdaa.ruleAll] at C
        refine yield_walk (ops := #[]) rfl rfl (show 16 < 112 by decide) ?_
        go_wp2_with (first | ((with_reducible apply wpM_alloc' M 29 (bkV none 0 none 0 0 0)); rfl; exact ⟨rfl, _, zero_bkH _, rfl⟩; clear M; (try clear C); intro b8 w9 h_b8 M; have C := M.ruleAll; simp only [Go.Proofs.Ytinjjaoikofkdaa.ruleAll] at C))
        exact S.add (i := 9) hst (by decide) hi0 HR HW M (new_box h_b8) ⟨b8, updG_at .., Nat.le_trans S.base.size h_b8, by rw [S.not_yet hi0 (show 9 ∈ lk26R 10 by decide) (by decide)]; rfl⟩
    · simp only [List.getElem?_cons_succ, List.getElem?_cons_zero, Option.some.injEq] at hi
      subst hi
      have d9 : D 9 = true := hpre _ (Array.mem_of_getElem? (i := 0) rfl) rfl
      have d7 : D 7 = true := hpre _ (Array.mem_of_getElem? (i := 1) rfl) rfl
      have d5 : D 5 = true := hpre _ (Array.mem_of_getElem? (i := 2) rfl) rfl
      have d0 : D 0 = true := hpre _ (Array.mem_of_getElem? (i := 3) rfl) rfl
      have d1 : D 1 = true := hpre _ (Array.mem_of_getElem? (i := 4) rfl) rfl
      have d2 : D 2 = true := hpre _ (Array.mem_of_getElem? (i := 5) rfl) rfl
      have d3 : D 3 = true := hpre _ (Array.mem_of_getElem? (i := 6) rfl) rfl
      have d4 : D 4 = true := hpre _ (Array.mem_of_getElem? (i := 7) rfl) rfl
      have d6 : D 6 = true := hpre _ (Array.mem_of_getElem? (i := 9) rfl) rfl
      obtain ⟨E, P, M⟩ := S.get [7] (by decide) (by intro j hj; simp only [List.mem_cons, List.not_mem_nil, or_false] at hj; subst hj <;> assumption)
      obtain ⟨pa, ca, pb, cb, er7, e7, E7⟩ : ∃ pa ca pb cb, g 5 = .tuple #[.agg (bkV pa ca pb cb N.length Q.length), .int .i64 d] ∧ g 7 = .agg (bkV pa ca pb cb N.length Q.length) ∧ E 7 = [] := P 7 (by decide)
      simp only [List.flatMap_cons, List.flatMap_nil, List.append_nil, E7, List.cons_append, List.nil_append] at M
      clear P
      have HR : ∀ j ∈ lk26R 10, D j = true := (by intro j hj; have hj' : j ∈ ([0, 1, 2, 3, 4, 5, 6, 7, 9] : List Nat) := hj; simp only [List.mem_cons, List.not_mem_nil, or_false] at hj'; rcases hj' with rfl | rfl | rfl | rfl | rfl | rfl | rfl | rfl | rfl <;> assumption)
      have HW : ∀ j, D j = true → j ≠ 9 → 10 ∉ lk26W j := fun j _ hne h => by
        unfold lk26W at h
        (repeat' split at h) <;> first | contradiction | simp at h
      have hst := lk26S ns ls s q N Q d p1 p2 c1 c2 0 0 w.heap.size
      try clear M
      obtain ⟨E', X, P, M, FIN⟩ := S.hand (i := 10) (t := 9) hst (by decide) hi0 HR HW d9
      obtain ⟨b8, e9, hb8, rfl⟩ : ∃ b8, g 9 = .pointer (some ⟨b8, 0, none⟩) ∧ w.heap.size ≤ b8 ∧ E' = (bif D 10 then [] else [.box b8 (bkV none 0 none 0 0 0) 29]) := P
      simp only [hi0, cond_false, List.cons_append, List.nil_append] at M FIN
      refine ⟨⟨#[undef, undef, undef, undef, undef, undef, undef, undef, undef, undef, undef, undef, undef, undef, undef, undef, .pointer (some ⟨b8, 0, none⟩), undef, undef, undef, undef, undef, undef, undef, undef, undef, undef, undef, undef, undef, undef, undef, undef, undef, undef, undef, undef, undef, undef, undef, undef, undef, undef, undef, undef, undef, undef, undef, undef, undef, undef, undef, undef, undef, undef, undef, undef, undef, undef, undef, undef, undef, undef, undef, undef, undef, undef, undef, undef, undef, undef, undef, undef, undef, undef, undef, undef, undef, undef, undef, undef, undef, undef, undef, undef, undef, undef, undef, undef, undef, undef, undef, undef, .agg (bkV pa ca pb cb N.length Q.length), undef, undef, undef, undef, undef, undef, undef, undef, undef, undef, undef, undef, undef, undef, undef, undef, undef, undef], []⟩, ?_, ?_⟩
      · intro t ht
        have ht' : t ∈ ([16, 93] : List Nat) := ht
        simp only [List.mem_cons, List.not_mem_nil, or_false] at ht'
        rcases ht' with rfl | rfl
        · exact e9.symm
        · exact e7.symm
      · skip
        have C := M.ruleAll; simp only [Go.Proofs.Ytinjjaoikofkdaa.ruleAll] at C
        refine yield_store (ops := #[]) (by exact rfl) (by exact rfl) ?_
        go_wp2_with (first | ((with_reducible apply wpM_sta' M 0 29 (bkV pa ca pb cb N.length Q.length)); rfl; rfl; rfl; rfl; (first | exact .inl (by assumption) | exact .inr rfl | exact .inr (by assumption)); exact ⟨rfl, inf_bok.trans (congrArg some (bkv_size ..).symm), flat_bkv _ _ _ _ _ _⟩; (simp only [entCells, List.getElem?_cons_zero, List.getElem?_cons_succ, bkv_size, bkv_size]); clear M; (try clear C); intro w9 M; simp only [List.set_cons_zero, List.set_cons_succ, entBlk, entT, List.getElem?_cons_zero, List.getElem?_cons_succ] at M; have C := M.ruleAll; simp only [Go.Proofs.Ytinjjaoikofkdaa.ruleAll] at C))
        exact FIN _ _ [.box b8 (bkV pa ca pb cb N.length Q.length) 29] M ⟨b8, (updG_ne (by decide)).trans e9, hb8, by rw [updD_at]; rfl⟩ ⟨b8, pa, ca, pb, cb, (updG_ne (by decide)).trans e9, hb8, (updG_ne (by decide)).trans er7, rfl⟩
  case hfirst_lk26 =>
    clear M
    try clear C
    intro o hi D g w2 hpre S
    simp only [List.getElem?_cons_succ, List.getElem?_cons_zero, Option.some.injEq] at hi
    subst hi
    have dall : ∀ i, i < 11 → D i = true := fun i hi => by
      obtain rfl | rfl | rfl | rfl | rfl | rfl | rfl | rfl | rfl | rfl | rfl : i = 0 ∨ i = 1 ∨ i = 2 ∨ i = 3 ∨ i = 4 ∨ i = 5 ∨ i = 6 ∨ i = 7 ∨ i = 8 ∨ i = 9 ∨ i = 10 := by omega
      · exact hpre _ (Array.mem_of_getElem? (i := 2) rfl) rfl
      · exact hpre _ (Array.mem_of_getElem? (i := 3) rfl) rfl
      · exact hpre _ (Array.mem_of_getElem? (i := 4) rfl) rfl
      · exact hpre _ (Array.mem_of_getElem? (i := 5) rfl) rfl
      · exact hpre _ (Array.mem_of_getElem? (i := 6) rfl) rfl
      · exact hpre _ (Array.mem_of_getElem? (i := 7) rfl) rfl
      · exact hpre _ (Array.mem_of_getElem? (i := 8) rfl) rfl
      · exact hpre _ (Array.mem_of_getElem? (i := 9) rfl) rfl
      · exact hpre _ (Array.mem_of_getElem? (i := 0) rfl) rfl
      · exact hpre _ (Array.mem_of_getElem? (i := 11) rfl) rfl
      · exact hpre _ (Array.mem_of_getElem? (i := 1) rfl) rfl
    refine ⟨dall, ?_⟩
    obtain ⟨E, P, M⟩ := S.get [5, 10] (by decide) (by intro j hj; exact dall j (by simp only [List.mem_cons, List.not_mem_nil, or_false] at hj; omega))
    obtain ⟨pa, ca, pb, cb, e5, E5⟩ : ∃ pa ca pb cb, g 5 = .tuple #[.agg (bkV pa ca pb cb N.length Q.length), .int .i64 d] ∧ E 5 = [.row w.heap.size (.slice pa N.length ca) N.length (nmR N) 9 1, .row w.heap.size (.slice pb Q.length cb) Q.length (slC Q) 43 101] := P 5 (by decide)
    obtain ⟨b8, pa', ca', pb', cb', e9, hb8, e5', E10⟩ : ∃ b8 pa ca pb cb, g 9 = .pointer (some ⟨b8, 0, none⟩) ∧ w.heap.size ≤ b8 ∧ g 5 = .tuple #[.agg (bkV pa ca pb cb N.length Q.length), .int .i64 d] ∧ E 10 = [.box b8 (bkV pa ca pb cb N.length Q.length) 29] := P 10 (by decide)
    have hq := e5.symm.trans e5'
    simp only [Value.tuple.injEq, bkV, Array.mk.injEq, List.cons.injEq, and_true, true_and, Value.agg.injEq, Value.slice.injEq] at hq
    obtain ⟨⟨rfl, rfl⟩, rfl, rfl⟩ := hq
    simp only [List.flatMap_cons, List.flatMap_nil, List.append_nil, E5, E10, List.cons_append, List.nil_append] at M
    obtain ⟨_, P8, _⟩ := S.get [8] (by decide) (by intro j hj; exact dall j (by simp only [List.mem_cons, List.not_mem_nil, or_false] at hj; omega))
    obtain ⟨_, _, _, _, _, e8, _⟩ : ∃ pa ca pb cb, g 5 = .tuple #[.agg (bkV pa ca pb cb N.length Q.length), .int .i64 d] ∧ g 8 = .int .i64 d ∧ _ = [] := P8 8 (by decide)
    exact ⟨pa, ca, pb, cb, b8, hb8, e8, e9, M, .inl rfl⟩
  case htail_lk26 =>
    clear M
    try clear C
    intro k o hk hi g w2 hT
    obtain ⟨pa, ca, pb, cb, b8, hb8, e8, e9, M, rfl | ⟨rfl, _⟩⟩ := hT
    · simp only [List.getElem?_cons_succ, List.getElem?_cons_zero, Option.some.injEq] at hi
      subst hi
      refine ⟨⟨#[undef, undef, undef, undef, undef, undef, undef, undef, undef, undef, undef, undef, undef, undef, undef, undef, undef, undef, undef, undef, undef, undef, undef, undef, undef, undef, undef, undef, undef, undef, undef, undef, undef, undef, undef, undef, undef, undef, undef, undef, undef, undef, undef, undef, undef, undef, undef, undef, undef, undef, undef, undef, undef, undef, undef, undef, undef, undef, undef, undef, undef, undef, undef, undef, undef, undef, undef, undef, undef, undef, undef, undef, undef, undef, undef, undef, undef, undef, undef, undef, undef, undef, undef, undef, undef, undef, undef, undef, undef, undef, undef, undef, undef, undef, .int .i64 d, undef, undef, undef, undef, undef, undef, undef, undef, undef, undef, undef, undef, undef, undef, undef, undef, undef], []⟩, ?_, ?_⟩
      · intro t ht
        have ht' : t ∈ ([94] : List Nat) := ht
        simp only [List.mem_cons, List.not_mem_nil, or_false] at ht'
        subst ht'
        exact e8.symm
      · refine yield_walk (ops := #[]) rfl rfl (show 17 < 112 by decide) ?_
        go_wp2
        exact kepT.mk hb8 ((updG_ne (by decide)).trans e8) ((updG_ne (by decide)).trans e9) M (updG_at ..)
    · cases hi
  clear M
  try clear C
  intro g w2 hT
  obtain ⟨pEa, cEa, pEb, cEb, b16, h_b16, e8, e9, M, h | ⟨_, e11⟩⟩ := hT
  · cases h
  simp only [fullAct, e9, e11, Act.put, List.setIfInBounds_toArray, List.set_cons_succ, List.set_cons_zero]
  clear e8 e9 e11
  have C := M.ruleAll; simp only [Go.Proofs.Ytinjjaoikofkdaa.ruleAll] at C
  go_wp2_with (first | ((with_reducible apply wpM_lda' M 2 29 0 (bkV pEa cEa pEb cEb N.length Q.length)); rfl; rfl; rfl; exact ⟨rfl, inf_bok.trans (congrArg some (bkv_size ..).symm), _, und_bok, rfl⟩; exact whole_of rfl) | ((with_reducible apply wpM_lda' M 11 29 0 (bkV pAa cAa pAb cAb N.length Q.length)); rfl; rfl; rfl; exact ⟨rfl, inf_bok.trans (congrArg some (bkv_size ..).symm), _, und_bok, rfl⟩; exact whole_of rfl) | (go_at_call 11; ((with_reducible refine (HEQ.out _ _ _ _ _ _ _ _ _ (nmR_rdq (M.row 0 rfl)) (slR_rdq (M.row 1 rfl)) (nmR_rdq (M.row 9 rfl)) (slR_rdq (M.row 10 rfl))).mono ?_); rintro e w1 ⟨rfl, hb⟩; have hsz := M.size; (try (have G9 := G.later hb; clear G; have G := G9; clear G9)); have M9 := M.later hb; clear M; (try clear C); have M := M9; clear M9; have C := M.ruleAll; simp only [Go.Proofs.Ytinjjaoikofkdaa.ruleAll] at C)) | ((with_reducible apply wpM_lda' M 7 29 0 (bkV pCa cCa pCb cCb N.length Q.length)); rfl; rfl; rfl; exact ⟨rfl, inf_bok.trans (congrArg some (bkv_size ..).symm), _, und_bok, rfl⟩; exact whole_of rfl) | (go_at_call 13; ((with_reducible refine (HHB.out _ (mkdS_rdq HY3.out (M.row 3 rfl)) (rdq_of_own (M.row 4 rfl))).mono ?_); rintro e w1 ⟨rfl, hb⟩; have hsz := M.size; (try (have G9 := G.later hb; clear G; have G := G9; clear G9)); have M9 := M.later hb; clear M; (try clear C); have M := M9; clear M9; have C := M.ruleAll; simp only [Go.Proofs.Ytinjjaoikofkdaa.ruleAll] at C)))
  go_ret
  exact ⟨rfl, M.below⟩
end Go.Proofs.Ytinjjaoikofkdaa

