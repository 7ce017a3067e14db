/- Where a law fails, and which laws hold, on both sides: contracts. -/
import Derived.Test.YtpmemoabkbmljaaDoorC93
import Derived.Test.YtpmemoabkbmljaaDoorK17
namespace Go.Proofs.YtpmemoabkbmljaaDoor
set_option linter.unusedSimpArgs false
set_option linter.unusedVariables false
open Go Go.RowKit

theorem Mm.weakRow {D : Nat → Prop} {w0 w : World} {L : List Ent} {B1 B : Nat} {v1 : Value} {n1 : Nat} {xs1 : List Value} {e1 s1 : Nat} (M : Mm D w0 w (.row B1 v1 n1 xs1 e1 s1 :: L)) (h1 : B ≤ B1) : Mm D w0 w (.row B v1 n1 xs1 e1 s1 :: L) :=
  M.set 0 rfl (y := .row B v1 n1 xs1 e1 s1) (.refl no w) (fun _ h => h.elim) (fun _ _ h => h.elim) (ownsRow_weak (M.row 0 rfl) h1) fun k h => .inl h
theorem new_row1 {w w' : World} {B : Nat} {v : Value} {n : Nat} {xs : List Value} {e size : Nat} (M : Mm no w w' [.row w.heap.size v n xs e size]) : ∀ x ∈ [Ent.row B v n xs e size], ∀ b, x.place b → w.heap.size ≤ b := fun x hx b hb => by
  simp only [List.mem_singleton] at hx; subst hx
  exact place_row (M.row 0 rfl) b hb
theorem new_rows2 {w w' : World} {B : Nat} {v v2 : Value} {n n2 : Nat} {xs xs2 : List Value} {e size e2 size2 : Nat} (M : Mm no w w' [.row w.heap.size v n xs e size, .row w.heap.size v2 n2 xs2 e2 size2]) : ∀ x ∈ [Ent.row B v n xs e size, .row B v2 n2 xs2 e2 size2], ∀ b, x.place b → w.heap.size ≤ b := fun x hx b hb => by
  simp only [List.mem_cons, List.not_mem_nil, or_false] at hx
  rcases hx with rfl | rfl
  · exact place_row (M.row 0 rfl) b hb
  · exact place_row (M.row 1 rfl) b hb
/-- Whether law k holds. -/
noncomputable def lawB (n : Nat) (t : Nat → Nat → Nat) (k : Nat) : Bool := holdsB n t (lawI k).1 (lawI k).2

def ob1R : Nat → List Nat
  | 0 => []
  | 1 => []
  | 2 => [1]
  | 3 => [0, 1, 2]
  | 4 => [0, 1, 2, 3]
  | 5 => [0, 1, 2, 3, 4]
  | 6 => [0, 1, 2, 3, 4]
  | 7 => [0, 1, 2, 3, 4, 5]
  | 8 => [0, 1, 2, 3, 4, 5, 6, 7]
  | _ => []
def ob1P (n : Nat) (t : Nat → Nat → Nat) (k : Nat) (xs ys : List Nat) (out : List Int) (b : Bool) (B0 : Nat) : Nat → (Nat → Bool) → (Nat → Value) → List Ent → Prop
  | 0, _, g, E => g 0 = .agg (sqs (n : Int) t) ∧ E = []
  | 1, _, g, E => g 1 = .int .i64 (k : Int) ∧ E = []
  | 2, _, g, E => ∃ p1 c1 p2 c2, g 2 = .agg (idV p1 c1 p2 c2 xs.length ys.length) ∧ E = [.row B0 (.slice p1 xs.length c1) xs.length (u8s xs) 5 1, .row B0 (.slice p2 ys.length c2) ys.length (u8s ys) 5 1]
  | 3, _, g, E => ∃ vr, g 3 = .tuple #[vr, .bool b] ∧ E = [.row B0 vr out.length (i64s out) 2 1]
  | 4, _, g, E => ∃ vr, g 3 = .tuple #[vr, .bool b] ∧ g 4 = .tuple #[vr, .bool b] ∧ E = []
  | 5, _, g, E => ∃ vr, g 3 = .tuple #[vr, .bool b] ∧ g 5 = vr ∧ E = []
  | 6, _, g, E => g 6 = .bool b ∧ E = []
  | 7, _, g, E => ∃ vr, g 3 = .tuple #[vr, .bool b] ∧ g 7 = vr ∧ E = []
  | 8, _, g, E => g 8 = .bool b ∧ E = []
  | _, _, _, _ => False
theorem ob1S (n : Nat) (t : Nat → Nat → Nat) (k : Nat) (xs ys : List Nat) (out : List Int) (b : Bool) (B0 : Nat) : Stable (ob1P n t k xs ys out b B0) ob1R (fun _ => []) := fun i k D g u E hki hkR hkW h => by
  match i with
  | 0 =>
    have e0 : updG g k u 0 = g 0 := updG_ne (g := g) (u := u) (Ne.symm hki)
    simp only [ob1P, e0]; exact h
  | 1 =>
    have e1 : updG g k u 1 = g 1 := updG_ne (g := g) (u := u) (Ne.symm hki)
    simp only [ob1P, e1]; exact h
  | 2 =>
    have e2 : updG g k u 2 = g 2 := updG_ne (g := g) (u := u) (Ne.symm hki)
    simp only [ob1P, e2]; exact h
  | 3 =>
    have e3 : updG g k u 3 = g 3 := updG_ne (g := g) (u := u) (Ne.symm hki)
    simp only [ob1P, e3]; exact h
  | 4 =>
    have e3 : updG g k u 3 = g 3 := updG_ne (g := g) (u := u) (i := k) (j := 3) (fun e => hkR (by rw [← e]; decide))
    have e4 : updG g k u 4 = g 4 := updG_ne (g := g) (u := u) (Ne.symm hki)
    simp only [ob1P, e3, e4]; exact h
  | 5 =>
    have e3 : updG g k u 3 = g 3 := updG_ne (g := g) (u := u) (i := k) (j := 3) (fun e => hkR (by rw [← e]; decide))
    have e5 : updG g k u 5 = g 5 := updG_ne (g := g) (u := u) (Ne.symm hki)
    simp only [ob1P, e3, e5]; exact h
  | 6 =>
    have e6 : updG g k u 6 = g 6 := updG_ne (g := g) (u := u) (Ne.symm hki)
    simp only [ob1P, e6]; exact h
  | 7 =>
    have e3 : updG g k u 3 = g 3 := updG_ne (g := g) (u := u) (i := k) (j := 3) (fun e => hkR (by rw [← e]; decide))
    have e7 : updG g k u 7 = g 7 := updG_ne (g := g) (u := u) (Ne.symm hki)
    simp only [ob1P, e3, e7]; exact h
  | 8 =>
    have e8 : updG g k u 8 = g 8 := updG_ne (g := g) (u := u) (Ne.symm hki)
    simp only [ob1P, e8]; exact h
  | n + 9 => exact h.elim

def lf4R : Nat → List Nat
  | 0 => []
  | 1 => []
  | 2 => [1]
  | 3 => [0, 1, 2]
  | 4 => [0, 1, 2, 3]
  | 5 => [0, 1, 2, 3, 4]
  | 6 => [0, 1, 2, 3, 4]
  | 7 => [0, 1, 2, 3, 4, 5]
  | 8 => [0, 1, 2, 3, 4, 5, 6, 7]
  | _ => []
def lf4P (n : Nat) (t : Nat → Nat → Nat) (k : Nat) (xs ys : List Nat) (out : List Int) (b : Bool) (B0 : Nat) : Nat → (Nat → Bool) → (Nat → Value) → List Ent → Prop
  | 0, _, g, E => g 0 = .agg (sqs (n : Int) t) ∧ E = []
  | 1, _, g, E => g 1 = .int .i64 (k : Int) ∧ E = []
  | 2, _, g, E => ∃ p1 c1 p2 c2, g 2 = .agg (idV p1 c1 p2 c2 xs.length ys.length) ∧ E = [.row B0 (.slice p1 xs.length c1) xs.length (u8s xs) 5 1, .row B0 (.slice p2 ys.length c2) ys.length (u8s ys) 5 1]
  | 3, _, g, E => ∃ vr, g 3 = .tuple #[vr, .bool b] ∧ E = [.row B0 vr out.length (i64s out) 2 1]
  | 4, _, g, E => ∃ vr, g 3 = .tuple #[vr, .bool b] ∧ g 4 = .tuple #[vr, .bool b] ∧ E = []
  | 5, _, g, E => ∃ vr, g 3 = .tuple #[vr, .bool b] ∧ g 5 = vr ∧ E = []
  | 6, _, g, E => g 6 = .bool b ∧ E = []
  | 7, _, g, E => ∃ vr, g 3 = .tuple #[vr, .bool b] ∧ g 7 = vr ∧ E = []
  | 8, _, g, E => g 8 = .bool b ∧ E = []
  | _, _, _, _ => False
theorem lf4S (n : Nat) (t : Nat → Nat → Nat) (k : Nat) (xs ys : List Nat) (out : List Int) (b : Bool) (B0 : Nat) : Stable (lf4P n t k xs ys out b B0) lf4R (fun _ => []) := fun i k D g u E hki hkR hkW h => by
  match i with
  | 0 =>
    have e0 : updG g k u 0 = g 0 := updG_ne (g := g) (u := u) (Ne.symm hki)
    simp only [lf4P, e0]; exact h
  | 1 =>
    have e1 : updG g k u 1 = g 1 := updG_ne (g := g) (u := u) (Ne.symm hki)
    simp only [lf4P, e1]; exact h
  | 2 =>
    have e2 : updG g k u 2 = g 2 := updG_ne (g := g) (u := u) (Ne.symm hki)
    simp only [lf4P, e2]; exact h
  | 3 =>
    have e3 : updG g k u 3 = g 3 := updG_ne (g := g) (u := u) (Ne.symm hki)
    simp only [lf4P, e3]; exact h
  | 4 =>
    have e3 : updG g k u 3 = g 3 := updG_ne (g := g) (u := u) (i := k) (j := 3) (fun e => hkR (by rw [← e]; decide))
    have e4 : updG g k u 4 = g 4 := updG_ne (g := g) (u := u) (Ne.symm hki)
    simp only [lf4P, e3, e4]; exact h
  | 5 =>
    have e3 : updG g k u 3 = g 3 := updG_ne (g := g) (u := u) (i := k) (j := 3) (fun e => hkR (by rw [← e]; decide))
    have e5 : updG g k u 5 = g 5 := updG_ne (g := g) (u := u) (Ne.symm hki)
    simp only [lf4P, e3, e5]; exact h
  | 6 =>
    have e6 : updG g k u 6 = g 6 := updG_ne (g := g) (u := u) (Ne.symm hki)
    simp only [lf4P, e6]; exact h
  | 7 =>
    have e3 : updG g k u 3 = g 3 := updG_ne (g := g) (u := u) (i := k) (j := 3) (fun e => hkR (by rw [← e]; decide))
    have e7 : updG g k u 7 = g 7 := updG_ne (g := g) (u := u) (Ne.symm hki)
    simp only [lf4P, e3, e7]; exact h
  | 8 =>
    have e8 : updG g k u 8 = g 8 := updG_ne (g := g) (u := u) (Ne.symm hki)
    simp only [lf4P, e8]; exact h
  | n + 9 => exact h.elim

set_option maxRecDepth 100000 in
set_option maxHeartbeats 4000000 in
theorem obeys_any (n : Nat) (t : Nat → Nat → Nat) (hs : IsSq (n : Int) t) (k : Nat) (hk : k < 20) (w : World) (hg : glb w) : Calls Tryd.prog 24 #[.agg (sqs (n : Int) t), .int .i64 (k : Int)] w fun e w' => e = .returned (.bool (lawB n t k)) ∧ Below w.heap.size w w' := by
  have M := Mm.start no w
  have HB := Hid2.mk (show lawB n t k = holdsB n t (lawI k).1 (lawI k).2 from rfl)
  generalize lawB n t k = res at HB ⊢
  have HLW := Hid2.mk (fun w1 hg => law_any k hk w1 hg)
  have HG := Hid2.mk (fun w1 (hb : Below w.heap.size w w1) => hg.later hb)
  have HF := Hid2.mk (fun w1 p1 c1 p2 c2 r1 r2 => fails2_any n t hs (lawI k).1 (lawI k).2 (lawI_tm hk).1 (lawI_tm hk).2 w1 p1 p2 c1 c2 r1 r2)
  have hll := ff_len (fst3 (neB t (elB (lawI k).1) (lawI k).1.length (elB (lawI k).2) (lawI k).2.length) n n n)
  generalize hO : ffOut (fst3 (neB t (elB (lawI k).1) (lawI k).1.length (elB (lawI k).2) (lawI k).2.length) n n n) = out at *
  generalize (lawI k).1 = xs at *
  generalize (lawI k).2 = ys at *
  generalize hb : (!holdsB n t xs ys) = b at HF
  have HBB := Hid2.mk (show res = !b by rw [HB.out, ← hb, Bool.not_not])
  clear hg hs hk hb hO HB
  go_enter Tryd.func24, Tryd.ntmps24
  go_wp2_with (first | ((with_reducible apply wpM_box' M 31 (sqs (n : Int) t)); rfl; exact ⟨rfl, rfl⟩; clear M; (try clear C); intro bq w9 h_bq M; have C := M.ruleAll; simp only [Go.Proofs.YtpmemoabkbmljaaDoor.ruleAll] at C))
  refine wp_region_own (GrS 9 (ob1P n t k xs ys out b w.heap.size) ob1R w [.box bq (sqs (n : Int) t) 31]) (by kernel_rfl) (by kernel_rfl) (fun _ => undef) (GrS.start (M.sub [0] (by decide)) _) ?hs_ob1 ?hQ_ob1
  case hs_ob1 =>
    clear M
    try clear C
    intro i o hi D g w2 hi0 hpre S
    have hlt : i < 9 := by have := (List.getElem?_eq_some_iff.1 hi).1; simpa using this
    obtain rfl | rfl | rfl | rfl | rfl | rfl | rfl | rfl | rfl : i = 0 ∨ i = 1 ∨ i = 2 ∨ i = 3 ∨ i = 4 ∨ i = 5 ∨ i = 6 ∨ i = 7 ∨ i = 8 := by omega
    · simp only [List.getElem?_cons_succ, List.getElem?_cons_zero, Option.some.injEq] at hi
      subst hi
      have M := S.base
      have HR : ∀ j ∈ ob1R 0, D j = true := (fun _ h => by cases h)
      have HW : ∀ j, D j = true → 0 ∉ (fun _ => [] : Nat → List Nat) j := fun _ _ h => by cases h
      have hst := ob1S n t k xs ys out b w.heap.size
      refine ⟨⟨#[undef, undef, .pointer (some ⟨bq, 0, none⟩), undef, undef, undef, undef, undef, undef, undef, undef, undef, undef, undef, undef, undef, undef, undef, undef, undef, undef, undef, undef, undef, undef, undef, undef, undef, undef, undef], []⟩, ?_, ?_⟩
      · intro t ht
        have ht' : t ∈ ([2] : List Nat) := ht
        simp only [List.mem_cons, List.not_mem_nil, or_false] at ht'
        subst ht'
        exact rfl
      · skip
        have C := M.ruleAll; simp only [Go.Proofs.YtpmemoabkbmljaaDoor.ruleAll] at C
        refine yield_walk (ops := #[]) rfl rfl (show 8 < 30 by decide) ?_
        go_wp2_with (first | ((with_reducible apply wpM_lda' M 0 31 0 (sqs (n : Int) t)); rfl; rfl; rfl; exact ⟨rfl, inf_sqs.trans (congrArg some (sqs_size ..).symm), _, und_sqs, rfl⟩; exact whole_of rfl))
        exact S.val (i := 0) hst (by decide) hi0 HR HW (Below.refl _ _) ⟨updG_at .., rfl⟩
    · simp only [List.getElem?_cons_succ, List.getElem?_cons_zero, Option.some.injEq] at hi
      subst hi
      have M := S.base
      have HR : ∀ j ∈ ob1R 1, D j = true := (fun _ h => by cases h)
      have HW : ∀ j, D j = true → 1 ∉ (fun _ => [] : Nat → List Nat) j := fun _ _ h => by cases h
      have hst := ob1S n t k xs ys out b w.heap.size
      refine ⟨⟨#[undef, .int .i64 (k : Int), undef, undef, undef, undef, undef, undef, undef, undef, undef, undef, undef, undef, undef, undef, undef, undef, undef, undef, undef, undef, undef, undef, undef, undef, undef, undef, undef, undef], []⟩, ?_, ?_⟩
      · intro t ht
        have ht' : t ∈ ([1] : List Nat) := ht
        simp only [List.mem_cons, List.not_mem_nil, or_false] at ht'
        subst ht'
        exact rfl
      · skip
        have C := M.ruleAll; simp only [Go.Proofs.YtpmemoabkbmljaaDoor.ruleAll] at C
        refine yield_walk (ops := #[]) rfl rfl (show 9 < 30 by decide) ?_
        go_wp2
        exact S.val (i := 1) hst (by decide) hi0 HR HW (Below.refl _ _) ⟨updG_at .., rfl⟩
    · simp only [List.getElem?_cons_succ, List.getElem?_cons_zero, Option.some.injEq] at hi
      subst hi
      have d1 : D 1 = true := hpre _ (Array.mem_of_getElem? (i := 0) rfl) rfl
      obtain ⟨E, P, M⟩ := S.get [1] (by decide) (by intro j hj; simp only [List.mem_cons, List.not_mem_nil, or_false] at hj; subst hj <;> assumption)
      obtain ⟨e1, E1⟩ : g 1 = .int .i64 (k : Int) ∧ E 1 = [] := P 1 (by decide)
      simp only [List.flatMap_cons, List.flatMap_nil, List.append_nil, E1, List.cons_append, List.nil_append] at M
      clear P
      have HR : ∀ j ∈ ob1R 2, D j = true := (by intro j hj; have hj' : j ∈ ([1] : List Nat) := hj; simp only [List.mem_cons, List.not_mem_nil, or_false] at hj'; subst hj' <;> assumption)
      have HW : ∀ j, D j = true → 2 ∉ (fun _ => [] : Nat → List Nat) j := fun _ _ h => by cases h
      have hst := ob1S n t k xs ys out b w.heap.size
      refine ⟨⟨#[undef, undef, undef, undef, undef, undef, undef, undef, undef, .int .i64 (k : Int), undef, undef, undef, undef, undef, undef, undef, undef, undef, undef, undef, undef, undef, undef, undef, undef, undef, undef, undef, undef], []⟩, ?_, ?_⟩
      · intro t ht
        have ht' : t ∈ ([9] : List Nat) := ht
        simp only [List.mem_cons, List.not_mem_nil, or_false] at ht'
        subst ht'
        exact e1.symm
      · skip
        have C := M.ruleAll; simp only [Go.Proofs.YtpmemoabkbmljaaDoor.ruleAll] at C
        refine yield_walk (ops := #[]) rfl rfl (show 10 < 30 by decide) ?_
        go_wp2_with (first | (go_at_call 30; fail))
        refine (HLW.out _ (HG.out _ M.below)).mono ?_
        rintro e w1 ⟨p1, c1, p2, c2, rfl, M'⟩
        go_wp2
        exact S.add (i := 2) hst (by decide) hi0 HR HW (M'.weakRows S.base.size S.base.size) (new_rows2 M') ⟨p1, c1, p2, c2, updG_at .., rfl⟩
    · simp only [List.getElem?_cons_succ, List.getElem?_cons_zero, Option.some.injEq] at hi
      subst hi
      have d0 : D 0 = true := hpre _ (Array.mem_of_getElem? (i := 0) rfl) rfl
      have d2 : D 2 = true := hpre _ (Array.mem_of_getElem? (i := 1) rfl) rfl
      have d1 : D 1 = true := S.anc 2 d2 1 (show 1 ∈ ob1R 2 by decide)
      obtain ⟨E, P, M⟩ := S.get [0, 2] (by decide) (by intro j hj; simp only [List.mem_cons, List.not_mem_nil, or_false] at hj; rcases hj with rfl | rfl <;> assumption)
      obtain ⟨e0, E0⟩ : g 0 = .agg (sqs (n : Int) t) ∧ E 0 = [] := P 0 (by decide)
      obtain ⟨p1, c1, p2, c2, e2, E2⟩ : ∃ p1 c1 p2 c2, g 2 = .agg (idV p1 c1 p2 c2 xs.length ys.length) ∧ E 2 = [.row w.heap.size (.slice p1 xs.length c1) xs.length (u8s xs) 5 1, .row w.heap.size (.slice p2 ys.length c2) ys.length (u8s ys) 5 1] := P 2 (by decide)
      simp only [List.flatMap_cons, List.flatMap_nil, List.append_nil, E0, E2, List.cons_append, List.nil_append] at M
      clear P
      have HR : ∀ j ∈ ob1R 3, D j = true := (by intro j hj; have hj' : j ∈ ([0, 1, 2] : List Nat) := hj; simp only [List.mem_cons, List.not_mem_nil, or_false] at hj'; rcases hj' with rfl | rfl | rfl <;> assumption)
      have HW : ∀ j, D j = true → 3 ∉ (fun _ => [] : Nat → List Nat) j := fun _ _ h => by cases h
      have hst := ob1S n t k xs ys out b w.heap.size
      refine ⟨⟨#[undef, undef, undef, undef, undef, undef, undef, undef, .agg (sqs (n : Int) t), undef, .agg (idV p1 c1 p2 c2 xs.length ys.length), undef, undef, undef, undef, undef, undef, undef, undef, undef, undef, undef, undef, undef, undef, undef, undef, undef, undef, undef], []⟩, ?_, ?_⟩
      · intro t ht
        have ht' : t ∈ ([8, 10] : List Nat) := ht
        simp only [List.mem_cons, List.not_mem_nil, or_false] at ht'
        rcases ht' with rfl | rfl
        · exact e0.symm
        · exact e2.symm
      · skip
        have C := M.ruleAll; simp only [Go.Proofs.YtpmemoabkbmljaaDoor.ruleAll] at C
        refine yield_walk (ops := #[]) rfl rfl (show 11 < 30 by decide) ?_
        go_wp2_with (first | (go_at_call 29; fail))
        refine (HF.out _ _ _ _ _ (u8_rdq rfl (M.row 0 rfl)) (u8_rdq rfl (M.row 1 rfl))).mono ?_
        rintro e w1 ⟨vr, rfl, M'⟩
        go_wp2
        exact S.add (i := 3) hst (by decide) hi0 HR HW (M'.weakRow S.base.size) (new_row1 M') ⟨vr, updG_at .., rfl⟩
    · simp only [List.getElem?_cons_succ, List.getElem?_cons_zero, Option.some.injEq] at hi
      subst hi
      have d3 : D 3 = true := hpre _ (Array.mem_of_getElem? (i := 0) rfl) rfl
      have d0 : D 0 = true := S.anc 3 d3 0 (show 0 ∈ ob1R 3 by decide)
      have d1 : D 1 = true := S.anc 3 d3 1 (show 1 ∈ ob1R 3 by decide)
      have d2 : D 2 = true := S.anc 3 d3 2 (show 2 ∈ ob1R 3 by decide)
      obtain ⟨E, P, M⟩ := S.get [3] (by decide) (by intro j hj; simp only [List.mem_cons, List.not_mem_nil, or_false] at hj; subst hj <;> assumption)
      obtain ⟨vr, e3, E3⟩ : ∃ vr, g 3 = .tuple #[vr, .bool b] ∧ E 3 = [.row w.heap.size vr out.length (i64s out) 2 1] := P 3 (by decide)
      simp only [List.flatMap_cons, List.flatMap_nil, List.append_nil, E3, List.cons_append, List.nil_append] at M
      clear P
      have HR : ∀ j ∈ ob1R 4, D j = true := (by intro j hj; have hj' : j ∈ ([0, 1, 2, 3] : List Nat) := hj; simp only [List.mem_cons, List.not_mem_nil, or_false] at hj'; rcases hj' with rfl | rfl | rfl | rfl <;> assumption)
      have HW : ∀ j, D j = true → 4 ∉ (fun _ => [] : Nat → List Nat) j := fun _ _ h => by cases h
      have hst := ob1S n t k xs ys out b w.heap.size
      refine ⟨⟨#[undef, undef, undef, undef, undef, undef, undef, undef, undef, undef, undef, .tuple #[vr, .bool b], undef, undef, undef, undef, undef, undef, undef, undef, undef, undef, undef, undef, undef, undef, undef, undef, undef, undef], []⟩, ?_, ?_⟩
      · intro t ht
        have ht' : t ∈ ([11] : List Nat) := ht
        simp only [List.mem_cons, List.not_mem_nil, or_false] at ht'
        subst ht'
        exact e3.symm
      · skip
        have C := M.ruleAll; simp only [Go.Proofs.YtpmemoabkbmljaaDoor.ruleAll] at C
        refine yield_walk (ops := #[]) rfl rfl (show 7 < 30 by decide) ?_
        go_wp2
        exact S.val (i := 4) hst (by decide) hi0 HR HW (Below.refl _ _) ⟨vr, (updG_ne (by decide)).trans e3, updG_at .., rfl⟩
    · simp only [List.getElem?_cons_succ, List.getElem?_cons_zero, Option.some.injEq] at hi
      subst hi
      have d4 : D 4 = true := hpre _ (Array.mem_of_getElem? (i := 0) rfl) rfl
      have d0 : D 0 = true := S.anc 4 d4 0 (show 0 ∈ ob1R 4 by decide)
      have d1 : D 1 = true := S.anc 4 d4 1 (show 1 ∈ ob1R 4 by decide)
      have d2 : D 2 = true := S.anc 4 d4 2 (show 2 ∈ ob1R 4 by decide)
      have d3 : D 3 = true := S.anc 4 d4 3 (show 3 ∈ ob1R 4 by decide)
      obtain ⟨E, P, M⟩ := S.get [4] (by decide) (by intro j hj; simp only [List.mem_cons, List.not_mem_nil, or_false] at hj; subst hj <;> assumption)
      obtain ⟨vr, er4, e4, E4⟩ : ∃ vr, g 3 = .tuple #[vr, .bool b] ∧ g 4 = .tuple #[vr, .bool b] ∧ E 4 = [] := P 4 (by decide)
      simp only [List.flatMap_cons, List.flatMap_nil, List.append_nil, E4, List.cons_append, List.nil_append] at M
      clear P
      have HR : ∀ j ∈ ob1R 5, D j = true := (by intro j hj; have hj' : j ∈ ([0, 1, 2, 3, 4] : List Nat) := hj; simp only [List.mem_cons, List.not_mem_nil, or_false] at hj'; rcases hj' with rfl | rfl | rfl | rfl | rfl <;> assumption)
      have HW : ∀ j, D j = true → 5 ∉ (fun _ => [] : Nat → List Nat) j := fun _ _ h => by cases h
      have hst := ob1S n t k xs ys out b w.heap.size
      refine ⟨⟨#[undef, undef, undef, undef, undef, undef, undef, .tuple #[vr, .bool b], undef, undef, undef, undef, undef, undef, undef, undef, undef, undef, undef, undef, undef, undef, undef, undef, undef, undef, undef, undef, undef, undef], []⟩, ?_, ?_⟩
      · intro t ht
        have ht' : t ∈ ([7] : List Nat) := ht
        simp only [List.mem_cons, List.not_mem_nil, or_false] at ht'
        subst ht'
        exact e4.symm
      · skip
        have C := M.ruleAll; simp only [Go.Proofs.YtpmemoabkbmljaaDoor.ruleAll] at C
        refine yield_walk (ops := #[]) rfl rfl (show 12 < 30 by decide) ?_
        go_wp2
        exact S.val (i := 5) hst (by decide) hi0 HR HW (Below.refl _ _) ⟨vr, (updG_ne (by decide)).trans er4, updG_at .., rfl⟩
    · simp only [List.getElem?_cons_succ, List.getElem?_cons_zero, Option.some.injEq] at hi
      subst hi
      have d4 : D 4 = true := hpre _ (Array.mem_of_getElem? (i := 0) rfl) rfl
      have d0 : D 0 = true := S.anc 4 d4 0 (show 0 ∈ ob1R 4 by decide)
      have d1 : D 1 = true := S.anc 4 d4 1 (show 1 ∈ ob1R 4 by decide)
      have d2 : D 2 = true := S.anc 4 d4 2 (show 2 ∈ ob1R 4 by decide)
      have d3 : D 3 = true := S.anc 4 d4 3 (show 3 ∈ ob1R 4 by decide)
      obtain ⟨E, P, M⟩ := S.get [4] (by decide) (by intro j hj; simp only [List.mem_cons, List.not_mem_nil, or_false] at hj; subst hj <;> assumption)
      obtain ⟨vr, er4, e4, E4⟩ : ∃ vr, g 3 = .tuple #[vr, .bool b] ∧ g 4 = .tuple #[vr, .bool b] ∧ E 4 = [] := P 4 (by decide)
      simp only [List.flatMap_cons, List.flatMap_nil, List.append_nil, E4, List.cons_append, List.nil_append] at M
      clear P
      have HR : ∀ j ∈ ob1R 6, D j = true := (by intro j hj; have hj' : j ∈ ([0, 1, 2, 3, 4] : List Nat) := hj; simp only [List.mem_cons, List.not_mem_nil, or_false] at hj'; rcases hj' with rfl | rfl | rfl | rfl | rfl <;> assumption)
      have HW : ∀ j, D j = true → 6 ∉ (fun _ => [] : Nat → List Nat) j := fun _ _ h => by cases h
      have hst := ob1S n t k xs ys out b w.heap.size
      refine ⟨⟨#[undef, undef, undef, undef, undef, undef, undef, .tuple #[vr, .bool b], undef, undef, undef, undef, undef, undef, undef, undef, undef, undef, undef, undef, undef, undef, undef, undef, undef, undef, undef, undef, undef, undef], []⟩, ?_, ?_⟩
      · intro t ht
        have ht' : t ∈ ([7] : List Nat) := ht
        simp only [List.mem_cons, List.not_mem_nil, or_false] at ht'
        subst ht'
        exact e4.symm
      · skip
        have C := M.ruleAll; simp only [Go.Proofs.YtpmemoabkbmljaaDoor.ruleAll] at C
        refine yield_walk (ops := #[]) rfl rfl (show 13 < 30 by decide) ?_
        go_wp2
        exact S.val (i := 6) hst (by decide) hi0 HR HW (Below.refl _ _) ⟨updG_at .., rfl⟩
    · simp only [List.getElem?_cons_succ, List.getElem?_cons_zero, Option.some.injEq] at hi
      subst hi
      have d5 : D 5 = true := hpre _ (Array.mem_of_getElem? (i := 0) rfl) rfl
      have d3 : D 3 = true := hpre _ (Array.mem_of_getElem? (i := 1) rfl) rfl
      have d0 : D 0 = true := hpre _ (Array.mem_of_getElem? (i := 2) rfl) rfl
      have d1 : D 1 = true := hpre _ (Array.mem_of_getElem? (i := 3) rfl) rfl
      have d2 : D 2 = true := hpre _ (Array.mem_of_getElem? (i := 4) rfl) rfl
      have d4 : D 4 = true := hpre _ (Array.mem_of_getElem? (i := 6) rfl) rfl
      obtain ⟨E, P, M⟩ := S.get [5] (by decide) (by intro j hj; simp only [List.mem_cons, List.not_mem_nil, or_false] at hj; subst hj <;> assumption)
      obtain ⟨vr, er5, e5, E5⟩ : ∃ vr, g 3 = .tuple #[vr, .bool b] ∧ g 5 = vr ∧ E 5 = [] := P 5 (by decide)
      simp only [List.flatMap_cons, List.flatMap_nil, List.append_nil, E5, List.cons_append, List.nil_append] at M
      clear P
      have HR : ∀ j ∈ ob1R 7, D j = true := (by intro j hj; have hj' : j ∈ ([0, 1, 2, 3, 4, 5] : List Nat) := hj; simp only [List.mem_cons, List.not_mem_nil, or_false] at hj'; rcases hj' with rfl | rfl | rfl | rfl | rfl | rfl <;> assumption)
      have HW : ∀ j, D j = true → 7 ∉ (fun _ => [] : Nat → List Nat) j := fun _ _ h => by cases h
      have hst := ob1S n t k xs ys out b w.heap.size
      refine ⟨⟨#[undef, undef, undef, undef, undef, undef, undef, undef, undef, undef, undef, undef, vr, undef, undef, undef, undef, undef, undef, undef, undef, undef, undef, undef, undef, undef, undef, undef, undef, undef], []⟩, ?_, ?_⟩
      · intro t ht
        have ht' : t ∈ ([12] : List Nat) := ht
        simp only [List.mem_cons, List.not_mem_nil, or_false] at ht'
        subst ht'
        exact e5.symm
      · skip
        have C := M.ruleAll; simp only [Go.Proofs.YtpmemoabkbmljaaDoor.ruleAll] at C
        refine yield_walk (ops := #[]) rfl rfl (show 5 < 30 by decide) ?_
        go_wp2
        exact S.val (i := 7) hst (by decide) hi0 HR HW (Below.refl _ _) ⟨vr, (updG_ne (by decide)).trans er5, updG_at .., rfl⟩
    · simp only [List.getElem?_cons_succ, List.getElem?_cons_zero, Option.some.injEq] at hi
      subst hi
      have d6 : D 6 = true := hpre _ (Array.mem_of_getElem? (i := 0) rfl) rfl
      have d7 : D 7 = true := hpre _ (Array.mem_of_getElem? (i := 1) rfl) rfl
      have d0 : D 0 = true := hpre _ (Array.mem_of_getElem? (i := 2) rfl) rfl
      have d1 : D 1 = true := hpre _ (Array.mem_of_getElem? (i := 3) rfl) rfl
      have d2 : D 2 = true := hpre _ (Array.mem_of_getElem? (i := 4) rfl) rfl
      have d3 : D 3 = true := hpre _ (Array.mem_of_getElem? (i := 5) rfl) rfl
      have d4 : D 4 = true := hpre _ (Array.mem_of_getElem? (i := 6) rfl) rfl
      have d5 : D 5 = true := hpre _ (Array.mem_of_getElem? (i := 7) rfl) rfl
      obtain ⟨E, P, M⟩ := S.get [6] (by decide) (by intro j hj; simp only [List.mem_cons, List.not_mem_nil, or_false] at hj; subst hj <;> assumption)
      obtain ⟨e6, E6⟩ : g 6 = .bool b ∧ E 6 = [] := P 6 (by decide)
      simp only [List.flatMap_cons, List.flatMap_nil, List.append_nil, E6, List.cons_append, List.nil_append] at M
      clear P
      have HR : ∀ j ∈ ob1R 8, D j = true := (by intro j hj; have hj' : j ∈ ([0, 1, 2, 3, 4, 5, 6, 7] : List Nat) := hj; simp only [List.mem_cons, List.not_mem_nil, or_false] at hj'; rcases hj' with rfl | rfl | rfl | rfl | rfl | rfl | rfl | rfl <;> assumption)
      have HW : ∀ j, D j = true → 8 ∉ (fun _ => [] : Nat → List Nat) j := fun _ _ h => by cases h
      have hst := ob1S n t k xs ys out b w.heap.size
      refine ⟨⟨#[undef, undef, undef, undef, undef, undef, undef, undef, undef, undef, undef, undef, undef, .bool b, undef, undef, undef, undef, undef, undef, undef, undef, undef, undef, undef, undef, undef, undef, undef, undef], []⟩, ?_, ?_⟩
      · intro t ht
        have ht' : t ∈ ([13] : List Nat) := ht
        simp only [List.mem_cons, List.not_mem_nil, or_false] at ht'
        subst ht'
        exact e6.symm
      · skip
        have C := M.ruleAll; simp only [Go.Proofs.YtpmemoabkbmljaaDoor.ruleAll] at C
        refine yield_walk (ops := #[]) rfl rfl (show 6 < 30 by decide) ?_
        go_wp2
        exact S.val (i := 8) hst (by decide) hi0 HR HW (Below.refl _ _) ⟨updG_at .., rfl⟩
  case hQ_ob1 =>
    clear M
    try clear C
    intro D g w2 hall S
    obtain ⟨E, P, M⟩ := S.get [3] (by decide) (fun k hk => hall k (by simp only [List.mem_cons, List.not_mem_nil, or_false] at hk; show k < 9; omega))
    obtain ⟨vr, e3, E3⟩ : ∃ vr, g 3 = .tuple #[vr, .bool b] ∧ E 3 = [.row w.heap.size vr out.length (i64s out) 2 1] := P 3 (by decide)
    simp only [List.flatMap_cons, List.flatMap_nil, List.append_nil, E3, List.cons_append, List.nil_append] at M
    clear P
    obtain ⟨E', P, _⟩ := S.get [0, 1, 2, 3, 4, 5, 6, 7, 8] (by decide) (fun k hk => hall k (by simp only [List.mem_cons, List.not_mem_nil, or_false] at hk; show k < 9; omega))
    have e0 : g 0 = .agg (sqs (n : Int) t) := (P 0 (by decide)).1
    have e1 : g 1 = .int .i64 (k : Int) := (P 1 (by decide)).1
    obtain ⟨p1, c1, p2, c2, e2, -⟩ : ∃ p1 c1 p2 c2, g 2 = .agg (idV p1 c1 p2 c2 xs.length ys.length) ∧ E' 2 = [.row w.heap.size (.slice p1 xs.length c1) xs.length (u8s xs) 5 1, .row w.heap.size (.slice p2 ys.length c2) ys.length (u8s ys) 5 1] := P 2 (by decide)
    obtain ⟨z4_vr, er4, e4, -⟩ : ∃ vr, g 3 = .tuple #[vr, .bool b] ∧ g 4 = .tuple #[vr, .bool b] ∧ E' 4 = [] := P 4 (by decide)
    have hq4 := e3.symm.trans er4
    simp only [Value.tuple.injEq, Array.mk.injEq, List.cons.injEq, and_true, Value.agg.injEq] at hq4
    obtain rfl := hq4
    obtain ⟨z5_vr, er5, e5, -⟩ : ∃ vr, g 3 = .tuple #[vr, .bool b] ∧ g 5 = vr ∧ E' 5 = [] := P 5 (by decide)
    have hq5 := e3.symm.trans er5
    simp only [Value.tuple.injEq, Array.mk.injEq, List.cons.injEq, and_true, Value.agg.injEq] at hq5
    obtain rfl := hq5
    have e6 : g 6 = .bool b := (P 6 (by decide)).1
    obtain ⟨z7_vr, er7, e7, -⟩ : ∃ vr, g 3 = .tuple #[vr, .bool b] ∧ g 7 = vr ∧ E' 7 = [] := P 7 (by decide)
    have hq7 := e3.symm.trans er7
    simp only [Value.tuple.injEq, Array.mk.injEq, List.cons.injEq, and_true, Value.agg.injEq] at hq7
    obtain rfl := hq7
    have e8 : g 8 = .bool b := (P 8 (by decide)).1
    simp only [fullAct, e0, e1, e2, e3, e4, e5, e6, e7, e8, Act.put, List.setIfInBounds_toArray, List.set_cons_succ, List.set_cons_zero]
    clear P S hall e0 e1 e2 e3 e4 e5 e6 e7 e8
    try clear E'
    try clear E
    have C := M.ruleAll; simp only [Go.Proofs.YtpmemoabkbmljaaDoor.ruleAll] at C
    go_wp2
    go_ret
    exact ⟨by rw [HBB.out]; rfl, M.below⟩

/-- Where law k fails. -/
noncomputable def lfRes (n : Int) (t : Nat → Nat → Nat) (k : Int) : List Int × Int :=
  if lwCode n t k = 0 then (if holdsB n.toNat t (lawI k.toNat).1 (lawI k.toNat).2 = true then ([], 4) else (ffOut (fst3 (neB t (elB (lawI k.toNat).1) (lawI k.toNat).1.length (elB (lawI k.toNat).2) (lawI k.toNat).2.length) n.toNat n.toNat n.toNat), 0)) else ([], lwCode n t k)
theorem lwCode_0 {n : Int} {t : Nat → Nat → Nat} {k : Int} (h : lwCode n t k = 0) : IsLp n t ∧ 0 ≤ k ∧ k ≤ 19 := by
  unfold lwCode at h
  split at h
  · rename_i hl
    split at h
    · rename_i hk; exact ⟨isLp_true.1 hl, hk⟩
    · cases h
  · cases h
set_option maxRecDepth 100000 in
set_option maxHeartbeats 4000000 in
theorem implLawFails_any (n : Int) (t : Nat → Nat → Nat) (hby : Byt2 t) (k : Int) (w : World) (hg : glb w) : Calls Tryd.prog 14 #[.agg (sqs n t), .int .i64 k] w (FaPost (lfRes n t k).1 (lfRes n t k).2 w) := by
  have M := Mm.start no w
  have HC := fun w1 => lawCode_any n t hby k w1
  by_cases h0 : lwCode n t k = 0
  · rw [h0] at HC
    obtain ⟨hlp, hk0, hk1⟩ := lwCode_0 h0
    obtain ⟨N, rfl⟩ : ∃ N : Nat, n = N := ⟨n.toNat, by have := hlp.sq.lo; omega⟩
    obtain ⟨K, rfl⟩ : ∃ K : Nat, k = K := ⟨k.toNat, by omega⟩
    have HRES := Hid2.mk (show lfRes N t K = _ from if_pos h0)
    simp only [Int.toNat_natCast] at HRES
    generalize lfRes N t K = res at HRES ⊢
    have hs := hlp.sq
    have hk : K < 20 := by omega
    clear h0 hby hk0 hk1 hlp
    revert HRES HC hk
    generalize hn : N = n
    generalize hkk : K = k
    intro HC HRES hk
    rw [hn] at hs
    clear hn hkk
    have FCT := True.intro
    have HLW := Hid2.mk (fun w1 hg => law_any k hk w1 hg)
    have HG := Hid2.mk (fun w1 (hb : Below w.heap.size w w1) => hg.later hb)
    have HF := Hid2.mk (fun w1 p1 c1 p2 c2 r1 r2 => fails2_any n t hs (lawI k).1 (lawI k).2 (lawI_tm hk).1 (lawI_tm hk).2 w1 p1 p2 c1 c2 r1 r2)
    have hll := ff_len (fst3 (neB t (elB (lawI k).1) (lawI k).1.length (elB (lawI k).2) (lawI k).2.length) n n n)
    generalize hO : ffOut (fst3 (neB t (elB (lawI k).1) (lawI k).1.length (elB (lawI k).2) (lawI k).2.length) n n n) = out at *
    generalize (lawI k).1 = xs at *
    generalize (lawI k).2 = ys at *
    generalize hb : (!holdsB n t xs ys) = b at HF
    have HBB := Hid2.mk (show holdsB n t xs ys = !b by rw [← hb, Bool.not_not])
    clear hg hs hk hb hO FCT
    go_enter Tryd.func14, Tryd.ntmps14
    go_wp2_with (first | ((with_reducible apply wpM_box' M 31 (sqs (n : Int) t)); rfl; exact ⟨rfl, rfl⟩; clear M; (try clear C); intro bq w9 h_bq M; have C := M.ruleAll; simp only [Go.Proofs.YtpmemoabkbmljaaDoor.ruleAll] at C) | ((with_reducible apply wpM_lda' M 0 31 0 (sqs (n : Int) t)); rfl; rfl; rfl; exact ⟨rfl, inf_sqs.trans (congrArg some (sqs_size ..).symm), _, und_sqs, rfl⟩; exact whole_of rfl) | (go_at_call 28; ((with_reducible refine (HC _).mono ?_); rintro e w1 ⟨rfl, hb⟩; have hsz := M.size; (try (have G9 := G.later hb; clear G; have G := G9; clear G9)); have M9 := M.later hb; clear M; (try clear C); have M := M9; clear M9; have C := M.ruleAll; simp only [Go.Proofs.YtpmemoabkbmljaaDoor.ruleAll] at C)))
    refine wp_region_own (GrS 9 (lf4P n t k xs ys out b w.heap.size) lf4R w [.box bq (sqs (n : Int) t) 31]) (by kernel_rfl) (by kernel_rfl) (fun _ => undef) (GrS.start (M.sub [0] (by decide)) _) ?hs_lf4 ?hQ_lf4
    case hs_lf4 =>
      clear M
      try clear C
      intro i o hi D g w2 hi0 hpre S
      have hlt : i < 9 := by have := (List.getElem?_eq_some_iff.1 hi).1; simpa using this
      obtain rfl | rfl | rfl | rfl | rfl | rfl | rfl | rfl | rfl : i = 0 ∨ i = 1 ∨ i = 2 ∨ i = 3 ∨ i = 4 ∨ i = 5 ∨ i = 6 ∨ i = 7 ∨ i = 8 := by omega
      · simp only [List.getElem?_cons_succ, List.getElem?_cons_zero, Option.some.injEq] at hi
        subst hi
        have M := S.base
        have HR : ∀ j ∈ lf4R 0, D j = true := (fun _ h => by cases h)
        have HW : ∀ j, D j = true → 0 ∉ (fun _ => [] : Nat → List Nat) j := fun _ _ h => by cases h
        have hst := lf4S n t k xs ys out b w.heap.size
        refine ⟨⟨#[undef, undef, .pointer (some ⟨bq, 0, none⟩), undef, undef, undef, undef, undef, undef, undef, undef, undef, undef, undef, undef, undef, undef, undef, undef, undef, undef, undef, undef, undef, undef, undef, undef, undef, undef, undef], []⟩, ?_, ?_⟩
        · intro t ht
          have ht' : t ∈ ([2] : List Nat) := ht
          simp only [List.mem_cons, List.not_mem_nil, or_false] at ht'
          subst ht'
          exact rfl
        · skip
          have C := M.ruleAll; simp only [Go.Proofs.YtpmemoabkbmljaaDoor.ruleAll] at C
          refine yield_walk (ops := #[]) rfl rfl (show 16 < 30 by decide) ?_
          go_wp2_with (first | ((with_reducible apply wpM_lda' M 0 31 0 (sqs (n : Int) t)); rfl; rfl; rfl; exact ⟨rfl, inf_sqs.trans (congrArg some (sqs_size ..).symm), _, und_sqs, rfl⟩; exact whole_of rfl))
          exact S.val (i := 0) hst (by decide) hi0 HR HW (Below.refl _ _) ⟨updG_at .., rfl⟩
      · simp only [List.getElem?_cons_succ, List.getElem?_cons_zero, Option.some.injEq] at hi
        subst hi
        have M := S.base
        have HR : ∀ j ∈ lf4R 1, D j = true := (fun _ h => by cases h)
        have HW : ∀ j, D j = true → 1 ∉ (fun _ => [] : Nat → List Nat) j := fun _ _ h => by cases h
        have hst := lf4S n t k xs ys out b w.heap.size
        refine ⟨⟨#[undef, .int .i64 (k : Int), undef, undef, undef, undef, undef, undef, undef, undef, undef, undef, undef, undef, undef, undef, undef, undef, undef, undef, undef, undef, undef, undef, undef, undef, undef, undef, undef, undef], []⟩, ?_, ?_⟩
        · intro t ht
          have ht' : t ∈ ([1] : List Nat) := ht
          simp only [List.mem_cons, List.not_mem_nil, or_false] at ht'
          subst ht'
          exact rfl
        · skip
          have C := M.ruleAll; simp only [Go.Proofs.YtpmemoabkbmljaaDoor.ruleAll] at C
          refine yield_walk (ops := #[]) rfl rfl (show 17 < 30 by decide) ?_
          go_wp2
          exact S.val (i := 1) hst (by decide) hi0 HR HW (Below.refl _ _) ⟨updG_at .., rfl⟩
      · simp only [List.getElem?_cons_succ, List.getElem?_cons_zero, Option.some.injEq] at hi
        subst hi
        have d1 : D 1 = true := hpre _ (Array.mem_of_getElem? (i := 0) rfl) rfl
        obtain ⟨E, P, M⟩ := S.get [1] (by decide) (by intro j hj; simp only [List.mem_cons, List.not_mem_nil, or_false] at hj; subst hj <;> assumption)
        obtain ⟨e1, E1⟩ : g 1 = .int .i64 (k : Int) ∧ E 1 = [] := P 1 (by decide)
        simp only [List.flatMap_cons, List.flatMap_nil, List.append_nil, E1, List.cons_append, List.nil_append] at M
        clear P
        have HR : ∀ j ∈ lf4R 2, D j = true := (by intro j hj; have hj' : j ∈ ([1] : List Nat) := hj; simp only [List.mem_cons, List.not_mem_nil, or_false] at hj'; subst hj' <;> assumption)
        have HW : ∀ j, D j = true → 2 ∉ (fun _ => [] : Nat → List Nat) j := fun _ _ h => by cases h
        have hst := lf4S n t k xs ys out b w.heap.size
        refine ⟨⟨#[undef, undef, undef, undef, undef, undef, undef, undef, undef, undef, undef, undef, undef, undef, undef, undef, undef, .int .i64 (k : Int), undef, undef, undef, undef, undef, undef, undef, undef, undef, undef, undef, undef], []⟩, ?_, ?_⟩
        · intro t ht
          have ht' : t ∈ ([17] : List Nat) := ht
          simp only [List.mem_cons, List.not_mem_nil, or_false] at ht'
          subst ht'
          exact e1.symm
        · skip
          have C := M.ruleAll; simp only [Go.Proofs.YtpmemoabkbmljaaDoor.ruleAll] at C
          refine yield_walk (ops := #[]) rfl rfl (show 18 < 30 by decide) ?_
          go_wp2_with (first | (go_at_call 30; fail))
          refine (HLW.out _ (HG.out _ M.below)).mono ?_
          rintro e w1 ⟨p1, c1, p2, c2, rfl, M'⟩
          go_wp2
          exact S.add (i := 2) hst (by decide) hi0 HR HW (M'.weakRows S.base.size S.base.size) (new_rows2 M') ⟨p1, c1, p2, c2, updG_at .., rfl⟩
      · simp only [List.getElem?_cons_succ, List.getElem?_cons_zero, Option.some.injEq] at hi
        subst hi
        have d0 : D 0 = true := hpre _ (Array.mem_of_getElem? (i := 0) rfl) rfl
        have d2 : D 2 = true := hpre _ (Array.mem_of_getElem? (i := 1) rfl) rfl
        have d1 : D 1 = true := S.anc 2 d2 1 (show 1 ∈ lf4R 2 by decide)
        obtain ⟨E, P, M⟩ := S.get [0, 2] (by decide) (by intro j hj; simp only [List.mem_cons, List.not_mem_nil, or_false] at hj; rcases hj with rfl | rfl <;> assumption)
        obtain ⟨e0, E0⟩ : g 0 = .agg (sqs (n : Int) t) ∧ E 0 = [] := P 0 (by decide)
        obtain ⟨p1, c1, p2, c2, e2, E2⟩ : ∃ p1 c1 p2 c2, g 2 = .agg (idV p1 c1 p2 c2 xs.length ys.length) ∧ E 2 = [.row w.heap.size (.slice p1 xs.length c1) xs.length (u8s xs) 5 1, .row w.heap.size (.slice p2 ys.length c2) ys.length (u8s ys) 5 1] := P 2 (by decide)
        simp only [List.flatMap_cons, List.flatMap_nil, List.append_nil, E0, E2, List.cons_append, List.nil_append] at M
        clear P
        have HR : ∀ j ∈ lf4R 3, D j = true := (by intro j hj; have hj' : j ∈ ([0, 1, 2] : List Nat) := hj; simp only [List.mem_cons, List.not_mem_nil, or_false] at hj'; rcases hj' with rfl | rfl | rfl <;> assumption)
        have HW : ∀ j, D j = true → 3 ∉ (fun _ => [] : Nat → List Nat) j := fun _ _ h => by cases h
        have hst := lf4S n t k xs ys out b w.heap.size
        refine ⟨⟨#[undef, undef, undef, undef, undef, undef, undef, undef, undef, undef, undef, undef, undef, undef, undef, undef, .agg (sqs (n : Int) t), undef, .agg (idV p1 c1 p2 c2 xs.length ys.length), undef, undef, undef, undef, undef, undef, undef, undef, undef, undef, undef], []⟩, ?_, ?_⟩
        · intro t ht
          have ht' : t ∈ ([16, 18] : List Nat) := ht
          simp only [List.mem_cons, List.not_mem_nil, or_false] at ht'
          rcases ht' with rfl | rfl
          · exact e0.symm
          · exact e2.symm
        · skip
          have C := M.ruleAll; simp only [Go.Proofs.YtpmemoabkbmljaaDoor.ruleAll] at C
          refine yield_walk (ops := #[]) rfl rfl (show 19 < 30 by decide) ?_
          go_wp2_with (first | (go_at_call 29; fail))
          refine (HF.out _ _ _ _ _ (u8_rdq rfl (M.row 0 rfl)) (u8_rdq rfl (M.row 1 rfl))).mono ?_
          rintro e w1 ⟨vr, rfl, M'⟩
          go_wp2
          exact S.add (i := 3) hst (by decide) hi0 HR HW (M'.weakRow S.base.size) (new_row1 M') ⟨vr, updG_at .., rfl⟩
      · simp only [List.getElem?_cons_succ, List.getElem?_cons_zero, Option.some.injEq] at hi
        subst hi
        have d3 : D 3 = true := hpre _ (Array.mem_of_getElem? (i := 0) rfl) rfl
        have d0 : D 0 = true := S.anc 3 d3 0 (show 0 ∈ lf4R 3 by decide)
        have d1 : D 1 = true := S.anc 3 d3 1 (show 1 ∈ lf4R 3 by decide)
        have d2 : D 2 = true := S.anc 3 d3 2 (show 2 ∈ lf4R 3 by decide)
        obtain ⟨E, P, M⟩ := S.get [3] (by decide) (by intro j hj; simp only [List.mem_cons, List.not_mem_nil, or_false] at hj; subst hj <;> assumption)
        obtain ⟨vr, e3, E3⟩ : ∃ vr, g 3 = .tuple #[vr, .bool b] ∧ E 3 = [.row w.heap.size vr out.length (i64s out) 2 1] := P 3 (by decide)
        simp only [List.flatMap_cons, List.flatMap_nil, List.append_nil, E3, List.cons_append, List.nil_append] at M
        clear P
        have HR : ∀ j ∈ lf4R 4, D j = true := (by intro j hj; have hj' : j ∈ ([0, 1, 2, 3] : List Nat) := hj; simp only [List.mem_cons, List.not_mem_nil, or_false] at hj'; rcases hj' with rfl | rfl | rfl | rfl <;> assumption)
        have HW : ∀ j, D j = true → 4 ∉ (fun _ => [] : Nat → List Nat) j := fun _ _ h => by cases h
        have hst := lf4S n t k xs ys out b w.heap.size
        refine ⟨⟨#[undef, undef, undef, undef, undef, undef, undef, undef, undef, undef, undef, undef, undef, undef, undef, undef, undef, undef, undef, .tuple #[vr, .bool b], undef, undef, undef, undef, undef, undef, undef, undef, undef, undef], []⟩, ?_, ?_⟩
        · intro t ht
          have ht' : t ∈ ([19] : List Nat) := ht
          simp only [List.mem_cons, List.not_mem_nil, or_false] at ht'
          subst ht'
          exact e3.symm
        · skip
          have C := M.ruleAll; simp only [Go.Proofs.YtpmemoabkbmljaaDoor.ruleAll] at C
          refine yield_walk (ops := #[]) rfl rfl (show 15 < 30 by decide) ?_
          go_wp2
          exact S.val (i := 4) hst (by decide) hi0 HR HW (Below.refl _ _) ⟨vr, (updG_ne (by decide)).trans e3, updG_at .., rfl⟩
      · simp only [List.getElem?_cons_succ, List.getElem?_cons_zero, Option.some.injEq] at hi
        subst hi
        have d4 : D 4 = true := hpre _ (Array.mem_of_getElem? (i := 0) rfl) rfl
        have d0 : D 0 = true := S.anc 4 d4 0 (show 0 ∈ lf4R 4 by decide)
        have d1 : D 1 = true := S.anc 4 d4 1 (show 1 ∈ lf4R 4 by decide)
        have d2 : D 2 = true := S.anc 4 d4 2 (show 2 ∈ lf4R 4 by decide)
        have d3 : D 3 = true := S.anc 4 d4 3 (show 3 ∈ lf4R 4 by decide)
        obtain ⟨E, P, M⟩ := S.get [4] (by decide) (by intro j hj; simp only [List.mem_cons, List.not_mem_nil, or_false] at hj; subst hj <;> assumption)
        obtain ⟨vr, er4, e4, E4⟩ : ∃ vr, g 3 = .tuple #[vr, .bool b] ∧ g 4 = .tuple #[vr, .bool b] ∧ E 4 = [] := P 4 (by decide)
        simp only [List.flatMap_cons, List.flatMap_nil, List.append_nil, E4, List.cons_append, List.nil_append] at M
        clear P
        have HR : ∀ j ∈ lf4R 5, D j = true := (by intro j hj; have hj' : j ∈ ([0, 1, 2, 3, 4] : List Nat) := hj; simp only [List.mem_cons, List.not_mem_nil, or_false] at hj'; rcases hj' with rfl | rfl | rfl | rfl | rfl <;> assumption)
        have HW : ∀ j, D j = true → 5 ∉ (fun _ => [] : Nat → List Nat) j := fun _ _ h => by cases h
        have hst := lf4S n t k xs ys out b w.heap.size
        refine ⟨⟨#[undef, undef, undef, undef, undef, undef, undef, undef, undef, undef, undef, undef, undef, undef, undef, .tuple #[vr, .bool b], undef, undef, undef, undef, undef, undef, undef, undef, undef, undef, undef, undef, undef, undef], []⟩, ?_, ?_⟩
        · intro t ht
          have ht' : t ∈ ([15] : List Nat) := ht
          simp only [List.mem_cons, List.not_mem_nil, or_false] at ht'
          subst ht'
          exact e4.symm
        · skip
          have C := M.ruleAll; simp only [Go.Proofs.YtpmemoabkbmljaaDoor.ruleAll] at C
          refine yield_walk (ops := #[]) rfl rfl (show 20 < 30 by decide) ?_
          go_wp2
          exact S.val (i := 5) hst (by decide) hi0 HR HW (Below.refl _ _) ⟨vr, (updG_ne (by decide)).trans er4, updG_at .., rfl⟩
      · simp only [List.getElem?_cons_succ, List.getElem?_cons_zero, Option.some.injEq] at hi
        subst hi
        have d4 : D 4 = true := hpre _ (Array.mem_of_getElem? (i := 0) rfl) rfl
        have d0 : D 0 = true := S.anc 4 d4 0 (show 0 ∈ lf4R 4 by decide)
        have d1 : D 1 = true := S.anc 4 d4 1 (show 1 ∈ lf4R 4 by decide)
        have d2 : D 2 = true := S.anc 4 d4 2 (show 2 ∈ lf4R 4 by decide)
        have d3 : D 3 = true := S.anc 4 d4 3 (show 3 ∈ lf4R 4 by decide)
        obtain ⟨E, P, M⟩ := S.get [4] (by decide) (by intro j hj; simp only [List.mem_cons, List.not_mem_nil, or_false] at hj; subst hj <;> assumption)
        obtain ⟨vr, er4, e4, E4⟩ : ∃ vr, g 3 = .tuple #[vr, .bool b] ∧ g 4 = .tuple #[vr, .bool b] ∧ E 4 = [] := P 4 (by decide)
        simp only [List.flatMap_cons, List.flatMap_nil, List.append_nil, E4, List.cons_append, List.nil_append] at M
        clear P
        have HR : ∀ j ∈ lf4R 6, D j = true := (by intro j hj; have hj' : j ∈ ([0, 1, 2, 3, 4] : List Nat) := hj; simp only [List.mem_cons, List.not_mem_nil, or_false] at hj'; rcases hj' with rfl | rfl | rfl | rfl | rfl <;> assumption)
        have HW : ∀ j, D j = true → 6 ∉ (fun _ => [] : Nat → List Nat) j := fun _ _ h => by cases h
        have hst := lf4S n t k xs ys out b w.heap.size
        refine ⟨⟨#[undef, undef, undef, undef, undef, undef, undef, undef, undef, undef, undef, undef, undef, undef, undef, .tuple #[vr, .bool b], undef, undef, undef, undef, undef, undef, undef, undef, undef, undef, undef, undef, undef, undef], []⟩, ?_, ?_⟩
        · intro t ht
          have ht' : t ∈ ([15] : List Nat) := ht
          simp only [List.mem_cons, List.not_mem_nil, or_false] at ht'
          subst ht'
          exact e4.symm
        · skip
          have C := M.ruleAll; simp only [Go.Proofs.YtpmemoabkbmljaaDoor.ruleAll] at C
          refine yield_walk (ops := #[]) rfl rfl (show 21 < 30 by decide) ?_
          go_wp2
          exact S.val (i := 6) hst (by decide) hi0 HR HW (Below.refl _ _) ⟨updG_at .., rfl⟩
      · simp only [List.getElem?_cons_succ, List.getElem?_cons_zero, Option.some.injEq] at hi
        subst hi
        have d5 : D 5 = true := hpre _ (Array.mem_of_getElem? (i := 0) rfl) rfl
        have d3 : D 3 = true := hpre _ (Array.mem_of_getElem? (i := 1) rfl) rfl
        have d0 : D 0 = true := hpre _ (Array.mem_of_getElem? (i := 2) rfl) rfl
        have d1 : D 1 = true := hpre _ (Array.mem_of_getElem? (i := 3) rfl) rfl
        have d2 : D 2 = true := hpre _ (Array.mem_of_getElem? (i := 4) rfl) rfl
        have d4 : D 4 = true := hpre _ (Array.mem_of_getElem? (i := 6) rfl) rfl
        obtain ⟨E, P, M⟩ := S.get [5] (by decide) (by intro j hj; simp only [List.mem_cons, List.not_mem_nil, or_false] at hj; subst hj <;> assumption)
        obtain ⟨vr, er5, e5, E5⟩ : ∃ vr, g 3 = .tuple #[vr, .bool b] ∧ g 5 = vr ∧ E 5 = [] := P 5 (by decide)
        simp only [List.flatMap_cons, List.flatMap_nil, List.append_nil, E5, List.cons_append, List.nil_append] at M
        clear P
        have HR : ∀ j ∈ lf4R 7, D j = true := (by intro j hj; have hj' : j ∈ ([0, 1, 2, 3, 4, 5] : List Nat) := hj; simp only [List.mem_cons, List.not_mem_nil, or_false] at hj'; rcases hj' with rfl | rfl | rfl | rfl | rfl | rfl <;> assumption)
        have HW : ∀ j, D j = true → 7 ∉ (fun _ => [] : Nat → List Nat) j := fun _ _ h => by cases h
        have hst := lf4S n t k xs ys out b w.heap.size
        refine ⟨⟨#[undef, undef, undef, undef, undef, undef, undef, undef, undef, undef, undef, undef, undef, undef, undef, undef, undef, undef, undef, undef, vr, undef, undef, undef, undef, undef, undef, undef, undef, undef], []⟩, ?_, ?_⟩
        · intro t ht
          have ht' : t ∈ ([20] : List Nat) := ht
          simp only [List.mem_cons, List.not_mem_nil, or_false] at ht'
          subst ht'
          exact e5.symm
        · skip
          have C := M.ruleAll; simp only [Go.Proofs.YtpmemoabkbmljaaDoor.ruleAll] at C
          refine yield_walk (ops := #[]) rfl rfl (show 7 < 30 by decide) ?_
          go_wp2
          exact S.val (i := 7) hst (by decide) hi0 HR HW (Below.refl _ _) ⟨vr, (updG_ne (by decide)).trans er5, updG_at .., rfl⟩
      · simp only [List.getElem?_cons_succ, List.getElem?_cons_zero, Option.some.injEq] at hi
        subst hi
        have d6 : D 6 = true := hpre _ (Array.mem_of_getElem? (i := 0) rfl) rfl
        have d7 : D 7 = true := hpre _ (Array.mem_of_getElem? (i := 1) rfl) rfl
        have d0 : D 0 = true := hpre _ (Array.mem_of_getElem? (i := 2) rfl) rfl
        have d1 : D 1 = true := hpre _ (Array.mem_of_getElem? (i := 3) rfl) rfl
        have d2 : D 2 = true := hpre _ (Array.mem_of_getElem? (i := 4) rfl) rfl
        have d3 : D 3 = true := hpre _ (Array.mem_of_getElem? (i := 5) rfl) rfl
        have d4 : D 4 = true := hpre _ (Array.mem_of_getElem? (i := 6) rfl) rfl
        have d5 : D 5 = true := hpre _ (Array.mem_of_getElem? (i := 7) rfl) rfl
        obtain ⟨E, P, M⟩ := S.get [6] (by decide) (by intro j hj; simp only [List.mem_cons, List.not_mem_nil, or_false] at hj; subst hj <;> assumption)
        obtain ⟨e6, E6⟩ : g 6 = .bool b ∧ E 6 = [] := P 6 (by decide)
        simp only [List.flatMap_cons, List.flatMap_nil, List.append_nil, E6, List.cons_append, List.nil_append] at M
        clear P
        have HR : ∀ j ∈ lf4R 8, D j = true := (by intro j hj; have hj' : j ∈ ([0, 1, 2, 3, 4, 5, 6, 7] : List Nat) := hj; simp only [List.mem_cons, List.not_mem_nil, or_false] at hj'; rcases hj' with rfl | rfl | rfl | rfl | rfl | rfl | rfl | rfl <;> assumption)
        have HW : ∀ j, D j = true → 8 ∉ (fun _ => [] : Nat → List Nat) j := fun _ _ h => by cases h
        have hst := lf4S n t k xs ys out b w.heap.size
        refine ⟨⟨#[undef, undef, undef, undef, undef, undef, undef, undef, undef, undef, undef, undef, undef, undef, undef, undef, undef, undef, undef, undef, undef, .bool b, undef, undef, undef, undef, undef, undef, undef, undef], []⟩, ?_, ?_⟩
        · intro t ht
          have ht' : t ∈ ([21] : List Nat) := ht
          simp only [List.mem_cons, List.not_mem_nil, or_false] at ht'
          subst ht'
          exact e6.symm
        · skip
          have C := M.ruleAll; simp only [Go.Proofs.YtpmemoabkbmljaaDoor.ruleAll] at C
          refine yield_walk (ops := #[]) rfl rfl (show 8 < 30 by decide) ?_
          go_wp2
          exact S.val (i := 8) hst (by decide) hi0 HR HW (Below.refl _ _) ⟨updG_at .., rfl⟩
    case hQ_lf4 =>
      clear M
      try clear C
      intro D g w2 hall S
      obtain ⟨E, P, M⟩ := S.get [3] (by decide) (fun k hk => hall k (by simp only [List.mem_cons, List.not_mem_nil, or_false] at hk; show k < 9; omega))
      obtain ⟨vr, e3, E3⟩ : ∃ vr, g 3 = .tuple #[vr, .bool b] ∧ E 3 = [.row w.heap.size vr out.length (i64s out) 2 1] := P 3 (by decide)
      simp only [List.flatMap_cons, List.flatMap_nil, List.append_nil, E3, List.cons_append, List.nil_append] at M
      clear P
      obtain ⟨E', P, _⟩ := S.get [0, 1, 2, 3, 4, 5, 6, 7, 8] (by decide) (fun k hk => hall k (by simp only [List.mem_cons, List.not_mem_nil, or_false] at hk; show k < 9; omega))
      have e0 : g 0 = .agg (sqs (n : Int) t) := (P 0 (by decide)).1
      have e1 : g 1 = .int .i64 (k : Int) := (P 1 (by decide)).1
      obtain ⟨p1, c1, p2, c2, e2, -⟩ : ∃ p1 c1 p2 c2, g 2 = .agg (idV p1 c1 p2 c2 xs.length ys.length) ∧ E' 2 = [.row w.heap.size (.slice p1 xs.length c1) xs.length (u8s xs) 5 1, .row w.heap.size (.slice p2 ys.length c2) ys.length (u8s ys) 5 1] := P 2 (by decide)
      obtain ⟨z4_vr, er4, e4, -⟩ : ∃ vr, g 3 = .tuple #[vr, .bool b] ∧ g 4 = .tuple #[vr, .bool b] ∧ E' 4 = [] := P 4 (by decide)
      have hq4 := e3.symm.trans er4
      simp only [Value.tuple.injEq, Array.mk.injEq, List.cons.injEq, and_true, Value.agg.injEq] at hq4
      obtain rfl := hq4
      obtain ⟨z5_vr, er5, e5, -⟩ : ∃ vr, g 3 = .tuple #[vr, .bool b] ∧ g 5 = vr ∧ E' 5 = [] := P 5 (by decide)
      have hq5 := e3.symm.trans er5
      simp only [Value.tuple.injEq, Array.mk.injEq, List.cons.injEq, and_true, Value.agg.injEq] at hq5
      obtain rfl := hq5
      have e6 : g 6 = .bool b := (P 6 (by decide)).1
      obtain ⟨z7_vr, er7, e7, -⟩ : ∃ vr, g 3 = .tuple #[vr, .bool b] ∧ g 7 = vr ∧ E' 7 = [] := P 7 (by decide)
      have hq7 := e3.symm.trans er7
      simp only [Value.tuple.injEq, Array.mk.injEq, List.cons.injEq, and_true, Value.agg.injEq] at hq7
      obtain rfl := hq7
      have e8 : g 8 = .bool b := (P 8 (by decide)).1
      simp only [fullAct, e0, e1, e2, e3, e4, e5, e6, e7, e8, Act.put, List.setIfInBounds_toArray, List.set_cons_succ, List.set_cons_zero]
      clear P S hall e0 e1 e2 e3 e4 e5 e6 e7 e8
      try clear E'
      try clear E
      have C := M.ruleAll; simp only [Go.Proofs.YtpmemoabkbmljaaDoor.ruleAll] at C
      have HR2 := HRES.out
      rw [HBB.out] at HR2
      cases b with
      | false =>
        have hr : res = ([], 4) := HR2
        subst hr
        clear HRES HR2
        go_wp2
        go_ret2
        exact FaPost.nil2 M.below 4
      | true =>
        have hr : res = (out, 0) := HR2
        subst hr
        clear HRES HR2
        go_wp2
        go_ret2
        exact ⟨_, rfl, M.sub [0] (by decide)⟩

  · have hres : lfRes n t k = ([], lwCode n t k) := if_neg h0
    rw [hres]
    generalize lwCode n t k = c at *
    have hc : (c == 0) = false := by simpa using h0
    have hc1 : (c != 0) = true := by rw [bne, hc]; rfl
    clear hby hg hres
    go_enter Tryd.func14, Tryd.ntmps14
    go_wp2_with (first | ((with_reducible apply wpM_box' M 31 (sqs n t)); rfl; exact ⟨rfl, rfl⟩; clear M; (try clear C); intro bq w9 h_bq M; have C := M.ruleAll; simp only [Go.Proofs.YtpmemoabkbmljaaDoor.ruleAll] at C) | ((with_reducible apply wpM_lda' M 0 31 0 (sqs n t)); rfl; rfl; rfl; exact ⟨rfl, inf_sqs.trans (congrArg some (sqs_size ..).symm), _, und_sqs, rfl⟩; exact whole_of rfl) | (go_at_call 28; ((with_reducible refine (HC _).mono ?_); rintro e w1 ⟨rfl, hb⟩; have hsz := M.size; (try (have G9 := G.later hb; clear G; have G := G9; clear G9)); have M9 := M.later hb; clear M; (try clear C); have M := M9; clear M9; have C := M.ruleAll; simp only [Go.Proofs.YtpmemoabkbmljaaDoor.ruleAll] at C)))
    go_ret2
    exact FaPost.nil2 M.below c
end Go.Proofs.YtpmemoabkbmljaaDoor
