/- Isotopes of the reference: contracts. -/
import Derived.Test.YtpmemoabkbmljaaDoorC97
import Derived.Test.YtpmemoabkbmljaaDoorK17
import Derived.Test.YtpmemoabkbmljaaDoorI1
import Derived.Test.YtpmemoabkbmljaaDoorC95
import Derived.Test.YtpmemoabkbmljaaDoorC96
namespace Go.Proofs.YtpmemoabkbmljaaDoor
set_option linter.unusedSimpArgs false
set_option linter.unusedVariables false
open Go Go.RowKit

theorem GrS.not_yet {n : Nat} {post : Nat → (Nat → Bool) → (Nat → Value) → List Ent → Prop} {R : Nat → List Nat} {w0 w : World} {L : List Ent} {D : Nat → Bool} {g : Nat → Value} (S : GrS n post R w0 L D g w) {i k : Nat} (h0 : D i = false) (h : i ∈ R k) (hne : k ≠ i) : updD D i k = false := by
  rw [updD_ne hne]
  cases e : D k with
  | false => rfl
  | true => have := S.anc k e i h; rw [h0] at this; cases this

def iso1R : Nat → List Nat
  | 0 => []
  | 1 => [0]
  | 2 => [0, 1]
  | 3 => []
  | 4 => [3]
  | 5 => [3, 4]
  | 6 => []
  | 7 => []
  | 8 => [0, 1, 2, 3, 4, 5, 6, 7]
  | 9 => [0, 1, 2, 3, 4, 5, 6, 7, 8]
  | _ => []
def iso1P (n : Nat) (bq B0 : Nat) : Nat → (Nat → Bool) → (Nat → Value) → List Ent → Prop
  | 0, _, g, E => g 0 = .pointer (some ⟨bq, 0, none⟩) ∧ E = []
  | 1, _, g, E => g 1 = .int .i64 (n : Int) ∧ E = []
  | 2, _, g, E => g 2 = .agg (sqs (n : Int) fun _ _ => 0) ∧ E = []
  | 3, _, g, E => g 3 = .pointer (some ⟨bq, 0, none⟩) ∧ E = []
  | 4, _, g, E => g 4 = .int .i64 (n : Int) ∧ E = []
  | 5, _, g, E => g 5 = .agg (bys (idTo n)) ∧ E = []
  | 6, D, g, E => ∃ b6, g 6 = .pointer (some ⟨b6, 0, none⟩) ∧ B0 ≤ b6 ∧ E = [.box b6 (bif D 8 then sqs (n : Int) fun _ _ => 0 else sqs 0 fun _ _ => 0) 31]
  | 7, D, g, E => ∃ b7, g 7 = .pointer (some ⟨b7, 0, none⟩) ∧ B0 ≤ b7 ∧ E = [.box b7 (bif D 9 then bys (idTo n) else bys fun _ => 0) 93]
  | 8, _, g, E => E = []
  | 9, _, g, E => E = []
  | _, _, _, _ => False
def iso1W (j : Nat) : List Nat := if j = 6 then [8] else if j = 7 then [9] else []
theorem iso1S (n : Nat) (bq B0 : Nat) : Stable (iso1P n bq B0) iso1R iso1W := fun i k D g u E hki hkR hkW h => by
  match i with
  | 0 =>
    have e0 : updG g k u 0 = g 0 := updG_ne (g := g) (u := u) (Ne.symm hki)
    simp only [iso1P, e0]; exact h
  | 1 =>
    have e1 : updG g k u 1 = g 1 := updG_ne (g := g) (u := u) (Ne.symm hki)
    simp only [iso1P, e1]; exact h
  | 2 =>
    have e2 : updG g k u 2 = g 2 := updG_ne (g := g) (u := u) (Ne.symm hki)
    simp only [iso1P, e2]; exact h
  | 3 =>
    have e3 : updG g k u 3 = g 3 := updG_ne (g := g) (u := u) (Ne.symm hki)
    simp only [iso1P, e3]; exact h
  | 4 =>
    have e4 : updG g k u 4 = g 4 := updG_ne (g := g) (u := u) (Ne.symm hki)
    simp only [iso1P, e4]; exact h
  | 5 =>
    have e5 : updG g k u 5 = g 5 := updG_ne (g := g) (u := u) (Ne.symm hki)
    simp only [iso1P, e5]; exact h
  | 6 =>
    have e6 : updG g k u 6 = g 6 := updG_ne (g := g) (u := u) (Ne.symm hki)
    have hkW' : k ∉ ([8] : List Nat) := hkW
    simp only [List.mem_cons, List.not_mem_nil, or_false, not_or] at hkW'
    have d8 : updD D k 8 = D 8 := updD_ne (by omega)
    simp only [iso1P, e6, d8]; exact h
  | 7 =>
    have e7 : updG g k u 7 = g 7 := updG_ne (g := g) (u := u) (Ne.symm hki)
    have hkW' : k ∉ ([9] : List Nat) := hkW
    simp only [List.mem_cons, List.not_mem_nil, or_false, not_or] at hkW'
    have d9 : updD D k 9 = D 9 := updD_ne (by omega)
    simp only [iso1P, e7, d9]; exact h
  | 8 =>
    simp only [iso1P, ]; exact h
  | 9 =>
    simp only [iso1P, ]; exact h
  | n + 10 => exact h.elim

set_option maxRecDepth 100000 in
set_option maxHeartbeats 4000000 in
theorem l07Isotope_any (n : Nat) (t : Nat → Nat → Nat) (hs : IsSq (n : Int) t) (a b : Nat) (ha : a < n) (hb : b < n) (w : World) :
    Calls Tryd.prog 51 #[.agg (sqs (n : Int) t), .int .u8 (a : Int), .int .u8 (b : Int)] w fun e w' => e = .returned (.agg (sqs (n : Int) (isoT n t a b))) ∧ Below w.heap.size w w' := by
  have M := Mm.start no w
  have h0 : 1 ≤ n := by have := hs.lo; omega
  have hn : n ≤ 10 := by have := hs.hi; omega
  have hlt := (Lat.of_sq hs).lt a b ha hb
  have hl := isT_lat hs ha hb
  have h0' : (0 : Int) ≤ n := by omega
  have hn' : (n : Int) ≤ 10 := by omega
  have HI := Hid2.mk (fun w1 => l01Same_any (n : Int) w1 h0' hn')
  have HX := Hid2.mk (fun w1 => l01Moved_any n (mdT n (isT t a b)) (xch n (t a b)) (xch n (t a b)) (xch n (t a b)) w1 h0 hn (fun i _ => xch_lt hn hlt i) (fun i _ => xch_lt hn hlt i) (fun x y hx hy => by rw [mdT_at hx hy]; have := hl.lt x y hx hy; omega))
  have H1 := Hid2.mk (fun x (hx : x < n) w1 => l01Right_any (n : Int) t hs x b (by omega) (by omega) w1)
  have H2 := Hid2.mk (fun y (hy : y < n) w1 => l01Left_any (n : Int) t hs a y (by omega) (by omega) w1)
  have L1 := Hid2.mk (fun x (hx : x < n) => (lq_lt hs.turn (x := b) (z := x) (by omega) (by omega)).1)
  have L2 := Hid2.mk (fun y (hy : y < n) => (lq_lt hs (x := a) (z := y) (by omega) (by omega)).1)
  rw [show isoT n t a b = isoW n (mdT n (isT t a b)) (xch n (t a b)) (xch n (t a b)) (xch n (t a b)) (n * n) from rfl]
  simp only [Int.toNat_natCast] at HI
  have HT := Hid2.mk (show ∀ x y, isT t a b x y = t (lq (fun x y => t y x) b x) (lq t a y) from fun x y => rfl)
  have HMD := Hid2.mk (show mdT n (isT t a b) = isoW n (isT t a b) (fun x => x) (fun x => x) (fun x => x) (n * n) from rfl)
  generalize mdT n (isT t a b) = U at *
  generalize isT t a b = T at *
  have HW := Hid2.mk (xchW2 n (t a b))
  have q1 := sqs_get (n := (n : Int)) (t := t) (x := a) (y := b) (by omega) (by omega)
  have hz := zero_sqs
  have hz2 := zero_plc
  have so := sqs_order (n : Int) t
  have ha10 : (a : Int) < 10 := by omega
  have hb10 : (b : Int) < 10 := by omega
  generalize hu : t a b = u at *
  have hu10 : (u : Int) < 10 := by omega
  have hu10' : u < 10 := by omega
  have q2 := bys_get (f := idTo n) (i := 0) (by omega)
  have q3 := bys_get (f := idTo n) (i := u) (by omega)
  generalize xch n u = g8 at *
  generalize isoW n U g8 g8 g8 (n * n) = V at *
  clear hl hs hlt hu
  go_enter Tryd.func51, Tryd.ntmps51
  go_wp2_with (first | ((with_reducible apply wpM_box' M 31 (sqs (n : Int) t)); rfl; exact ⟨rfl, rfl⟩; clear M; (try clear C); intro bq w9 h_bq M; have C := M.ruleAll; simp only [Go.Proofs.YtpmemoabkbmljaaDoor.ruleAll] at C) | ((with_reducible apply wpM_alloc' M 31 (sqs 0 fun _ _ => 0)); rfl; exact ⟨rfl, _, zero_sqs _, rfl⟩; clear M; (try clear C); intro bo w9 h_bo M; have C := M.ruleAll; simp only [Go.Proofs.YtpmemoabkbmljaaDoor.ruleAll] at C))
  refine wp_region_own (GrS 10 (iso1P n bq w.heap.size) iso1R w [.box bo (sqs 0 fun _ _ => 0) 31, .box bq (sqs (n : Int) t) 31]) (by kernel_rfl) (by kernel_rfl) (fun _ => undef) (GrS.start (M.sub [0, 1] (by decide)) _) ?hs_iso1 ?hQ_iso1
  case hs_iso1 =>
    clear M
    try clear C
    intro i o hi D g w2 hi0 hpre S
    have hlt : i < 10 := by have := (List.getElem?_eq_some_iff.1 hi).1; simpa using this
    obtain rfl | rfl | rfl | rfl | rfl | rfl | rfl | rfl | rfl | rfl : i = 0 ∨ i = 1 ∨ i = 2 ∨ i = 3 ∨ i = 4 ∨ i = 5 ∨ i = 6 ∨ i = 7 ∨ i = 8 ∨ i = 9 := by omega
    · simp only [List.getElem?_cons_succ, List.getElem?_cons_zero, Option.some.injEq] at hi
      subst hi
      have M := S.base
      have HR : ∀ j ∈ iso1R 0, D j = true := (fun _ h => by cases h)
      have HW : ∀ j, D j = true → 0 ∉ iso1W j := fun j _ h => by
        unfold iso1W at h
        (repeat' split at h) <;> simp at h
      have hst := iso1S n bq w.heap.size
      refine ⟨⟨#[undef, undef, undef, .pointer (some ⟨bq, 0, none⟩), undef, undef, undef, undef, undef, undef, undef, undef, undef, undef, undef, undef, undef, undef, undef, undef, undef, undef, undef, undef, undef, undef, undef, undef, undef, undef, undef, undef, undef, undef, undef, undef, undef, undef, undef, undef, undef, undef, undef, undef, undef, undef, undef, undef, undef, undef, undef, undef, undef, undef, undef, undef, undef, undef, undef, undef, undef, undef, undef, undef, undef, undef, undef], []⟩, ?_, ?_⟩
      · intro t ht
        have ht' : t ∈ ([3] : List Nat) := ht
        simp only [List.mem_cons, List.not_mem_nil, or_false] at ht'
        subst ht'
        exact rfl
      · skip
        have C := M.ruleAll; simp only [Go.Proofs.YtpmemoabkbmljaaDoor.ruleAll] at C
        refine yield_walk (ops := #[]) rfl rfl (show 11 < 67 by decide) ?_
        go_wp2
        exact S.val (i := 0) hst (by decide) hi0 HR HW (Below.refl _ _) ⟨updG_at .., rfl⟩
    · simp only [List.getElem?_cons_succ, List.getElem?_cons_zero, Option.some.injEq] at hi
      subst hi
      have d0 : D 0 = true := hpre _ (Array.mem_of_getElem? (i := 0) rfl) rfl
      obtain ⟨E, P, M⟩ := S.get [0] (by decide) (by intro j hj; simp only [List.mem_cons, List.not_mem_nil, or_false] at hj; subst hj <;> assumption)
      obtain ⟨e0, E0⟩ : g 0 = .pointer (some ⟨bq, 0, none⟩) ∧ E 0 = [] := P 0 (by decide)
      simp only [List.flatMap_cons, List.flatMap_nil, List.append_nil, E0, List.cons_append, List.nil_append] at M
      clear P
      have HR : ∀ j ∈ iso1R 1, D j = true := (by intro j hj; have hj' : j ∈ ([0] : List Nat) := hj; simp only [List.mem_cons, List.not_mem_nil, or_false] at hj'; subst hj' <;> assumption)
      have HW : ∀ j, D j = true → 1 ∉ iso1W j := fun j _ h => by
        unfold iso1W at h
        (repeat' split at h) <;> simp at h
      have hst := iso1S n bq w.heap.size
      refine ⟨⟨#[undef, undef, undef, undef, undef, undef, undef, undef, undef, undef, undef, .pointer (some ⟨bq, 0, none⟩), undef, undef, undef, undef, undef, undef, undef, undef, undef, undef, undef, undef, undef, undef, undef, undef, undef, undef, undef, undef, undef, undef, undef, undef, undef, undef, undef, undef, undef, undef, undef, undef, undef, undef, undef, undef, undef, undef, undef, undef, undef, undef, undef, undef, undef, undef, undef, undef, undef, undef, undef, undef, undef, undef, undef], []⟩, ?_, ?_⟩
      · intro t ht
        have ht' : t ∈ ([11] : List Nat) := ht
        simp only [List.mem_cons, List.not_mem_nil, or_false] at ht'
        subst ht'
        exact e0.symm
      · skip
        have C := M.ruleAll; simp only [Go.Proofs.YtpmemoabkbmljaaDoor.ruleAll] at C
        refine yield_walk (ops := #[]) rfl rfl (show 12 < 67 by decide) ?_
        go_wp2
        exact S.val (i := 1) hst (by decide) hi0 HR HW (Below.refl _ _) ⟨updG_at .., rfl⟩
    · simp only [List.getElem?_cons_succ, List.getElem?_cons_zero, Option.some.injEq] at hi
      subst hi
      have d1 : D 1 = true := hpre _ (Array.mem_of_getElem? (i := 0) rfl) rfl
      have d0 : D 0 = true := S.anc 1 d1 0 (show 0 ∈ iso1R 1 by decide)
      obtain ⟨E, P, M⟩ := S.get [1] (by decide) (by intro j hj; simp only [List.mem_cons, List.not_mem_nil, or_false] at hj; subst hj <;> assumption)
      obtain ⟨e1, E1⟩ : g 1 = .int .i64 (n : Int) ∧ E 1 = [] := P 1 (by decide)
      simp only [List.flatMap_cons, List.flatMap_nil, List.append_nil, E1, List.cons_append, List.nil_append] at M
      clear P
      have HR : ∀ j ∈ iso1R 2, D j = true := (by intro j hj; have hj' : j ∈ ([0, 1] : List Nat) := hj; simp only [List.mem_cons, List.not_mem_nil, or_false] at hj'; rcases hj' with rfl | rfl <;> assumption)
      have HW : ∀ j, D j = true → 2 ∉ iso1W j := fun j _ h => by
        unfold iso1W at h
        (repeat' split at h) <;> simp at h
      have hst := iso1S n bq w.heap.size
      refine ⟨⟨#[undef, undef, undef, undef, undef, undef, undef, undef, undef, undef, undef, undef, .int .i64 (n : Int), undef, undef, undef, undef, undef, undef, undef, undef, undef, undef, undef, undef, undef, undef, undef, undef, undef, undef, undef, undef, undef, undef, undef, undef, undef, undef, undef, undef, undef, undef, undef, undef, undef, undef, undef, undef, undef, undef, undef, undef, undef, undef, undef, undef, undef, undef, undef, undef, undef, undef, undef, undef, undef, undef], []⟩, ?_, ?_⟩
      · intro t ht
        have ht' : t ∈ ([12] : List Nat) := ht
        simp only [List.mem_cons, List.not_mem_nil, or_false] at ht'
        subst ht'
        exact e1.symm
      · skip
        have C := M.ruleAll; simp only [Go.Proofs.YtpmemoabkbmljaaDoor.ruleAll] at C
        refine yield_walk (ops := #[]) rfl rfl (show 13 < 67 by decide) ?_
        go_wp2_with (first | (refine wpList_build 31 _ rfl rfl [(0, .int .i64 (n : Int))] rfl _ (build_sqn _ _) ?_))
        exact S.val (i := 2) hst (by decide) hi0 HR HW (Below.refl _ _) ⟨updG_at .., rfl⟩
    · simp only [List.getElem?_cons_succ, List.getElem?_cons_zero, Option.some.injEq] at hi
      subst hi
      have M := S.base
      have HR : ∀ j ∈ iso1R 3, D j = true := (fun _ h => by cases h)
      have HW : ∀ j, D j = true → 3 ∉ iso1W j := fun j _ h => by
        unfold iso1W at h
        (repeat' split at h) <;> simp at h
      have hst := iso1S n bq w.heap.size
      refine ⟨⟨#[undef, undef, undef, .pointer (some ⟨bq, 0, none⟩), undef, undef, undef, undef, undef, undef, undef, undef, undef, undef, undef, undef, undef, undef, undef, undef, undef, undef, undef, undef, undef, undef, undef, undef, undef, undef, undef, undef, undef, undef, undef, undef, undef, undef, undef, undef, undef, undef, undef, undef, undef, undef, undef, undef, undef, undef, undef, undef, undef, undef, undef, undef, undef, undef, undef, undef, undef, undef, undef, undef, undef, undef, undef], []⟩, ?_, ?_⟩
      · intro t ht
        have ht' : t ∈ ([3] : List Nat) := ht
        simp only [List.mem_cons, List.not_mem_nil, or_false] at ht'
        subst ht'
        exact rfl
      · skip
        have C := M.ruleAll; simp only [Go.Proofs.YtpmemoabkbmljaaDoor.ruleAll] at C
        refine yield_walk (ops := #[]) rfl rfl (show 14 < 67 by decide) ?_
        go_wp2
        exact S.val (i := 3) hst (by decide) hi0 HR HW (Below.refl _ _) ⟨updG_at .., rfl⟩
    · simp only [List.getElem?_cons_succ, List.getElem?_cons_zero, Option.some.injEq] at hi
      subst hi
      have d3 : D 3 = true := hpre _ (Array.mem_of_getElem? (i := 0) rfl) rfl
      obtain ⟨E, P, M⟩ := S.get [3] (by decide) (by intro j hj; simp only [List.mem_cons, List.not_mem_nil, or_false] at hj; subst hj <;> assumption)
      obtain ⟨e3, E3⟩ : g 3 = .pointer (some ⟨bq, 0, none⟩) ∧ E 3 = [] := P 3 (by decide)
      simp only [List.flatMap_cons, List.flatMap_nil, List.append_nil, E3, List.cons_append, List.nil_append] at M
      clear P
      have HR : ∀ j ∈ iso1R 4, D j = true := (by intro j hj; have hj' : j ∈ ([3] : List Nat) := hj; simp only [List.mem_cons, List.not_mem_nil, or_false] at hj'; subst hj' <;> assumption)
      have HW : ∀ j, D j = true → 4 ∉ iso1W j := fun j _ h => by
        unfold iso1W at h
        (repeat' split at h) <;> simp at h
      have hst := iso1S n bq w.heap.size
      refine ⟨⟨#[undef, undef, undef, undef, undef, undef, undef, undef, undef, undef, undef, undef, undef, undef, .pointer (some ⟨bq, 0, none⟩), undef, undef, undef, undef, undef, undef, undef, undef, undef, undef, undef, undef, undef, undef, undef, undef, undef, undef, undef, undef, undef, undef, undef, undef, undef, undef, undef, undef, undef, undef, undef, undef, undef, undef, undef, undef, undef, undef, undef, undef, undef, undef, undef, undef, undef, undef, undef, undef, undef, undef, undef, undef], []⟩, ?_, ?_⟩
      · intro t ht
        have ht' : t ∈ ([14] : List Nat) := ht
        simp only [List.mem_cons, List.not_mem_nil, or_false] at ht'
        subst ht'
        exact e3.symm
      · skip
        have C := M.ruleAll; simp only [Go.Proofs.YtpmemoabkbmljaaDoor.ruleAll] at C
        refine yield_walk (ops := #[]) rfl rfl (show 15 < 67 by decide) ?_
        go_wp2
        exact S.val (i := 4) hst (by decide) hi0 HR HW (Below.refl _ _) ⟨updG_at .., rfl⟩
    · simp only [List.getElem?_cons_succ, List.getElem?_cons_zero, Option.some.injEq] at hi
      subst hi
      have d4 : D 4 = true := hpre _ (Array.mem_of_getElem? (i := 0) rfl) rfl
      have d3 : D 3 = true := S.anc 4 d4 3 (show 3 ∈ iso1R 4 by decide)
      obtain ⟨E, P, M⟩ := S.get [4] (by decide) (by intro j hj; simp only [List.mem_cons, List.not_mem_nil, or_false] at hj; subst hj <;> assumption)
      obtain ⟨e4, E4⟩ : g 4 = .int .i64 (n : Int) ∧ E 4 = [] := P 4 (by decide)
      simp only [List.flatMap_cons, List.flatMap_nil, List.append_nil, E4, List.cons_append, List.nil_append] at M
      clear P
      have HR : ∀ j ∈ iso1R 5, D j = true := (by intro j hj; have hj' : j ∈ ([3, 4] : List Nat) := hj; simp only [List.mem_cons, List.not_mem_nil, or_false] at hj'; rcases hj' with rfl | rfl <;> assumption)
      have HW : ∀ j, D j = true → 5 ∉ iso1W j := fun j _ h => by
        unfold iso1W at h
        (repeat' split at h) <;> simp at h
      have hst := iso1S n bq w.heap.size
      refine ⟨⟨#[undef, undef, undef, undef, undef, undef, undef, undef, undef, undef, undef, undef, undef, undef, undef, .int .i64 (n : Int), undef, undef, undef, undef, undef, undef, undef, undef, undef, undef, undef, undef, undef, undef, undef, undef, undef, undef, undef, undef, undef, undef, undef, undef, undef, undef, undef, undef, undef, undef, undef, undef, undef, undef, undef, undef, undef, undef, undef, undef, undef, undef, undef, undef, undef, undef, undef, undef, undef, undef, undef], []⟩, ?_, ?_⟩
      · intro t ht
        have ht' : t ∈ ([15] : List Nat) := ht
        simp only [List.mem_cons, List.not_mem_nil, or_false] at ht'
        subst ht'
        exact e4.symm
      · skip
        have C := M.ruleAll; simp only [Go.Proofs.YtpmemoabkbmljaaDoor.ruleAll] at C
        refine yield_walk (ops := #[]) rfl rfl (show 16 < 67 by decide) ?_
        go_wp2_with (first | (go_at_call 69; fail))
        refine (HI.out _).mono ?_
        rintro e w1 ⟨rfl, hb⟩
        go_wp2
        exact S.val (i := 5) hst (by decide) hi0 HR HW hb ⟨updG_at .., rfl⟩
    · simp only [List.getElem?_cons_succ, List.getElem?_cons_zero, Option.some.injEq] at hi
      subst hi
      have M := S.base
      have HR : ∀ j ∈ iso1R 6, D j = true := (fun _ h => by cases h)
      have HW : ∀ j, D j = true → 6 ∉ iso1W j := fun j _ h => by
        unfold iso1W at h
        (repeat' split at h) <;> simp at h
      have hst := iso1S n bq w.heap.size
      refine ⟨⟨#[undef, undef, undef, undef, undef, undef, undef, undef, undef, undef, undef, undef, undef, undef, undef, undef, undef, undef, undef, undef, undef, undef, undef, undef, undef, undef, undef, undef, undef, undef, undef, undef, undef, undef, undef, undef, undef, undef, undef, undef, undef, undef, undef, undef, undef, undef, undef, undef, undef, undef, undef, undef, undef, undef, undef, undef, undef, undef, undef, undef, undef, undef, undef, undef, undef, undef, undef], []⟩, ?_, ?_⟩
      · intro t ht
        have ht' : t ∈ ([] : List Nat) := ht
        cases ht'
      · skip
        clear M
        have M := Mm.start no w2
        have C := M.ruleAll; simp only [Go.Proofs.YtpmemoabkbmljaaDoor.ruleAll] at C
        refine yield_walk (ops := #[]) rfl rfl (show 7 < 67 by decide) ?_
        go_wp2_with (first | ((with_reducible apply wpM_alloc' M 31 (sqs 0 fun _ _ => 0)); rfl; exact ⟨rfl, _, zero_sqs _, rfl⟩; clear M; (try clear C); intro b6 w9 h_b6 M; have C := M.ruleAll; simp only [Go.Proofs.YtpmemoabkbmljaaDoor.ruleAll] at C))
        exact S.add (i := 6) hst (by decide) hi0 HR HW M (new_box h_b6) ⟨b6, updG_at .., Nat.le_trans S.base.size h_b6, by rw [S.not_yet hi0 (show 6 ∈ iso1R 8 by decide) (by decide)]; rfl⟩
    · simp only [List.getElem?_cons_succ, List.getElem?_cons_zero, Option.some.injEq] at hi
      subst hi
      have M := S.base
      have HR : ∀ j ∈ iso1R 7, D j = true := (fun _ h => by cases h)
      have HW : ∀ j, D j = true → 7 ∉ iso1W j := fun j _ h => by
        unfold iso1W at h
        (repeat' split at h) <;> simp at h
      have hst := iso1S n bq w.heap.size
      refine ⟨⟨#[undef, undef, undef, undef, undef, undef, undef, undef, undef, undef, undef, undef, undef, undef, undef, undef, undef, undef, undef, undef, undef, undef, undef, undef, undef, undef, undef, undef, undef, undef, undef, undef, undef, undef, undef, undef, undef, undef, undef, undef, undef, undef, undef, undef, undef, undef, undef, undef, undef, undef, undef, undef, undef, undef, undef, undef, undef, undef, undef, undef, undef, undef, undef, undef, undef, undef, undef], []⟩, ?_, ?_⟩
      · intro t ht
        have ht' : t ∈ ([] : List Nat) := ht
        cases ht'
      · skip
        clear M
        have M := Mm.start no w2
        have C := M.ruleAll; simp only [Go.Proofs.YtpmemoabkbmljaaDoor.ruleAll] at C
        refine yield_walk (ops := #[]) rfl rfl (show 8 < 67 by decide) ?_
        go_wp2_with (first | ((with_reducible apply wpM_alloc' M 93 (bys fun _ => 0)); rfl; exact ⟨rfl, _, zero_plc _, rfl⟩; clear M; (try clear C); intro b7 w9 h_b7 M; have C := M.ruleAll; simp only [Go.Proofs.YtpmemoabkbmljaaDoor.ruleAll] at C))
        exact S.add (i := 7) hst (by decide) hi0 HR HW M (new_box h_b7) ⟨b7, updG_at .., Nat.le_trans S.base.size h_b7, by rw [S.not_yet hi0 (show 7 ∈ iso1R 9 by decide) (by decide)]; rfl⟩
    · simp only [List.getElem?_cons_succ, List.getElem?_cons_zero, Option.some.injEq] at hi
      subst hi
      have d6 : D 6 = true := hpre _ (Array.mem_of_getElem? (i := 0) rfl) rfl
      have d2 : D 2 = true := hpre _ (Array.mem_of_getElem? (i := 1) rfl) rfl
      have d5 : D 5 = true := hpre _ (Array.mem_of_getElem? (i := 2) rfl) rfl
      have d0 : D 0 = true := hpre _ (Array.mem_of_getElem? (i := 3) rfl) rfl
      have d1 : D 1 = true := hpre _ (Array.mem_of_getElem? (i := 4) rfl) rfl
      have d7 : D 7 = true := hpre _ (Array.mem_of_getElem? (i := 10) rfl) rfl
      have d3 : D 3 = true := S.anc 5 d5 3 (show 3 ∈ iso1R 5 by decide)
      have d4 : D 4 = true := S.anc 5 d5 4 (show 4 ∈ iso1R 5 by decide)
      obtain ⟨E, P, M⟩ := S.get [2] (by decide) (by intro j hj; simp only [List.mem_cons, List.not_mem_nil, or_false] at hj; subst hj <;> assumption)
      obtain ⟨e2, E2⟩ : g 2 = .agg (sqs (n : Int) fun _ _ => 0) ∧ E 2 = [] := P 2 (by decide)
      simp only [List.flatMap_cons, List.flatMap_nil, List.append_nil, E2, List.cons_append, List.nil_append] at M
      clear P
      have HR : ∀ j ∈ iso1R 8, D j = true := (by intro j hj; have hj' : j ∈ ([0, 1, 2, 3, 4, 5, 6, 7] : List Nat) := hj; simp only [List.mem_cons, List.not_mem_nil, or_false] at hj'; rcases hj' with rfl | rfl | rfl | rfl | rfl | rfl | rfl | rfl <;> assumption)
      have HW : ∀ j, D j = true → j ≠ 6 → 8 ∉ iso1W j := fun j _ hne h => by
        unfold iso1W at h
        (repeat' split at h) <;> first | contradiction | simp at h
      have hst := iso1S n bq w.heap.size
      try clear M
      obtain ⟨E', X, P, M, FIN⟩ := S.write (i := 8) (t := 6) hst (by decide) hi0 HR HW d6
      obtain ⟨b6, e6, hb6, rfl⟩ : ∃ b6, g 6 = .pointer (some ⟨b6, 0, none⟩) ∧ w.heap.size ≤ b6 ∧ E' = [.box b6 (bif D 8 then sqs (n : Int) fun _ _ => 0 else sqs 0 fun _ _ => 0) 31] := P
      simp only [List.cons_append, List.nil_append] at M FIN
      refine ⟨⟨#[undef, undef, undef, undef, undef, undef, undef, .pointer (some ⟨b6, 0, none⟩), undef, undef, undef, undef, undef, .agg (sqs (n : Int) fun _ _ => 0), undef, undef, undef, undef, undef, undef, undef, undef, undef, undef, undef, undef, undef, undef, undef, undef, undef, undef, undef, undef, undef, undef, undef, undef, undef, undef, undef, undef, undef, undef, undef, undef, undef, undef, undef, undef, undef, undef, undef, undef, undef, undef, undef, undef, undef, undef, undef, undef, undef, undef, undef, undef, undef], []⟩, ?_, ?_⟩
      · intro t ht
        have ht' : t ∈ ([7, 13] : List Nat) := ht
        simp only [List.mem_cons, List.not_mem_nil, or_false] at ht'
        rcases ht' with rfl | rfl
        · exact e6.symm
        · exact e2.symm
      · skip
        have C := M.ruleAll; simp only [Go.Proofs.YtpmemoabkbmljaaDoor.ruleAll] at C
        simp only [hi0, cond_false] at M FIN
        clear C
        have C := M.ruleAll; simp only [Go.Proofs.YtpmemoabkbmljaaDoor.ruleAll] at C
        refine yield_store (ops := #[]) (by exact rfl) (by exact rfl) ?_
        go_wp2_with (first | ((with_reducible apply wpM_sta' M 0 31 (sqs (n : Int) fun _ _ => 0)); rfl; rfl; rfl; rfl; (first | exact .inl (by assumption) | exact .inr rfl | exact .inr (by assumption)); exact ⟨rfl, inf_sqs.trans (congrArg some (sqs_size ..).symm), flat_sqs _ _⟩; (simp only [entCells, List.getElem?_cons_zero, List.getElem?_cons_succ, sqs_size, sqs_size]); clear M; (try clear C); intro w9 M; simp only [List.set_cons_zero, List.set_cons_succ, entBlk, entT, List.getElem?_cons_zero, List.getElem?_cons_succ] at M; have C := M.ruleAll; simp only [Go.Proofs.YtpmemoabkbmljaaDoor.ruleAll] at C))
        exact FIN _ _ [.box b6 (sqs (n : Int) fun _ _ => 0) 31] M ⟨b6, (updG_ne (by decide)).trans e6, hb6, by rw [updD_at]; rfl⟩ rfl
    · simp only [List.getElem?_cons_succ, List.getElem?_cons_zero, Option.some.injEq] at hi
      subst hi
      have d7 : D 7 = true := hpre _ (Array.mem_of_getElem? (i := 0) rfl) rfl
      have d5 : D 5 = true := hpre _ (Array.mem_of_getElem? (i := 1) rfl) rfl
      have d8 : D 8 = true := hpre _ (Array.mem_of_getElem? (i := 2) rfl) rfl
      have d0 : D 0 = true := hpre _ (Array.mem_of_getElem? (i := 3) rfl) rfl
      have d1 : D 1 = true := hpre _ (Array.mem_of_getElem? (i := 4) rfl) rfl
      have d2 : D 2 = true := hpre _ (Array.mem_of_getElem? (i := 5) rfl) rfl
      have d3 : D 3 = true := hpre _ (Array.mem_of_getElem? (i := 6) rfl) rfl
      have d4 : D 4 = true := hpre _ (Array.mem_of_getElem? (i := 7) rfl) rfl
      have d6 : D 6 = true := hpre _ (Array.mem_of_getElem? (i := 9) rfl) rfl
      obtain ⟨E, P, M⟩ := S.get [5] (by decide) (by intro j hj; simp only [List.mem_cons, List.not_mem_nil, or_false] at hj; subst hj <;> assumption)
      obtain ⟨e5, E5⟩ : g 5 = .agg (bys (idTo n)) ∧ E 5 = [] := P 5 (by decide)
      simp only [List.flatMap_cons, List.flatMap_nil, List.append_nil, E5, List.cons_append, List.nil_append] at M
      clear P
      have HR : ∀ j ∈ iso1R 9, D j = true := (by intro j hj; have hj' : j ∈ ([0, 1, 2, 3, 4, 5, 6, 7, 8] : List Nat) := hj; simp only [List.mem_cons, List.not_mem_nil, or_false] at hj'; rcases hj' with rfl | rfl | rfl | rfl | rfl | rfl | rfl | rfl | rfl <;> assumption)
      have HW : ∀ j, D j = true → j ≠ 7 → 9 ∉ iso1W j := fun j _ hne h => by
        unfold iso1W at h
        (repeat' split at h) <;> first | contradiction | simp at h
      have hst := iso1S n bq w.heap.size
      try clear M
      obtain ⟨E', X, P, M, FIN⟩ := S.write (i := 9) (t := 7) hst (by decide) hi0 HR HW d7
      obtain ⟨b7, e7, hb7, rfl⟩ : ∃ b7, g 7 = .pointer (some ⟨b7, 0, none⟩) ∧ w.heap.size ≤ b7 ∧ E' = [.box b7 (bif D 9 then bys (idTo n) else bys fun _ => 0) 93] := P
      simp only [List.cons_append, List.nil_append] at M FIN
      refine ⟨⟨#[undef, undef, undef, undef, undef, undef, undef, undef, .pointer (some ⟨b7, 0, none⟩), undef, undef, undef, undef, undef, undef, undef, .agg (bys (idTo n)), undef, undef, undef, undef, undef, undef, undef, undef, undef, undef, undef, undef, undef, undef, undef, undef, undef, undef, undef, undef, undef, undef, undef, undef, undef, undef, undef, undef, undef, undef, undef, undef, undef, undef, undef, undef, undef, undef, undef, undef, undef, undef, undef, undef, undef, undef, undef, undef, undef, undef], []⟩, ?_, ?_⟩
      · intro t ht
        have ht' : t ∈ ([8, 16] : List Nat) := ht
        simp only [List.mem_cons, List.not_mem_nil, or_false] at ht'
        rcases ht' with rfl | rfl
        · exact e7.symm
        · exact e5.symm
      · skip
        have C := M.ruleAll; simp only [Go.Proofs.YtpmemoabkbmljaaDoor.ruleAll] at C
        simp only [hi0, cond_false] at M FIN
        clear C
        have C := M.ruleAll; simp only [Go.Proofs.YtpmemoabkbmljaaDoor.ruleAll] at C
        refine yield_store (ops := #[]) (by exact rfl) (by exact rfl) ?_
        go_wp2_with (first | ((with_reducible apply wpM_sta' M 0 93 (bys (idTo n))); rfl; rfl; rfl; rfl; (first | exact .inl (by assumption) | exact .inr rfl | exact .inr (by assumption)); exact ⟨rfl, inf_plc.trans (congrArg some (bys_size ..).symm), flat_bys _⟩; (simp only [entCells, List.getElem?_cons_zero, List.getElem?_cons_succ, bys_size, bys_size]); clear M; (try clear C); intro w9 M; simp only [List.set_cons_zero, List.set_cons_succ, entBlk, entT, List.getElem?_cons_zero, List.getElem?_cons_succ] at M; have C := M.ruleAll; simp only [Go.Proofs.YtpmemoabkbmljaaDoor.ruleAll] at C))
        exact FIN _ _ [.box b7 (bys (idTo n)) 93] M ⟨b7, (updG_ne (by decide)).trans e7, hb7, by rw [updD_at]; rfl⟩ rfl
  case hQ_iso1 =>
    clear M
    try clear C
    intro D g w2 hall S
    obtain ⟨E, P, M⟩ := S.get [6, 7] (by decide) (fun k hk => hall k (by simp only [List.mem_cons, List.not_mem_nil, or_false] at hk; show k < 10; omega))
    obtain ⟨b6, e6, hb6, E6⟩ : ∃ b6, g 6 = .pointer (some ⟨b6, 0, none⟩) ∧ w.heap.size ≤ b6 ∧ E 6 = [.box b6 (bif D 8 then sqs (n : Int) fun _ _ => 0 else sqs 0 fun _ _ => 0) 31] := P 6 (by decide)
    obtain ⟨b7, e7, hb7, E7⟩ : ∃ b7, g 7 = .pointer (some ⟨b7, 0, none⟩) ∧ w.heap.size ≤ b7 ∧ E 7 = [.box b7 (bif D 9 then bys (idTo n) else bys fun _ => 0) 93] := P 7 (by decide)
    simp only [List.flatMap_cons, List.flatMap_nil, List.append_nil, E6, E7, List.cons_append, List.nil_append] at M
    clear P
    obtain ⟨E', P, _⟩ := S.get [0, 1, 2, 3, 4, 5, 6, 7, 8, 9] (by decide) (fun k hk => hall k (by simp only [List.mem_cons, List.not_mem_nil, or_false] at hk; show k < 10; omega))
    have e0 : g 0 = .pointer (some ⟨bq, 0, none⟩) := (P 0 (by decide)).1
    have e1 : g 1 = .int .i64 (n : Int) := (P 1 (by decide)).1
    have e2 : g 2 = .agg (sqs (n : Int) fun _ _ => 0) := (P 2 (by decide)).1
    have e3 : g 3 = .pointer (some ⟨bq, 0, none⟩) := (P 3 (by decide)).1
    have e4 : g 4 = .int .i64 (n : Int) := (P 4 (by decide)).1
    have e5 : g 5 = .agg (bys (idTo n)) := (P 5 (by decide)).1
    simp only [fullAct, e0, e1, e2, e3, e4, e5, e6, e7, Act.put, List.setIfInBounds_toArray, List.set_cons_succ, List.set_cons_zero]
    simp only [hall 8 (by decide), hall 9 (by decide), cond_true] at M
    clear P S hall e0 e1 e2 e3 e4 e5 e6 e7
    try clear E'
    try clear E
    have C := M.ruleAll; simp only [Go.Proofs.YtpmemoabkbmljaaDoor.ruleAll] at C
    go_wp2
    go_loopw [9, 10] (fun i _ wr => ∃ k : Nat, k ≤ n ∧ i = .int .u8 (k : Int) ∧ Mm no w wr [.box b6 (sqs (n : Int) (isoW n T (fun x => x) (fun x => x) (fun x => x) (k * n))) 31, .box b7 (bys (idTo n)) 93, .box bo (sqs 0 fun _ _ => 0) 31, .box bq (sqs (n : Int) t) 31]) (fun i _ _ => n - (intOf i).toNat)
    case atStart => exact ⟨0, by omega, rfl, M.eq (by rw [Nat.zero_mul]; rfl)⟩
    case round =>
      obtain ⟨k, hk, rfl, M9⟩ := hrel
      clear M; (try clear C)
      have M := M9
      clear M9
      have C := M.ruleAll; simp only [Go.Proofs.YtpmemoabkbmljaaDoor.ruleAll] at C
      by_cases hlt : k < n
      · have hlt' : (k : Int) < (n : Int) := by omega
        have hk10 : (k : Int) < 10 := by omega
        have HR := Hid2.mk (H1.out k hlt)
        have l1 := L1.out k hlt
        go_wp2
        obtain ⟨wo, rfl⟩ : ∃ wo : World, wo = wr := ⟨_, rfl⟩
        go_loopw [10] (fun i wr => ∃ l : Nat, l ≤ n ∧ i = .int .u8 (l : Int) ∧ Mm no w wr [.box b6 (sqs (n : Int) (isoW n T (fun x => x) (fun x => x) (fun x => x) (k * n + l))) 31, .box b7 (bys (idTo n)) 93, .box bo (sqs 0 fun _ _ => 0) 31, .box bq (sqs (n : Int) t) 31]) (fun i _ => n - (intOf i).toNat)
        case atStart => exact ⟨0, by omega, rfl, M⟩
        case round =>
          obtain ⟨l, hl, rfl, M9⟩ := hrel
          clear M; (try clear C)
          have M := M9
          clear M9
          have C := M.ruleAll; simp only [Go.Proofs.YtpmemoabkbmljaaDoor.ruleAll] at C
          by_cases hlt2 : l < n
          · have hlt2' : (l : Int) < (n : Int) := by omega
            have hl10 : (l : Int) < 10 := by omega
            have HL := Hid2.mk (H2.out l hlt2)
            have l2 := L2.out l hlt2
            have hTv := HT.out k l
            generalize lq (fun x y => t y x) b k = rk at HR l1 hTv
            generalize lq t a l = sl at HL l2 hTv
            have hr10 : (rk : Int) < 10 := by omega
            have hs10 : (sl : Int) < 10 := by omega
            have q5 := sqs_get (n := (n : Int)) (t := t) (x := rk) (y := sl) (by omega) (by omega)
            rw [← hTv] at q5
            have HS := Hid2.mk (isoW_set (N := n) (t := T) (f := fun x => x) (g := fun x => x) (h := fun x => x) (n := (n : Int)) (k := k) (l := l) hlt2 (show k < 10 by omega) (show l < 10 by omega))
            generalize T k l = v at q5 HS
            clear hTv
            go_wp2
            apply wp_region_mm M 17 (by kernel_rfl) (by kernel_rfl); (simp only [List.take_succ_cons, List.take_zero]; repeat (first | exact wpText_nil | (apply wpText_cons; (intro w2 M; have C := M.ruleAll; simp only [Go.Proofs.YtpmemoabkbmljaaDoor.ruleAll] at C; go_wp2_with (first | ((with_reducible apply wpM_lda' M 3 31 0 (sqs (n : Int) t)); rfl; rfl; rfl; exact ⟨rfl, inf_sqs.trans (congrArg some (sqs_size ..).symm), _, und_sqs, rfl⟩; exact whole_of rfl) | (go_at_call 70; ((with_reducible refine (HR.out _).mono ?_); rintro e w1 ⟨rfl, hb⟩; have hsz := M.size; (try (have G9 := G.later hb; clear G; have G := G9; clear G9)); have M9 := M.later hb; clear M; (try clear C); have M := M9; clear M9; have C := M.ruleAll; simp only [Go.Proofs.YtpmemoabkbmljaaDoor.ruleAll] at C)) | (go_at_call 71; ((with_reducible refine (HL.out _).mono ?_); rintro e w1 ⟨rfl, hb⟩; have hsz := M.size; (try (have G9 := G.later hb; clear G; have G := G9; clear G9)); have M9 := M.later hb; clear M; (try clear C); have M := M9; clear M9; have C := M.ruleAll; simp only [Go.Proofs.YtpmemoabkbmljaaDoor.ruleAll] at C))); exact ⟨rfl, rfl, M⟩); rfl))); (clear M; (try clear C); intro w2 M; simp only [List.drop_succ_cons, List.drop_zero]; have C := M.ruleAll; simp only [Go.Proofs.YtpmemoabkbmljaaDoor.ruleAll] at C)
            go_wp2_with (first | ((with_reducible apply wpM_st' M 0 5 (1 + k * 10 + l) (sqs (n : Int) (isoW n T (fun x => x) (fun x => x) (fun x => x) (k * n + (l + 1))))); rfl; rfl; rfl; (first | exact .inl (by assumption) | exact .inr rfl | exact .inr (by assumption)); exact ⟨rfl, rfl, by kernel_rfl⟩; (exact Nat.lt_of_lt_of_eq (by omega) (sqs_size _ _).symm); exact HS.out; clear M; (try clear C); intro w9 M; simp only [List.set_cons_zero, List.set_cons_succ, entBlk, entT, List.getElem?_cons_zero, List.getElem?_cons_succ] at M; have C := M.ruleAll; simp only [Go.Proofs.YtpmemoabkbmljaaDoor.ruleAll] at C))
            go_roundw
            case rel => exact ⟨l + 1, by omega, by go_num, M⟩
            case measure => simp [intOf]; omega
          · obtain rfl : l = n := by omega
            go_wp2
            go_roundw
            case rel => exact ⟨k + 1, by omega, by go_num, M.eq (by rw [Nat.add_mul, Nat.one_mul])⟩
            case measure => simp [intOf]; omega
      · obtain rfl : k = n := by omega
        have M9 := M.eq (show _ = [.box b6 (sqs (k : Int) U) 31, .box b7 (bys (idTo k)) 93, .box bo (sqs 0 fun _ _ => 0) 31, .box bq (sqs (k : Int) t) 31] by rw [HMD.out])
        clear M; (try clear C)
        have M := M9
        clear M9
        have C := M.ruleAll; simp only [Go.Proofs.YtpmemoabkbmljaaDoor.ruleAll] at C
        go_wp2_with (first | ((with_reducible apply wpM_st' M 1 5 (u) ((bys (idTo k)).setIfInBounds u (.int .u8 0))); rfl; rfl; rfl; (first | exact .inl (by assumption) | exact .inr rfl | exact .inr (by assumption)); exact ⟨rfl, rfl, by kernel_rfl⟩; (exact Nat.lt_of_lt_of_eq (by omega) (bys_size _).symm); exact rfl; clear M; (try clear C); intro w9 M; simp only [List.set_cons_zero, List.set_cons_succ, entBlk, entT, List.getElem?_cons_zero, List.getElem?_cons_succ] at M; have C := M.ruleAll; simp only [Go.Proofs.YtpmemoabkbmljaaDoor.ruleAll] at C) | ((with_reducible apply wpM_st' M 1 5 (0) (bys g8)); rfl; rfl; rfl; (first | exact .inl (by assumption) | exact .inr rfl | exact .inr (by assumption)); exact ⟨rfl, rfl, by kernel_rfl⟩; (exact Nat.lt_of_lt_of_eq (by omega) ((Array.size_setIfInBounds ..).trans (bys_size _)).symm); exact HW.out; clear M; (try clear C); intro w9 M; simp only [List.set_cons_zero, List.set_cons_succ, entBlk, entT, List.getElem?_cons_zero, List.getElem?_cons_succ] at M; have C := M.ruleAll; simp only [Go.Proofs.YtpmemoabkbmljaaDoor.ruleAll] at C) | ((with_reducible apply wpM_lda' M 0 31 0 (sqs (k : Int) U)); rfl; rfl; rfl; exact ⟨rfl, inf_sqs.trans (congrArg some (sqs_size ..).symm), _, und_sqs, rfl⟩; exact whole_of rfl) | ((with_reducible apply wpM_lda' M 1 93 0 (bys g8)); rfl; rfl; rfl; exact ⟨rfl, inf_plc.trans (congrArg some (bys_size ..).symm), _, und_plc, rfl⟩; exact whole_of rfl) | (go_at_call 72; ((with_reducible refine (HX.out _).mono ?_); rintro e w1 ⟨rfl, hb⟩; have hsz := M.size; (try (have G9 := G.later hb; clear G; have G := G9; clear G9)); have M9 := M.later hb; clear M; (try clear C); have M := M9; clear M9; have C := M.ruleAll; simp only [Go.Proofs.YtpmemoabkbmljaaDoor.ruleAll] at C)) | ((with_reducible apply wpM_sta' M 2 31 (sqs (k : Int) V)); rfl; rfl; rfl; rfl; (first | exact .inl (by assumption) | exact .inr rfl | exact .inr (by assumption)); exact ⟨rfl, inf_sqs.trans (congrArg some (sqs_size ..).symm), flat_sqs _ _⟩; (simp only [entCells, List.getElem?_cons_zero, List.getElem?_cons_succ, sqs_size, sqs_size]); clear M; (try clear C); intro w9 M; simp only [List.set_cons_zero, List.set_cons_succ, entBlk, entT, List.getElem?_cons_zero, List.getElem?_cons_succ] at M; have C := M.ruleAll; simp only [Go.Proofs.YtpmemoabkbmljaaDoor.ruleAll] at C))
        refine bodyPost_ret (v := .agg (sqs (k : Int) V)) (by exact results_part rfl _ _ _ _ _ _ rfl und_sqs rfl inf_sqs (cells_of_blk0 (M.box 2 rfl))) rfl ?_
        exact ⟨rfl, M.below⟩

end Go.Proofs.YtpmemoabkbmljaaDoor

/- Whether a law is universal, on both sides: contracts. -/
namespace Go.Proofs.YtpmemoabkbmljaaDoor
set_option linter.unusedSimpArgs false
set_option linter.unusedVariables false
open Go Go.RowKit

theorem uniB_false {n : Nat} {t : Nat → Nat → Nat} {k a b : Nat} (ha : a < n) (hb : b < n) (h : lawB n (isoT n t a b) k = false) : uniB n t k = false := by
  have hN : 0 < n := by omega
  have e1 : (a * n + b) / n = a := by rw [Nat.mul_comm, Nat.mul_add_div hN, Nat.div_eq_of_lt hb]; rfl
  have e2 : (a * n + b) % n = b := by rw [Nat.mul_comm, Nat.mul_add_mod]; exact Nat.mod_eq_of_lt hb
  have hm : a * n + b < n * n := by
    have : (a + 1) * n ≤ n * n := Nat.mul_le_mul_right _ ha
    rw [Nat.succ_mul] at this; omega
  exact List.all_eq_false.2 ⟨a * n + b, List.mem_range.2 hm, by rw [e1, e2, h]; decide⟩
theorem uniB_true {n : Nat} {t : Nat → Nat → Nat} {k : Nat} (h : ∀ a, a < n → ∀ b, b < n → lawB n (isoT n t a b) k = true) : uniB n t k = true :=
  List.all_eq_true.2 fun m hm => h _ (div_mod_lt (List.mem_range.1 hm)).1 _ (div_mod_lt (List.mem_range.1 hm)).2

set_option maxRecDepth 100000 in
set_option maxHeartbeats 4000000 in
theorem l07Universal_any (n : Nat) (t : Nat → Nat → Nat) (hs : IsSq (n : Int) t) (k : Nat) (hk : k < 20) (w : World) :
    Calls Tryd.prog 31 #[.agg (sqs (n : Int) t), .int .i64 (k : Int)] w fun e w' => e = .returned (.bool (uniB n t k)) ∧ Below w.heap.size w w' := by
  have M := Mm.start no w
  have hn : n ≤ 10 := by have := hs.hi; omega
  have HLW := Hid2.mk (fun w1 => l07Law_any k hk w1)
  have HIS := Hid2.mk (fun a b (ha : a < n) (hb : b < n) w1 => l07Isotope_any n t hs a b ha hb w1)
  have HH : Hid2 (∀ a b, a < n → b < n → ∀ w1 p1 c1 p2 c2, rdq w1 p1 (lawI k).1.length (bytF (lawI k).1) → rdq w1 p2 (lawI k).2.length (bytF (lawI k).2) → Calls Tryd.prog 36 #[.agg (sqs (n : Int) (isoT n t a b)), .agg (idV p1 c1 p2 c2 (lawI k).1.length (lawI k).2.length)] w1 fun e w' => e = .returned (.bool (lawB n (isoT n t a b) k)) ∧ Below w1.heap.size w1 w') :=
    Hid2.mk (fun a b ha hb w1 p1 c1 p2 c2 r1 r2 => l03Holds_any n (isoT n t a b) (isoT_sq hs ha hb) (lawI k).1 (lawI k).2 (lawI_tm hk).1 (lawI_tm hk).2 w1 p1 p2 c1 c2 r1 r2)
  have HUF := Hid2.mk (fun a b ha hb h => @uniB_false n t k a b ha hb h)
  have HUT := Hid2.mk (@uniB_true n t k)
  have so := sqs_order (n : Int) t
  generalize uniB n t k = res at *
  generalize hp : (fun a b => lawB n (isoT n t a b) k) = p at *
  have ep : ∀ a b, lawB n (isoT n t a b) k = p a b := fun a b => by rw [← hp]
  simp only [ep] at HH HUF HUT
  generalize (lawI k).1 = xs at *
  generalize (lawI k).2 = ys at *
  clear ep hp hs hk
  go_enter Tryd.func31, Tryd.ntmps31
  go_wp2_with (first | ((with_reducible apply wpM_box' M 31 (sqs (n : Int) t)); rfl; exact ⟨rfl, rfl⟩; clear M; (try clear C); intro bq w9 h_bq M; have C := M.ruleAll; simp only [Go.Proofs.YtpmemoabkbmljaaDoor.ruleAll] at C) | (go_at_call 27; fail))
  refine (HLW.out _).mono ?_
  rintro e w1 ⟨p1, c1, p2, c2, rfl, M'⟩
  have M9 := (M.joinRows M').weakRows M.size M.size
  clear M; (try clear C)
  have M := M9
  clear M9 M'
  have C := M.ruleAll; simp only [Go.Proofs.YtpmemoabkbmljaaDoor.ruleAll] at C
  go_wp2_with (first | ((with_reducible apply wpM_alloc' M 49 (idV none 0 none 0 0 0)); rfl; exact ⟨rfl, _, zero_idn _, rfl⟩; clear M; (try clear C); intro bz w9 h_bz M; have C := M.ruleAll; simp only [Go.Proofs.YtpmemoabkbmljaaDoor.ruleAll] at C) | ((with_reducible apply wpM_sta' M 0 49 (idV p1 c1 p2 c2 xs.length ys.length)); rfl; rfl; rfl; rfl; (first | exact .inl (by assumption) | exact .inr rfl | exact .inr (by assumption)); exact ⟨rfl, inf_idn.trans (congrArg some (idv_size ..).symm), flat_idv _ _ _ _ _ _⟩; (simp only [entCells, List.getElem?_cons_zero, List.getElem?_cons_succ, idv_size, idv_size]); clear M; (try clear C); intro w9 M; simp only [List.set_cons_zero, List.set_cons_succ, entBlk, entT, List.getElem?_cons_zero, List.getElem?_cons_succ] at M; have C := M.ruleAll; simp only [Go.Proofs.YtpmemoabkbmljaaDoor.ruleAll] at C))
  go_loopw [6, 7] (fun i _ wr => ∃ a : Nat, a ≤ n ∧ i = .int .u8 (a : Int) ∧ (∀ a', a' < a → ∀ b, b < n → p a' b = true) ∧ Mm no w wr [.box bz (idV p1 c1 p2 c2 xs.length ys.length) 49, .row w.heap.size (.slice p1 xs.length c1) xs.length (u8s xs) 5 1, .row w.heap.size (.slice p2 ys.length c2) ys.length (u8s ys) 5 1, .box bq (sqs (n : Int) t) 31]) (fun i _ _ => n - (intOf i).toNat)
  case atStart => exact ⟨0, by omega, rfl, fun _ h => by omega, M⟩
  case round =>
    obtain ⟨a, ha, rfl, hall, M9⟩ := hrel
    clear M; (try clear C)
    have M := M9
    clear M9
    have C := M.ruleAll; simp only [Go.Proofs.YtpmemoabkbmljaaDoor.ruleAll] at C
    have HA := Hid2.mk hall
    clear hall
    by_cases hlt : a < n
    · have hlt' : (a : Int) < (n : Int) := by omega
      have ha10 : (a : Int) < 10 := by omega
      go_wp2
      obtain ⟨wo, rfl⟩ : ∃ wo : World, wo = wr := ⟨_, rfl⟩
      go_loopw [7] (fun i wr => ∃ b : Nat, b ≤ n ∧ i = .int .u8 (b : Int) ∧ (∀ b', b' < b → p a b' = true) ∧ Mm no w wr [.box bz (idV p1 c1 p2 c2 xs.length ys.length) 49, .row w.heap.size (.slice p1 xs.length c1) xs.length (u8s xs) 5 1, .row w.heap.size (.slice p2 ys.length c2) ys.length (u8s ys) 5 1, .box bq (sqs (n : Int) t) 31]) (fun i _ => n - (intOf i).toNat)
      case atStart => exact ⟨0, by omega, rfl, fun _ h => by omega, M⟩
      case round =>
        obtain ⟨b, hb, rfl, hall, M9⟩ := hrel
        clear M; (try clear C)
        have M := M9
        clear M9
        have C := M.ruleAll; simp only [Go.Proofs.YtpmemoabkbmljaaDoor.ruleAll] at C
        have HB := Hid2.mk hall
        clear hall
        by_cases hlt2 : b < n
        · have hlt2' : (b : Int) < (n : Int) := by omega
          have hb10 : (b : Int) < 10 := by omega
          have H1 := Hid2.mk (HIS.out a b hlt hlt2)
          have H2 := Hid2.mk (HH.out a b hlt hlt2)
          have H3 := Hid2.mk (HUF.out a b hlt hlt2)
          generalize isoT n t a b = u at H1 H2
          cases hv : p a b with
          | true =>
            rw [hv] at H2
            have HST := Hid2.mk (show ∀ j, j < b + 1 → p a j = true from fun j hj => if e : j = b then e ▸ hv else HB.out j (by omega))
            clear hv
            go_wp2
            apply wp_region_mm M 6 (by kernel_rfl) (by kernel_rfl); (simp only [List.take_succ_cons, List.take_zero]; repeat (first | exact wpText_nil | (apply wpText_cons; (intro w2 M; have C := M.ruleAll; simp only [Go.Proofs.YtpmemoabkbmljaaDoor.ruleAll] at C; go_wp2_with (first | ((with_reducible apply wpM_lda' M 3 31 0 (sqs (n : Int) t)); rfl; rfl; rfl; exact ⟨rfl, inf_sqs.trans (congrArg some (sqs_size ..).symm), _, und_sqs, rfl⟩; exact whole_of rfl) | (go_at_call 51; ((with_reducible refine (H1.out _).mono ?_); rintro e w1 ⟨rfl, hb⟩; have hsz := M.size; (try (have G9 := G.later hb; clear G; have G := G9; clear G9)); have M9 := M.later hb; clear M; (try clear C); have M := M9; clear M9; have C := M.ruleAll; simp only [Go.Proofs.YtpmemoabkbmljaaDoor.ruleAll] at C)) | ((with_reducible apply wpM_lda' M 0 49 0 (idV p1 c1 p2 c2 xs.length ys.length)); rfl; rfl; rfl; exact ⟨rfl, inf_idn.trans (congrArg some (idv_size ..).symm), _, und_idn, rfl⟩; exact whole_of rfl) | (go_at_call 36; ((with_reducible refine (H2.out _ _ _ _ _ (u8_rdq rfl (M.row 1 rfl)) (u8_rdq rfl (M.row 2 rfl))).mono ?_); rintro e w1 ⟨rfl, hb⟩; have hsz := M.size; (try (have G9 := G.later hb; clear G; have G := G9; clear G9)); have M9 := M.later hb; clear M; (try clear C); have M := M9; clear M9; have C := M.ruleAll; simp only [Go.Proofs.YtpmemoabkbmljaaDoor.ruleAll] at C))); exact ⟨rfl, rfl, M⟩); rfl))); (clear M; (try clear C); intro w2 M; simp only [List.drop_succ_cons, List.drop_zero]; have C := M.ruleAll; simp only [Go.Proofs.YtpmemoabkbmljaaDoor.ruleAll] at C)
            go_wp2
            go_roundw
            case rel => exact ⟨b + 1, by omega, by go_num, HST.out, M⟩
            case measure => simp [intOf]; omega
          | false =>
            rw [hv] at H2
            have HST := Hid2.mk (H3.out hv)
            clear hv
            go_wp2
            apply wp_region_mm M 6 (by kernel_rfl) (by kernel_rfl); (simp only [List.take_succ_cons, List.take_zero]; repeat (first | exact wpText_nil | (apply wpText_cons; (intro w2 M; have C := M.ruleAll; simp only [Go.Proofs.YtpmemoabkbmljaaDoor.ruleAll] at C; go_wp2_with (first | ((with_reducible apply wpM_lda' M 3 31 0 (sqs (n : Int) t)); rfl; rfl; rfl; exact ⟨rfl, inf_sqs.trans (congrArg some (sqs_size ..).symm), _, und_sqs, rfl⟩; exact whole_of rfl) | (go_at_call 51; ((with_reducible refine (H1.out _).mono ?_); rintro e w1 ⟨rfl, hb⟩; have hsz := M.size; (try (have G9 := G.later hb; clear G; have G := G9; clear G9)); have M9 := M.later hb; clear M; (try clear C); have M := M9; clear M9; have C := M.ruleAll; simp only [Go.Proofs.YtpmemoabkbmljaaDoor.ruleAll] at C)) | ((with_reducible apply wpM_lda' M 0 49 0 (idV p1 c1 p2 c2 xs.length ys.length)); rfl; rfl; rfl; exact ⟨rfl, inf_idn.trans (congrArg some (idv_size ..).symm), _, und_idn, rfl⟩; exact whole_of rfl) | (go_at_call 36; ((with_reducible refine (H2.out _ _ _ _ _ (u8_rdq rfl (M.row 1 rfl)) (u8_rdq rfl (M.row 2 rfl))).mono ?_); rintro e w1 ⟨rfl, hb⟩; have hsz := M.size; (try (have G9 := G.later hb; clear G; have G := G9; clear G9)); have M9 := M.later hb; clear M; (try clear C); have M := M9; clear M9; have C := M.ruleAll; simp only [Go.Proofs.YtpmemoabkbmljaaDoor.ruleAll] at C))); exact ⟨rfl, rfl, M⟩); rfl))); (clear M; (try clear C); intro w2 M; simp only [List.drop_succ_cons, List.drop_zero]; have C := M.ruleAll; simp only [Go.Proofs.YtpmemoabkbmljaaDoor.ruleAll] at C)
            go_wp2
            go_ret
            exact ⟨by rw [HST.out]; rfl, M.below⟩
        · obtain rfl : b = n := by omega
          have HST := Hid2.mk (show ∀ a', a' < a + 1 → ∀ b', b' < b → p a' b' = true from fun j hj => if e : j = a then e ▸ HB.out else HA.out j (by omega))
          go_wp2
          go_roundw
          case rel => exact ⟨a + 1, by omega, by go_num, HST.out, M⟩
          case measure => simp [intOf]; omega
    · obtain rfl : a = n := by omega
      have HST := Hid2.mk (HUT.out HA.out)
      go_wp2
      go_ret
      exact ⟨by rw [HST.out]; rfl, M.below⟩
end Go.Proofs.YtpmemoabkbmljaaDoor

/- Universal laws, on both sides; the laws IsUniversal and UniversalLaws: their walks. -/
namespace Go.Proofs.YtpmemoabkbmljaaDoor
set_option linter.unusedSimpArgs false
set_option linter.unusedVariables false
open Go Go.RowKit

/-- Whether law k is universal, and the code. -/
noncomputable def iuRes (n : Int) (t : Nat → Nat → Nat) (k : Int) : Bool × Int := if lwCode n t k = 0 then (uniB n.toNat t k.toNat, 0) else (false, lwCode n t k)
noncomputable def ulRes (n : Int) (t : Nat → Nat → Nat) : List Int × Int := if isLp n t = true then (selTo (uniB n.toNat t) 20, 0) else ([], 1)
theorem ul_len (n : Int) (t : Nat → Nat → Nat) : (ulRes n t).1.length ≤ 20 := by
  unfold ulRes
  split
  · exact selTo_len _ 20
  · exact Nat.zero_le _
set_option maxRecDepth 100000 in
set_option maxHeartbeats 2000000 in
theorem specIsUniversal_any (n : Int) (t : Nat → Nat → Nat) (hby : Byt2 t) (k : Int) (w : World) : Calls Tryd.prog 15 #[.agg (sqs n t), .int .i64 k] w fun e w' => e = .returned (.tuple #[.bool (iuRes n t k).1, .int .i64 (iuRes n t k).2]) ∧ Below w.heap.size w w' := by
  have M := Mm.start no w
  have HC := fun w1 => l07Code_any n t hby k w1
  by_cases h0 : lwCode n t k = 0
  · rw [h0] at HC
    obtain ⟨hlp, hk0, hk1⟩ := lwCode_0 h0
    obtain ⟨N, rfl⟩ : ∃ N : Nat, n = N := ⟨n.toNat, by have := hlp.sq.lo; omega⟩
    obtain ⟨K, rfl⟩ : ∃ K : Nat, k = K := ⟨k.toNat, by omega⟩
    have hres : iuRes N t K = (uniB N t K, 0) := if_pos h0
    rw [hres]
    have hs := hlp.sq
    have hk : K < 20 := by omega
    have HU := Hid2.mk (fun w1 => l07Universal_any N t hs K hk w1)
    generalize uniB N t K = r at HU ⊢
    clear h0 hby hk0 hk1 hlp hs hk hres
    go_enter Tryd.func15, Tryd.ntmps15
    go_wp2_with (first | ((with_reducible apply wpM_box' M 31 (sqs (N : Int) t)); rfl; exact ⟨rfl, rfl⟩; clear M; (try clear C); intro bq w9 h_bq M; have C := M.ruleAll; simp only [Go.Proofs.YtpmemoabkbmljaaDoor.ruleAll] at C) | ((with_reducible apply wpM_lda' M 0 31 0 (sqs (N : Int) t)); rfl; rfl; rfl; exact ⟨rfl, inf_sqs.trans (congrArg some (sqs_size ..).symm), _, und_sqs, rfl⟩; exact whole_of rfl) | (go_at_call 25; ((with_reducible refine (HC _).mono ?_); rintro e w1 ⟨rfl, hb⟩; have hsz := M.size; (try (have G9 := G.later hb; clear G; have G := G9; clear G9)); have M9 := M.later hb; clear M; (try clear C); have M := M9; clear M9; have C := M.ruleAll; simp only [Go.Proofs.YtpmemoabkbmljaaDoor.ruleAll] at C)) | (go_at_call 31; ((with_reducible refine (HU.out _).mono ?_); rintro e w1 ⟨rfl, hb⟩; have hsz := M.size; (try (have G9 := G.later hb; clear G; have G := G9; clear G9)); have M9 := M.later hb; clear M; (try clear C); have M := M9; clear M9; have C := M.ruleAll; simp only [Go.Proofs.YtpmemoabkbmljaaDoor.ruleAll] at C)))
    go_ret2
    exact ⟨rfl, M.below⟩
  · have hres : iuRes n t k = (false, lwCode n t k) := if_neg h0
    rw [hres]
    generalize lwCode n t k = c at *
    have hc : (c == 0) = false := by simpa using h0
    have hc1 : (c != 0) = true := by rw [bne, hc]; rfl
    clear hby hres
    go_enter Tryd.func15, Tryd.ntmps15
    go_wp2_with (first | ((with_reducible apply wpM_box' M 31 (sqs n t)); rfl; exact ⟨rfl, rfl⟩; clear M; (try clear C); intro bq w9 h_bq M; have C := M.ruleAll; simp only [Go.Proofs.YtpmemoabkbmljaaDoor.ruleAll] at C) | ((with_reducible apply wpM_lda' M 0 31 0 (sqs n t)); rfl; rfl; rfl; exact ⟨rfl, inf_sqs.trans (congrArg some (sqs_size ..).symm), _, und_sqs, rfl⟩; exact whole_of rfl) | (go_at_call 25; ((with_reducible refine (HC _).mono ?_); rintro e w1 ⟨rfl, hb⟩; have hsz := M.size; (try (have G9 := G.later hb; clear G; have G := G9; clear G9)); have M9 := M.later hb; clear M; (try clear C); have M := M9; clear M9; have C := M.ruleAll; simp only [Go.Proofs.YtpmemoabkbmljaaDoor.ruleAll] at C)))
    go_ret2
    exact ⟨rfl, M.below⟩
set_option maxRecDepth 100000 in
set_option maxHeartbeats 2000000 in
theorem implIsUniversal_any (n : Int) (t : Nat → Nat → Nat) (hby : Byt2 t) (k : Int) (w : World) (hg : glb w) : Calls Tryd.prog 16 #[.agg (sqs n t), .int .i64 k] w fun e w' => e = .returned (.tuple #[.bool (iuRes n t k).1, .int .i64 (iuRes n t k).2]) ∧ Below w.heap.size w w' := by
  have M := Mm.start no w
  have HC := fun w1 => lawCode_any n t hby k w1
  by_cases h0 : lwCode n t k = 0
  · rw [h0] at HC
    obtain ⟨hlp, hk0, hk1⟩ := lwCode_0 h0
    obtain ⟨N, rfl⟩ : ∃ N : Nat, n = N := ⟨n.toNat, by have := hlp.sq.lo; omega⟩
    obtain ⟨K, rfl⟩ : ∃ K : Nat, k = K := ⟨k.toNat, by omega⟩
    have hres : iuRes N t K = (uniB N t K, 0) := if_pos h0
    rw [hres]
    have hs := hlp.sq
    have hk : K < 20 := by omega
    have HIS := Hid2.mk (fun w1 => isotopes_any N t hs w1)
    have HU := Hid2.mk (fun w1 (hb : Below w.heap.size w w1) g cap hr => universal_any N t hs K hk w1 (hg.later hb) g cap hr)
    have hpos : 0 < (ioL N t (N * N)).length * 101 := by
      rw [ioL_len]
      have h1 : 1 ≤ N := by have := hs.lo; omega
      have : 1 * 1 ≤ N * N := Nat.mul_le_mul h1 h1
      omega
    generalize uniB N t K = r at HU ⊢
    generalize ioL N t (N * N) = L at *
    clear h0 hby hk0 hk1 hlp hs hk hres hg
    go_enter Tryd.func16, Tryd.ntmps16
    go_wp2_with (first | ((with_reducible apply wpM_box' M 31 (sqs (N : Int) t)); rfl; exact ⟨rfl, rfl⟩; clear M; (try clear C); intro bq w9 h_bq M; have C := M.ruleAll; simp only [Go.Proofs.YtpmemoabkbmljaaDoor.ruleAll] at C) | ((with_reducible apply wpM_lda' M 0 31 0 (sqs (N : Int) t)); rfl; rfl; rfl; exact ⟨rfl, inf_sqs.trans (congrArg some (sqs_size ..).symm), _, und_sqs, rfl⟩; exact whole_of rfl) | (go_at_call 28; ((with_reducible refine (HC _).mono ?_); rintro e w1 ⟨rfl, hb⟩; have hsz := M.size; (try (have G9 := G.later hb; clear G; have G := G9; clear G9)); have M9 := M.later hb; clear M; (try clear C); have M := M9; clear M9; have C := M.ruleAll; simp only [Go.Proofs.YtpmemoabkbmljaaDoor.ruleAll] at C)) | (go_at_call 33; fail))
    refine (HIS.out _).mono ?_
    rintro e w2 ⟨v, rfl, M'⟩
    have M9 := M.joinRow M'
    obtain ⟨g, cap4, rfl, _, _, hr4⟩ := own_rds (M9.row 0 rfl) hpos
    clear M; (try clear C)
    have M := M9
    clear M9 M'
    have HR := Hid2.mk hr4
    clear hr4
    go_wp2_with (first | (go_at_call 32; ((with_reducible refine (HU.out _ M.below _ _ HR.out).mono ?_); rintro e w1 ⟨rfl, hb⟩; have hsz := M.size; (try (have G9 := G.later hb; clear G; have G := G9; clear G9)); have M9 := M.later hb; clear M; (try clear C); have M := M9; clear M9; have C := M.ruleAll; simp only [Go.Proofs.YtpmemoabkbmljaaDoor.ruleAll] at C)))
    go_ret2
    exact ⟨rfl, M.below⟩
  · have hres : iuRes n t k = (false, lwCode n t k) := if_neg h0
    rw [hres]
    generalize lwCode n t k = c at *
    have hc : (c == 0) = false := by simpa using h0
    have hc1 : (c != 0) = true := by rw [bne, hc]; rfl
    clear hby hres hg
    go_enter Tryd.func16, Tryd.ntmps16
    go_wp2_with (first | ((with_reducible apply wpM_box' M 31 (sqs n t)); rfl; exact ⟨rfl, rfl⟩; clear M; (try clear C); intro bq w9 h_bq M; have C := M.ruleAll; simp only [Go.Proofs.YtpmemoabkbmljaaDoor.ruleAll] at C) | ((with_reducible apply wpM_lda' M 0 31 0 (sqs n t)); rfl; rfl; rfl; exact ⟨rfl, inf_sqs.trans (congrArg some (sqs_size ..).symm), _, und_sqs, rfl⟩; exact whole_of rfl) | (go_at_call 28; ((with_reducible refine (HC _).mono ?_); rintro e w1 ⟨rfl, hb⟩; have hsz := M.size; (try (have G9 := G.later hb; clear G; have G := G9; clear G9)); have M9 := M.later hb; clear M; (try clear C); have M := M9; clear M9; have C := M.ruleAll; simp only [Go.Proofs.YtpmemoabkbmljaaDoor.ruleAll] at C)))
    go_ret2
    exact ⟨rfl, M.below⟩

set_option maxRecDepth 100000 in
set_option maxHeartbeats 4000000 in
theorem lawIsUniversal_any (n : Int) (t : Nat → Nat → Nat) (hby : Byt2 t) (k : Int) (w : World) (hg : glb w) :
    Calls Tryd.prog 5 #[.agg (sqs n t), .int .i64 k] w fun e w' => e = .returned (.bool true) ∧ Below w.heap.size w w' := by
  have M := Mm.start no w
  have HSP := Hid2.mk (fun w1 => specIsUniversal_any n t hby k w1)
  have HIM := Hid2.mk (fun w1 (hb : Below w.heap.size w w1) => implIsUniversal_any n t hby k w1 (hg.later hb))
  have HTQ := Hid2.mk (fun w1 => toSquare_any n t w1)
  clear hg hby
  generalize (iuRes n t k).1 = r at HSP HIM
  generalize (iuRes n t k).2 = code at HSP HIM
  have hcc : (code == code) = true := by simp
  have hcn : (code != code) = false := by simp
  have hrc : (r == r) = true := by simp
  have hrn : (r != r) = false := by simp
  go_enter Tryd.func5, Tryd.ntmps5
  go_wp2_with (first | ((with_reducible apply wpM_box' M 25 (sqs n t)); rfl; exact ⟨rfl, rfl⟩; clear M; (try clear C); intro bq w9 h_bq M; have C := M.ruleAll; simp only [Go.Proofs.YtpmemoabkbmljaaDoor.ruleAll] at C) | ((with_reducible apply wpM_lda' M 0 25 0 (sqs n t)); rfl; rfl; rfl; exact ⟨rfl, inf_sq0.trans (congrArg some (sqs_size ..).symm), _, und_sq0, rfl⟩; exact whole_of rfl) | (go_at_call 8; ((with_reducible refine (HTQ.out _).mono ?_); rintro e w1 ⟨rfl, hb⟩; have hsz := M.size; (try (have G9 := G.later hb; clear G; have G := G9; clear G9)); have M9 := M.later hb; clear M; (try clear C); have M := M9; clear M9; have C := M.ruleAll; simp only [Go.Proofs.YtpmemoabkbmljaaDoor.ruleAll] at C)) | (go_at_call 15; ((with_reducible refine (HSP.out _).mono ?_); rintro e w1 ⟨rfl, hb⟩; have hsz := M.size; (try (have G9 := G.later hb; clear G; have G := G9; clear G9)); have M9 := M.later hb; clear M; (try clear C); have M := M9; clear M9; have C := M.ruleAll; simp only [Go.Proofs.YtpmemoabkbmljaaDoor.ruleAll] at C)) | (go_at_call 16; ((with_reducible refine (HIM.out _ M.below).mono ?_); rintro e w1 ⟨rfl, hb⟩; have hsz := M.size; (try (have G9 := G.later hb; clear G; have G := G9; clear G9)); have M9 := M.later hb; clear M; (try clear C); have M := M9; clear M9; have C := M.ruleAll; simp only [Go.Proofs.YtpmemoabkbmljaaDoor.ruleAll] at C)))
  go_ret
  exact ⟨rfl, M.below⟩

end Go.Proofs.YtpmemoabkbmljaaDoor

/- The universal laws, on both sides; the law UniversalLaws: its walk. -/
namespace Go.Proofs.YtpmemoabkbmljaaDoor
set_option linter.unusedSimpArgs false
set_option linter.unusedVariables false
open Go Go.RowKit

set_option maxRecDepth 100000 in
set_option maxHeartbeats 2000000 in
theorem ulFn_any (n : Nat) (t : Nat → Nat → Nat) (hs : IsSq (n : Int) t) (k : Nat) (hk : k < 20) (w : World) (hg : glb w) (B bl : Nat) (pp : Option Addr) (cap : Nat)
    (M0 : Mm no w w [.box bl #[.slice pp (ioL n t (n * n)).length cap] 55, .row B (.slice pp (ioL n t (n * n)).length cap) (ioL n t (n * n)).length (slC (ioL n t (n * n))) 31 101]) :
    Calls Tryd.prog 34 #[.int .i64 (k : Int), .pointer (some ⟨bl, 0, none⟩)] w fun e w' => e = .returned (.bool (uniB n t k)) ∧ Below w.heap.size w w' := by
  have M := M0
  have hpos : 0 < (ioL n t (n * n)).length * 101 := by
    rw [ioL_len]
    have h1 : 1 ≤ n := by have := hs.lo; omega
    have : 1 * 1 ≤ n * n := Nat.mul_le_mul h1 h1
    omega
  obtain ⟨g, cap4, hv4, _, _, hr4⟩ := own_rds (M.row 1 rfl) hpos
  obtain ⟨rfl, rfl⟩ : pp = some ⟨g, 0, none⟩ ∧ cap = cap4 := by simpa using hv4
  have HU := Hid2.mk (universal_any n t hs k hk w hg g cap hr4)
  generalize uniB n t k = r at HU ⊢
  generalize ioL n t (n * n) = L at *
  clear M0 hv4 hr4 hpos hs hk hg
  have C := M.ruleAll; simp only [Go.Proofs.YtpmemoabkbmljaaDoor.ruleAll] at C
  go_enter Tryd.func34, Tryd.ntmps34
  go_wp2_with (first | (go_at_call 32; ((with_reducible refine (HU.out).mono ?_); rintro e w1 ⟨rfl, hb⟩; have hsz := M.size; (try (have G9 := G.later hb; clear G; have G := G9; clear G9)); have M9 := M.later hb; clear M; (try clear C); have M := M9; clear M9; have C := M.ruleAll; simp only [Go.Proofs.YtpmemoabkbmljaaDoor.ruleAll] at C)))
  go_ret
  exact ⟨rfl, M.below⟩

set_option maxRecDepth 100000 in
set_option maxHeartbeats 2000000 in
theorem implUniversalLaws_any (n : Int) (t : Nat → Nat → Nat) (hby : Byt2 t) (w : World) (hg : glb w) : Calls Tryd.prog 18 #[.agg (sqs n t)] w (FaPost (ulRes n t).1 (ulRes n t).2 w) := by
  have M := Mm.start no w
  have H1 := fun w1 => isLoop_any n t w1 hby
  cases hl : isLp n t with
  | false =>
    have hres : ulRes n t = ([], 1) := if_neg (by rw [hl]; exact Bool.false_ne_true)
    rw [hres]
    rw [hl] at H1
    clear hby hl hres hg
    go_enter Tryd.func18, Tryd.ntmps18
    go_wp2_with (first | ((with_reducible apply wpM_box' M 31 (sqs n t)); rfl; exact ⟨rfl, rfl⟩; clear M; (try clear C); intro bq w9 h_bq M; have C := M.ruleAll; simp only [Go.Proofs.YtpmemoabkbmljaaDoor.ruleAll] at C) | ((with_reducible apply wpM_lda' M 0 31 0 (sqs n t)); rfl; rfl; rfl; exact ⟨rfl, inf_sqs.trans (congrArg some (sqs_size ..).symm), _, und_sqs, rfl⟩; exact whole_of rfl) | (go_at_call 22; ((with_reducible refine (H1 _).mono ?_); rintro e w1 ⟨rfl, hb⟩; have hsz := M.size; (try (have G9 := G.later hb; clear G; have G := G9; clear G9)); have M9 := M.later hb; clear M; (try clear C); have M := M9; clear M9; have C := M.ruleAll; simp only [Go.Proofs.YtpmemoabkbmljaaDoor.ruleAll] at C)))
    go_ret2
    exact FaPost.nil2 M.below 1
  | true =>
    obtain ⟨N, rfl, hs⟩ := lp_nat hl
    have hres : ulRes N t = (selTo (uniB N t) 20, 0) := if_pos hl
    rw [hres]
    rw [hl] at H1
    have hz := zero_slW
    have HIS := Hid2.mk (fun w1 => isotopes_any N t hs w1)
    have H2 := Hid2.mk (fun w1 (hb : Below w.heap.size w w1) B bl pp cap M1 => lawsThat_any (uniB N t) 34 #[] #[.pointer (some ⟨bl, 0, none⟩)] w1 (enters_of (P := Tryd.prog) (f := 34) (by exact Tryd.func34) (by kernel_rfl) rfl) (fun k hk w2 hb2 => ulFn_any N t hs k hk w2 ((hg.later hb).later hb2) B bl pp cap (Mm.anew (Mm.later (D := no) (w0 := w1) M1 hb2))))
    generalize selTo (uniB N t) 20 = out at H2 ⊢
    generalize ioL N t (N * N) = L at *
    clear hby hl hres hs hg
    go_enter Tryd.func18, Tryd.ntmps18
    go_wp2_with (first | ((with_reducible apply wpM_box' M 31 (sqs (N : Int) t)); rfl; exact ⟨rfl, rfl⟩; clear M; (try clear C); intro bq w9 h_bq M; have C := M.ruleAll; simp only [Go.Proofs.YtpmemoabkbmljaaDoor.ruleAll] at C) | ((with_reducible apply wpM_lda' M 0 31 0 (sqs (N : Int) t)); rfl; rfl; rfl; exact ⟨rfl, inf_sqs.trans (congrArg some (sqs_size ..).symm), _, und_sqs, rfl⟩; exact whole_of rfl) | (go_at_call 22; ((with_reducible refine (H1 _).mono ?_); rintro e w1 ⟨rfl, hb⟩; have hsz := M.size; (try (have G9 := G.later hb; clear G; have G := G9; clear G9)); have M9 := M.later hb; clear M; (try clear C); have M := M9; clear M9; have C := M.ruleAll; simp only [Go.Proofs.YtpmemoabkbmljaaDoor.ruleAll] at C)) | (go_at_call 33; fail))
    refine (HIS.out _).mono ?_
    rintro e w2 ⟨v, rfl, M'⟩
    have M9 := M.joinRow M'
    obtain ⟨pp, cc, rfl⟩ := own_form (M9.row 0 rfl)
    clear M; (try clear C)
    have M := M9
    clear M9 M'
    have C := M.ruleAll; simp only [Go.Proofs.YtpmemoabkbmljaaDoor.ruleAll] at C
    go_wp2_with (first | ((with_reducible apply wpM_alloc' M 55 (#[.slice none 0 0])); rfl; exact ⟨rfl, _, zero_slW _, rfl⟩; clear M; (try clear C); intro bl w9 h_bl M; have C := M.ruleAll; simp only [Go.Proofs.YtpmemoabkbmljaaDoor.ruleAll] at C) | ((with_reducible apply wpM_st' M 0 55 (0) (#[.slice pp L.length cc])); rfl; rfl; rfl; (first | exact .inl (by assumption) | exact .inr rfl | exact .inr (by assumption)); exact ⟨rfl, rfl, by kernel_rfl⟩; exact Nat.zero_lt_one; exact rfl; clear M; (try clear C); intro w9 M; simp only [List.set_cons_zero, List.set_cons_succ, entBlk, entT, List.getElem?_cons_zero, List.getElem?_cons_succ] at M; have C := M.ruleAll; simp only [Go.Proofs.YtpmemoabkbmljaaDoor.ruleAll] at C) | (go_at_call 23; fail))
    refine (H2.out _ M.below w.heap.size bl pp cc (M.sub [0, 1] (by decide)).anew).mono ?_
    rintro e w3 ⟨v, rfl, M'⟩
    have M9 := M.joinRow M'
    obtain ⟨p3, c3, rfl⟩ := own_form (M9.row 0 rfl)
    clear M; (try clear C)
    have M := M9
    clear M9 M'
    go_wp2
    go_ret2
    exact ⟨_, rfl, M.sub [0] (by decide)⟩

set_option maxRecDepth 100000 in
set_option maxHeartbeats 4000000 in
theorem specUniversalLaws_any (n : Int) (t : Nat → Nat → Nat) (hby : Byt2 t) (w : World) : Calls Tryd.prog 17 #[.agg (sqs n t)] w (FaPost (ulRes n t).1 (ulRes n t).2 w) := by
  have M := Mm.start no w
  have H1 := fun w1 => l01Loop_any n t w1 hby
  cases hl : isLp n t with
  | false =>
    have hres : ulRes n t = ([], 1) := if_neg (by rw [hl]; exact Bool.false_ne_true)
    rw [hres]
    rw [hl] at H1
    clear hby hl hres
    go_enter Tryd.func17, Tryd.ntmps17
    go_wp2_with (first | ((with_reducible apply wpM_box' M 31 (sqs n t)); rfl; exact ⟨rfl, rfl⟩; clear M; (try clear C); intro bq w9 h_bq M; have C := M.ruleAll; simp only [Go.Proofs.YtpmemoabkbmljaaDoor.ruleAll] at C) | ((with_reducible apply wpM_lda' M 0 31 0 (sqs n t)); rfl; rfl; rfl; exact ⟨rfl, inf_sqs.trans (congrArg some (sqs_size ..).symm), _, und_sqs, rfl⟩; exact whole_of rfl) | (go_at_call 19; ((with_reducible refine (H1 _).mono ?_); rintro e w1 ⟨rfl, hb⟩; have hsz := M.size; (try (have G9 := G.later hb; clear G; have G := G9; clear G9)); have M9 := M.later hb; clear M; (try clear C); have M := M9; clear M9; have C := M.ruleAll; simp only [Go.Proofs.YtpmemoabkbmljaaDoor.ruleAll] at C)))
    go_ret2
    exact FaPost.nil2 M.below 1
  | true =>
    obtain ⟨N, rfl, hs⟩ := lp_nat hl
    have hres : ulRes N t = (selTo (uniB N t) 20, 0) := if_pos hl
    rw [hres]
    rw [hl] at H1
    have HF := Hid2.mk (fun k (hk : k < 20) w1 => l07Universal_any N t hs k hk w1)
    generalize hp : uniB N t = p at *
    clear hby hl hres hs hp
    go_enter Tryd.func17, Tryd.ntmps17
    go_wp2_with (first | ((with_reducible apply wpM_box' M 31 (sqs (N : Int) t)); rfl; exact ⟨rfl, rfl⟩; clear M; (try clear C); intro bq w9 h_bq M; have C := M.ruleAll; simp only [Go.Proofs.YtpmemoabkbmljaaDoor.ruleAll] at C) | ((with_reducible apply wpM_lda' M 0 31 0 (sqs (N : Int) t)); rfl; rfl; rfl; exact ⟨rfl, inf_sqs.trans (congrArg some (sqs_size ..).symm), _, und_sqs, rfl⟩; exact whole_of rfl) | (go_at_call 19; ((with_reducible refine (H1 _).mono ?_); rintro e w1 ⟨rfl, hb⟩; have hsz := M.size; (try (have G9 := G.later hb; clear G; have G := G9; clear G9)); have M9 := M.later hb; clear M; (try clear C); have M := M9; clear M9; have C := M.ruleAll; simp only [Go.Proofs.YtpmemoabkbmljaaDoor.ruleAll] at C)) | ((with_reducible apply wpM_bsl' M 26 0 2 ([]) (#[])); rfl; rfl; rfl; exact bsl_i640; clear M; (try clear C); intro bo w9 h_bo M; have C := M.ruleAll; simp only [Go.Proofs.YtpmemoabkbmljaaDoor.ruleAll] at C))
    have M9 := M.asRow 0 rfl w.heap.size 0 1 h_bo rfl (Nat.zero_le _)
    simp only [List.set_cons_zero] at M9
    clear M; (try clear C)
    have M := M9
    clear M9
    have C := M.ruleAll; simp only [Go.Proofs.YtpmemoabkbmljaaDoor.ruleAll] at C
    go_loopw [4, 5] (fun v i wr => ∃ (k : Nat) (v' : Value), k ≤ 20 ∧ i = .int .i64 (k : Int) ∧ v = v' ∧ Mm no w wr [.row w.heap.size v' (selTo p k).length (i64s (selTo p k)) 2 1, .box bq (sqs (N : Int) t) 31]) (fun _ i _ => 20 - (intOf i).toNat)
    case atStart => exact ⟨0, _, by omega, rfl, rfl, M⟩
    case round =>
      obtain ⟨k, v, hk, rfl, rfl, M9⟩ := hrel
      obtain ⟨pp, cc, rfl⟩ := own_form (M9.row 0 rfl)
      clear M; (try clear C)
      have M := M9
      clear M9
      have C := M.ruleAll; simp only [Go.Proofs.YtpmemoabkbmljaaDoor.ruleAll] at C
      by_cases hlt : k < 20
      · have hlt' : (k : Int) < 20 := by omega
        have HF1 := Hid2.mk (HF.out k hlt)
        have hsl := selTo_len p k
        have HNX := Hid2.mk (show selTo p (k + 1) = if p k = true then selTo p k ++ [(k : Int)] else selTo p k from rfl)
        generalize selTo p k = out at *
        generalize p k = b at HF1 HNX
        cases b with
        | false =>
          go_wp2_with (first | ((with_reducible apply wpM_lda' M 1 31 0 (sqs (N : Int) t)); rfl; rfl; rfl; exact ⟨rfl, inf_sqs.trans (congrArg some (sqs_size ..).symm), _, und_sqs, rfl⟩; exact whole_of rfl) | (go_at_call 31; ((with_reducible refine (HF1.out _).mono ?_); rintro e w1 ⟨rfl, hb⟩; have hsz := M.size; (try (have G9 := G.later hb; clear G; have G := G9; clear G9)); have M9 := M.later hb; clear M; (try clear C); have M := M9; clear M9; have C := M.ruleAll; simp only [Go.Proofs.YtpmemoabkbmljaaDoor.ruleAll] at C)))
          go_roundw
          case rel => exact ⟨k + 1, _, by omega, by go_num, rfl, by rw [HNX.out]; exact M⟩
          case measure => simp [intOf]; omega
        | true =>
          go_wp2_with (first | ((with_reducible apply wpM_lda' M 1 31 0 (sqs (N : Int) t)); rfl; rfl; rfl; exact ⟨rfl, inf_sqs.trans (congrArg some (sqs_size ..).symm), _, und_sqs, rfl⟩; exact whole_of rfl) | (go_at_call 31; ((with_reducible refine (HF1.out _).mono ?_); rintro e w1 ⟨rfl, hb⟩; have hsz := M.size; (try (have G9 := G.later hb; clear G; have G := G9; clear G9)); have M9 := M.later hb; clear M; (try clear C); have M := M9; clear M9; have C := M.ruleAll; simp only [Go.Proofs.YtpmemoabkbmljaaDoor.ruleAll] at C)) | ((with_reducible apply wpM_bsl' M 26 1 2 ([(0, .int .i64 (k : Int))]) (#[.int .i64 (k : Int)])); rfl; rfl; rfl; exact bsl_i641 _; clear M; (try clear C); intro bb w9 h_bb M; have C := M.ruleAll; simp only [Go.Proofs.YtpmemoabkbmljaaDoor.ruleAll] at C) | ((with_reducible apply wpM_app' M 26 1 0 (w.heap.size) (.slice pp out.length cc) (out.length) (i64s out) 2 1 8); rfl; rfl; rfl; rfl; rfl; rfl; rfl; (first | exact .inl (Nat.le_refl _) | exact .inl (by assumption) | exact .inr (by assumption) | exact .inr HDv.out); (first | exact M.size | (have hq := M.size; omega)); exact und_sl64; exact inf_el64; rfl; decide; decide; rfl; exact rfl; exact flat_i1 _; omega; clear M; (try clear C); intro v2 w9 far_v2 M; simp only [List.set_cons_zero, List.set_cons_succ, entBlk, entT, List.getElem?_cons_zero, List.getElem?_cons_succ] at M; obtain ⟨pp_v2, cap_v2, rfl⟩ := own_form (M.row 1 rfl); have C := M.ruleAll; simp only [Go.Proofs.YtpmemoabkbmljaaDoor.ruleAll] at C))
          go_roundw
          case rel => exact ⟨k + 1, _, by omega, by go_num, rfl, by rw [HNX.out, if_pos trivial]; exact (M.sub [1, 2] (by decide)).eq (by rw [i64s_app]; simp only [List.length_append, List.length_singleton]; rfl)⟩
          case measure => simp [intOf]; omega
      · obtain rfl : k = 20 := by omega
        go_wp2
        go_ret2
        exact ⟨_, rfl, M.sub [0] (by decide)⟩


set_option maxRecDepth 100000 in
set_option maxHeartbeats 4000000 in
theorem lawUniversalLaws_any (n : Int) (t : Nat → Nat → Nat) (hby : Byt2 t) (w : World) (hg : glb w) :
    Calls Tryd.prog 6 #[.agg (sqs n t)] w fun e w' => e = .returned (.bool true) ∧ Below w.heap.size w w' := by
  have M := Mm.start no w
  have HSP := Hid2.mk (fun w1 => specUniversalLaws_any n t hby w1)
  have HIM := Hid2.mk (fun w1 (hb : Below w.heap.size w w1) => implUniversalLaws_any n t hby w1 (hg.later hb))
  have HTQ := Hid2.mk (fun w1 => toSquare_any n t w1)
  have hol := ul_len n t
  clear hg hby
  generalize (ulRes n t).1 = out at HSP HIM hol
  generalize (ulRes n t).2 = code at HSP HIM
  have HEQ := Hid2.mk (fun w1 a1 a2 d1 d2 => eqInt64S_any out (by omega) w1 a1 a2 d1 d2)
  have HHD := Hid2.mk (fun w1 p c => heldInt64S_any p out.length c 1 (by omega) (by omega) w1)
  have hcc : (code == code) = true := by simp
  have hcn : (code != code) = false := by simp
  have hq0 : ¬ ((1 : Int) + (out.length : Int) < 0) := by omega
  have hqq : ((1 : Int) + (out.length : Int) == 1 + (out.length : Int)) = true := by simp
  have hqn : ((1 : Int) + (out.length : Int) != 1 + (out.length : Int)) = false := by simp
  go_enter Tryd.func6, Tryd.ntmps6
  go_wp2_with (first | ((with_reducible apply wpM_box' M 25 (sqs n t)); rfl; exact ⟨rfl, rfl⟩; clear M; (try clear C); intro bq w9 h_bq M; have C := M.ruleAll; simp only [Go.Proofs.YtpmemoabkbmljaaDoor.ruleAll] at C) | ((with_reducible apply wpM_lda' M 0 25 0 (sqs n t)); rfl; rfl; rfl; exact ⟨rfl, inf_sq0.trans (congrArg some (sqs_size ..).symm), _, und_sq0, rfl⟩; exact whole_of rfl) | (go_at_call 8; ((with_reducible refine (HTQ.out _).mono ?_); rintro e w1 ⟨rfl, hb⟩; have hsz := M.size; (try (have G9 := G.later hb; clear G; have G := G9; clear G9)); have M9 := M.later hb; clear M; (try clear C); have M := M9; clear M9; have C := M.ruleAll; simp only [Go.Proofs.YtpmemoabkbmljaaDoor.ruleAll] at C)) | (go_at_call 17; fail))
  refine (HSP.out _).mono ?_
  rintro e w1 ⟨vw, rfl, M'⟩
  have M9 := M.joinRow M'
  obtain ⟨pw, cw, rfl⟩ := own_form (M9.row 0 rfl)
  clear M; (try clear C)
  have M := M9
  clear M9 M'
  have C := M.ruleAll; simp only [Go.Proofs.YtpmemoabkbmljaaDoor.ruleAll] at C
  go_wp2_with (first | ((with_reducible apply wpM_lda' M 1 25 0 (sqs n t)); rfl; rfl; rfl; exact ⟨rfl, inf_sq0.trans (congrArg some (sqs_size ..).symm), _, und_sq0, rfl⟩; exact whole_of rfl) | (go_at_call 8; ((with_reducible refine (HTQ.out _).mono ?_); rintro e w1 ⟨rfl, hb⟩; have hsz := M.size; (try (have G9 := G.later hb; clear G; have G := G9; clear G9)); have M9 := M.later hb; clear M; (try clear C); have M := M9; clear M9; have C := M.ruleAll; simp only [Go.Proofs.YtpmemoabkbmljaaDoor.ruleAll] at C)) | (go_at_call 18; fail))
  refine (HIM.out _ M.below).mono ?_
  rintro e w1 ⟨vg, rfl, M'⟩
  have M9 := M.joinRow M'
  obtain ⟨pg, cg, rfl⟩ := own_form (M9.row 0 rfl)
  clear M; (try clear C)
  have M := M9
  clear M9 M'
  have C := M.ruleAll; simp only [Go.Proofs.YtpmemoabkbmljaaDoor.ruleAll] at C
  go_wp2_with (first | (go_at_call 10; fail))
  refine (HEQ.out _ _ _ _ _ (fa_rdq rfl (M.row 0 rfl)) (fa_rdq rfl (M.row 1 rfl))).mono ?_
  rintro e w1 ⟨rfl, hb⟩
  have M9 := M.later hb
  clear M; (try clear C)
  have M := M9
  clear M9 hb
  have C := M.ruleAll; simp only [Go.Proofs.YtpmemoabkbmljaaDoor.ruleAll] at C
  go_wp2_with (first | (go_at_call 11; fail))
  refine (markInt64S_any w.heap.size _ _ _ 1 (by omega) (by omega) _ (M.row 0 rfl)).mono ?_
  rintro e w1 ⟨rfl, hk, hown⟩
  have M9 := M.rowmark 0 rfl (Nat.le_refl _) hk hown
  simp only [List.set_cons_zero, List.set_cons_succ] at M9
  clear M; (try clear C)
  have M := M9
  clear M9 hk hown
  have C := M.ruleAll; simp only [Go.Proofs.YtpmemoabkbmljaaDoor.ruleAll] at C
  go_wp2_with (first | (go_at_call 12; fail))
  refine (HHD.out _ _ _ (mk_rdq (M.row 0 rfl))).mono ?_
  rintro e w1 ⟨rfl, hb⟩
  have M9 := M.later hb
  clear M; (try clear C)
  have M := M9
  clear M9 hb
  have C := M.ruleAll; simp only [Go.Proofs.YtpmemoabkbmljaaDoor.ruleAll] at C
  go_wp2_with (first | ((with_reducible apply wpM_lda' M 2 25 0 (sqs n t)); rfl; rfl; rfl; exact ⟨rfl, inf_sq0.trans (congrArg some (sqs_size ..).symm), _, und_sq0, rfl⟩; exact whole_of rfl) | (go_at_call 8; ((with_reducible refine (HTQ.out _).mono ?_); rintro e w1 ⟨rfl, hb⟩; have hsz := M.size; (try (have G9 := G.later hb; clear G; have G := G9; clear G9)); have M9 := M.later hb; clear M; (try clear C); have M := M9; clear M9; have C := M.ruleAll; simp only [Go.Proofs.YtpmemoabkbmljaaDoor.ruleAll] at C)) | (go_at_call 18; fail))
  refine (HIM.out _ M.below).mono ?_
  rintro e w1 ⟨vh, rfl, M'⟩
  have M9 := M.joinRow M'
  obtain ⟨ph, ch, rfl⟩ := own_form (M9.row 0 rfl)
  clear M; (try clear C)
  have M := M9
  clear M9 M'
  have C := M.ruleAll; simp only [Go.Proofs.YtpmemoabkbmljaaDoor.ruleAll] at C
  go_wp2_with (first | (go_at_call 10; fail))
  refine (HEQ.out _ _ _ _ _ (fa_rdq rfl (M.row 0 rfl)) (fa_rdq rfl (M.row 2 rfl))).mono ?_
  rintro e w1 ⟨rfl, hb⟩
  have M9 := M.later hb
  clear M; (try clear C)
  have M := M9
  clear M9 hb
  have C := M.ruleAll; simp only [Go.Proofs.YtpmemoabkbmljaaDoor.ruleAll] at C
  go_wp2_with (first | (go_at_call 12; fail))
  refine (HHD.out _ _ _ (mk_rdq (M.row 1 rfl))).mono ?_
  rintro e w1 ⟨rfl, hb⟩
  have M9 := M.later hb
  clear M; (try clear C)
  have M := M9
  clear M9 hb
  have C := M.ruleAll; simp only [Go.Proofs.YtpmemoabkbmljaaDoor.ruleAll] at C
  go_wp2
  go_ret
  exact ⟨rfl, M.below⟩

end Go.Proofs.YtpmemoabkbmljaaDoor

