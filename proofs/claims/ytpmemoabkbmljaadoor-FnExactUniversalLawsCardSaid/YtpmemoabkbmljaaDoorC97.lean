/- Isotopes of the reference, and quotients and tables of the program: contracts. -/
import Derived.Test.YtpmemoabkbmljaaDoorC60
import Derived.Test.YtpmemoabkbmljaaDoorC12
import Derived.Test.YtpmemoabkbmljaaDoorB2
import Derived.Shelf.Abstract
import Derived.Test.YtpmemoabkbmljaaDoorC94
import Derived.Test.YtpmemoabkbmljaaDoorK11
namespace Go.Proofs.YtpmemoabkbmljaaDoor
set_option linter.unusedSimpArgs false
set_option linter.unusedVariables false
open Go Go.RowKit

set_option maxRecDepth 100000 in
set_option maxHeartbeats 2000000 in
theorem l01Moved_any (n : Nat) (t : Nat → Nat → Nat) (f g h : Nat → Nat) (w : World) (h0 : 1 ≤ n) (h1 : n ≤ 10) (hf : ∀ i, i < n → f i < 10) (hg : ∀ i, i < n → g i < 10) (ht : ∀ x y, x < n → y < n → t x y < 10) :
    Calls Tryd.prog 72 #[.agg (sqs (n : Int) t), .agg (bys f), .agg (bys g), .agg (bys h)] w fun e w' => e = .returned (.agg (sqs (n : Int) (isoW n t f g h (n * n)))) ∧ Below w.heap.size w w' := by
  have hz := zero_sqs
  have hbd := build_sqn (n : Int)
  have so := sqs_order (n : Int) t
  have M := Mm.start no w
  have HF := Hid2.mk hf
  have HG := Hid2.mk hg
  have HT := Hid2.mk ht
  clear hf hg ht
  go_enter Tryd.func72, Tryd.ntmps72
  go_wp2_with (first | ((with_reducible apply wpM_box' M 31 (sqs (n : Int) t)); rfl; exact ⟨rfl, rfl⟩; clear M; (try clear C); intro bq w9 h_bq M; have C := M.ruleAll; simp only [Go.Proofs.YtpmemoabkbmljaaDoor.ruleAll] at C) | ((with_reducible apply wpM_box' M 93 (bys f)); rfl; exact ⟨rfl, rfl⟩; clear M; (try clear C); intro ba w9 h_ba M; have C := M.ruleAll; simp only [Go.Proofs.YtpmemoabkbmljaaDoor.ruleAll] at C) | ((with_reducible apply wpM_box' M 93 (bys g)); rfl; exact ⟨rfl, rfl⟩; clear M; (try clear C); intro bb w9 h_bb M; have C := M.ruleAll; simp only [Go.Proofs.YtpmemoabkbmljaaDoor.ruleAll] at C) | ((with_reducible apply wpM_box' M 93 (bys h)); rfl; exact ⟨rfl, rfl⟩; clear M; (try clear C); intro bc w9 h_bc M; have C := M.ruleAll; simp only [Go.Proofs.YtpmemoabkbmljaaDoor.ruleAll] at C) | ((fail_if_success have := h_bo1); ((with_reducible apply wpM_alloc' M 31 (sqs 0 fun _ _ => 0)); rfl; exact ⟨rfl, _, zero_sqs _, rfl⟩; clear M; (try clear C); intro bo1 w9 h_bo1 M; have C := M.ruleAll; simp only [Go.Proofs.YtpmemoabkbmljaaDoor.ruleAll] at C)) | ((with_reducible apply wpM_alloc' M 31 (sqs 0 fun _ _ => 0)); rfl; exact ⟨rfl, _, zero_sqs _, rfl⟩; clear M; (try clear C); intro bo w9 h_bo M; have C := M.ruleAll; simp only [Go.Proofs.YtpmemoabkbmljaaDoor.ruleAll] at C) | (refine wpList_build 31 _ rfl rfl [(0, .int .i64 (n : Int))] rfl _ (build_sqn _ _) ?_) | ((with_reducible apply wpM_sta' M 0 31 (sqs (n : Int) fun _ _ => 0)); rfl; rfl; rfl; rfl; (first | exact .inl (by assumption) | exact .inr rfl | exact .inr (by assumption)); exact ⟨rfl, inf_sqs.trans (congrArg some (sqs_size ..).symm), flat_sqs _ _⟩; (simp only [entCells, List.getElem?_cons_zero, List.getElem?_cons_succ, sqs_size, sqs_size]); clear M; (try clear C); intro w9 M; simp only [List.set_cons_zero, List.set_cons_succ, entBlk, entT, List.getElem?_cons_zero, List.getElem?_cons_succ] at M; have C := M.ruleAll; simp only [Go.Proofs.YtpmemoabkbmljaaDoor.ruleAll] at C))
  clear hz hbd
  go_loopw [10, 11] (fun i _ wr => ∃ k : Nat, k ≤ n ∧ i = .int .i64 (k : Int) ∧ Mm no w wr [.box bo (sqs (n : Int) (isoW n t f g h (k * n))) 31, .box bo1 (sqs 0 fun _ _ => 0) 31, .box bc (bys h) 93, .box bb (bys g) 93, .box ba (bys f) 93, .box bq (sqs (n : Int) t) 31]) (fun i _ _ => n - (intOf i).toNat)
  case atStart => exact ⟨0, by omega, rfl, M.eq (by rw [Nat.zero_mul]; rfl)⟩
  case round =>
    obtain ⟨k, hk, rfl, M9⟩ := hrel
    clear M; (try clear C)
    have M := M9
    clear M9
    have C := M.ruleAll; simp only [Go.Proofs.YtpmemoabkbmljaaDoor.ruleAll] at C
    by_cases hlt : k < n
    · have hlt' : (k : Int) < (n : Int) := by omega
      have hfk := HF.out k hlt
      go_wp2
      obtain ⟨wo, rfl⟩ : ∃ wo : World, wo = wr := ⟨_, rfl⟩
      go_loopw [11] (fun i wr => ∃ l : Nat, l ≤ n ∧ i = .int .i64 (l : Int) ∧ Mm no w wr [.box bo (sqs (n : Int) (isoW n t f g h (k * n + l))) 31, .box bo1 (sqs 0 fun _ _ => 0) 31, .box bc (bys h) 93, .box bb (bys g) 93, .box ba (bys f) 93, .box bq (sqs (n : Int) t) 31]) (fun i _ => n - (intOf i).toNat)
      case atStart => exact ⟨0, by omega, rfl, M⟩
      case round =>
        obtain ⟨l, hl, rfl, M9⟩ := hrel
        clear M; (try clear C)
        have M := M9
        clear M9
        have C := M.ruleAll; simp only [Go.Proofs.YtpmemoabkbmljaaDoor.ruleAll] at C
        by_cases hlt2 : l < n
        · have hlt2' : (l : Int) < (n : Int) := by omega
          have hgl := HG.out l hlt2
          have htk := HT.out k l hlt hlt2
          have q1 := sqs_get (n := (n : Int)) (t := t) (x := k) (y := l) (by omega) (by omega)
          have q2 := bys_get (f := f) (i := k) (by omega)
          have q3 := bys_get (f := g) (i := l) (by omega)
          have q4 := bys_get (f := h) (i := t k l) htk
          have HS := Hid2.mk (isoW_set (N := n) (t := t) (f := f) (g := g) (h := h) (n := (n : Int)) (k := k) (l := l) hlt2 hfk hgl)
          go_wp2
          apply wp_region_mm M 17 (by kernel_rfl) (by kernel_rfl); (simp only [List.take_succ_cons, List.take_zero]; repeat (first | exact wpText_nil | (apply wpText_cons; (intro w2 M; have C := M.ruleAll; simp only [Go.Proofs.YtpmemoabkbmljaaDoor.ruleAll] at C; go_wp2; exact ⟨rfl, rfl, M⟩); rfl))); (clear M; (try clear C); intro w2 M; simp only [List.drop_succ_cons, List.drop_zero]; have C := M.ruleAll; simp only [Go.Proofs.YtpmemoabkbmljaaDoor.ruleAll] at C)
          go_wp2_with (first | ((with_reducible apply wpM_st' M 0 5 (1 + f k * 10 + g l) (sqs (n : Int) (isoW n t f g h (k * n + (l + 1))))); rfl; rfl; rfl; (first | exact .inl (by assumption) | exact .inr rfl | exact .inr (by assumption)); exact ⟨rfl, rfl, by kernel_rfl⟩; (exact Nat.lt_of_lt_of_eq (by omega) (sqs_size _ _).symm); exact HS.out; clear M; (try clear C); intro w9 M; simp only [List.set_cons_zero, List.set_cons_succ, entBlk, entT, List.getElem?_cons_zero, List.getElem?_cons_succ] at M; have C := M.ruleAll; simp only [Go.Proofs.YtpmemoabkbmljaaDoor.ruleAll] at C))
          go_roundw
          case rel => exact ⟨l + 1, by omega, by go_num, M⟩
          case measure => simp [intOf]; omega
        · obtain rfl : l = n := by omega
          go_wp2
          go_roundw
          case rel => exact ⟨k + 1, by omega, by go_num, M.eq (by rw [Nat.add_mul, Nat.one_mul])⟩
          case measure => simp [intOf]; omega
    · obtain rfl : k = n := by omega
      go_wp2_with (first | ((with_reducible apply wpM_lda' M 0 31 0 (sqs (k : Int) (isoW k t f g h (k * k)))); rfl; rfl; rfl; exact ⟨rfl, inf_sqs.trans (congrArg some (sqs_size ..).symm), _, und_sqs, rfl⟩; exact whole_of rfl) | ((with_reducible apply wpM_sta' M 1 31 (sqs (k : Int) (isoW k t f g h (k * k)))); rfl; rfl; rfl; rfl; (first | exact .inl (by assumption) | exact .inr rfl | exact .inr (by assumption)); exact ⟨rfl, inf_sqs.trans (congrArg some (sqs_size ..).symm), flat_sqs _ _⟩; (simp only [entCells, List.getElem?_cons_zero, List.getElem?_cons_succ, sqs_size, sqs_size]); clear M; (try clear C); intro w9 M; simp only [List.set_cons_zero, List.set_cons_succ, entBlk, entT, List.getElem?_cons_zero, List.getElem?_cons_succ] at M; have C := M.ruleAll; simp only [Go.Proofs.YtpmemoabkbmljaaDoor.ruleAll] at C))
      refine bodyPost_ret (v := .agg (sqs (k : Int) (isoW k t f g h (k * k)))) (by exact results_part rfl _ _ _ _ _ _ rfl und_sqs rfl inf_sqs (cells_of_blk0 (M.box 1 rfl))) rfl ?_
      exact ⟨rfl, M.below⟩

set_option maxRecDepth 100000 in
set_option maxHeartbeats 1000000 in
theorem left_any (n : Int) (t : Nat → Nat → Nat) (hs : IsSq n t) (x z : Nat) (hx : (x : Int) < n) (hz : (z : Int) < n) (w : World) :
    Calls Tryd.prog 77 #[.agg (sqs n t), .int .u8 (x : Int), .int .u8 (z : Int)] w fun e w' => e = .returned (.int .u8 (lq t x z : Nat)) ∧ Below w.heap.size w w' := by
  have M := Mm.start no w
  have hn := hs.hi
  obtain ⟨h1, h2, h3⟩ := lq_lt hs hx hz
  have hx10 : x < 10 := by omega
  have hx' : (x : Int) < 10 := by omega
  have H3 := Hid2.mk h3
  have H2 := Hid2.mk h2
  generalize hV : lq t x z = l at h1 H2 H3
  clear h2 h3 hV
  go_enter Tryd.func77, Tryd.ntmps77
  go_wp2_with (first | ((with_reducible apply wpM_box' M 31 (sqs n t)); rfl; exact ⟨rfl, rfl⟩; clear M; (try clear C); intro bq w9 h_bq M; have C := M.ruleAll; simp only [Go.Proofs.YtpmemoabkbmljaaDoor.ruleAll] at C))
  go_loopw [7] (fun i wr => ∃ y : Nat, y ≤ l ∧ i = .int .u8 (y : Int) ∧ Mm no w wr [.box bq (sqs n t) 31]) (fun i _ => l - (intOf i).toNat)
  case atStart => exact ⟨0, by omega, rfl, M⟩
  case round =>
    obtain ⟨y, hy, rfl, M9⟩ := hrel
    clear M; (try clear C)
    have M := M9
    clear M9
    have hy10 : y < 10 := by omega
    have hy' : (y : Int) < 10 := by omega
    have hc := (M.box 0 rfl).cell _ _ (sqs_get (n := n) (t := t) hx10 hy10)
    by_cases e : y = l
    · subst e
      have hd : ((t x y : Int) == (z : Int)) = true := by rw [H2.out]; simp
      have hd2 : ((t x y : Int) != (z : Int)) = false := by rw [bne, hd]; rfl
      generalize t x y = v at hc hd hd2
      go_wp2
      go_ret
      exact ⟨rfl, M.below⟩
    · have hd : ((t x y : Int) == (z : Int)) = false := neI (H3.out y (by omega))
      have hd2 : ((t x y : Int) != (z : Int)) = true := by rw [bne, hd]; rfl
      generalize t x y = v at hc hd hd2
      go_wp2
      go_roundw
      case rel => exact ⟨y + 1, by omega, by go_num, M⟩
      case measure => simp [intOf]; omega

set_option maxRecDepth 100000 in
set_option maxHeartbeats 1000000 in
theorem right_any (n : Int) (t : Nat → Nat → Nat) (hs : IsSq n t) (z y : Nat) (hz : (z : Int) < n) (hy : (y : Int) < n) (w : World) :
    Calls Tryd.prog 76 #[.agg (sqs n t), .int .u8 (z : Int), .int .u8 (y : Int)] w fun e w' => e = .returned (.int .u8 (lq (fun x y => t y x) y z : Nat)) ∧ Below w.heap.size w w' := by
  have M := Mm.start no w
  have hn := hs.hi
  obtain ⟨h1, h2, h3⟩ := lq_lt hs.turn hy hz
  have hy10 : y < 10 := by omega
  have hy' : (y : Int) < 10 := by omega
  have H3 := Hid2.mk h3
  have H2 := Hid2.mk h2
  generalize hV : lq (fun x y => t y x) y z = l at h1 H2 H3
  clear h2 h3 hV
  go_enter Tryd.func76, Tryd.ntmps76
  go_wp2_with (first | ((with_reducible apply wpM_box' M 31 (sqs n t)); rfl; exact ⟨rfl, rfl⟩; clear M; (try clear C); intro bq w9 h_bq M; have C := M.ruleAll; simp only [Go.Proofs.YtpmemoabkbmljaaDoor.ruleAll] at C))
  go_loopw [7] (fun i wr => ∃ x : Nat, x ≤ l ∧ i = .int .u8 (x : Int) ∧ Mm no w wr [.box bq (sqs n t) 31]) (fun i _ => l - (intOf i).toNat)
  case atStart => exact ⟨0, by omega, rfl, M⟩
  case round =>
    obtain ⟨x, hx, rfl, M9⟩ := hrel
    clear M; (try clear C)
    have M := M9
    clear M9
    have hx10 : x < 10 := by omega
    have hx' : (x : Int) < 10 := by omega
    have hc := (M.box 0 rfl).cell _ _ (sqs_get (n := n) (t := t) hx10 hy10)
    by_cases e : x = l
    · subst e
      have hd : ((t x y : Int) == (z : Int)) = true := by rw [show t x y = z from H2.out]; simp
      have hd2 : ((t x y : Int) != (z : Int)) = false := by rw [bne, hd]; rfl
      generalize t x y = v at hc hd hd2
      go_wp2
      go_ret
      exact ⟨rfl, M.below⟩
    · have hd : ((t x y : Int) == (z : Int)) = false := neI (H3.out x (by omega))
      have hd2 : ((t x y : Int) != (z : Int)) = true := by rw [bne, hd]; rfl
      generalize t x y = v at hc hd hd2
      go_wp2
      go_roundw
      case rel => exact ⟨x + 1, by omega, by go_num, M⟩
      case measure => simp [intOf]; omega
end Go.Proofs.YtpmemoabkbmljaaDoor

/- Isotopes of squares, in plain Lean. -/
namespace Go.Proofs.YtpmemoabkbmljaaDoor
set_option linter.unusedSimpArgs false
set_option linter.unusedVariables false

/-- The table that products make. -/
def mdT (n : Nat) (T : Nat → Nat → Nat) : Nat → Nat → Nat := isoW n T (fun x => x) (fun x => x) (fun x => x) (n * n)
/-- The isotope for two elements, ahead of the exchange. -/
noncomputable def isT (t : Nat → Nat → Nat) (a b : Nat) : Nat → Nat → Nat := fun x y => t (lq (fun x y => t y x) b x) (lq t a y)
/-- The isotope for two elements. -/
noncomputable def isoT (n : Nat) (t : Nat → Nat → Nat) (a b : Nat) : Nat → Nat → Nat := isoW n (mdT n (isT t a b)) (xch n (t a b)) (xch n (t a b)) (xch n (t a b)) (n * n)
theorem pm_id (n : Nat) : Pm n fun x => x := ⟨fun _ h => h, fun _ _ _ _ h => h⟩
theorem mdT_at {n : Nat} {T : Nat → Nat → Nat} {x y : Nat} (hx : x < n) (hy : y < n) : mdT n T x y = T x y := isoW_all (pm_id n) (pm_id n) hx hy
theorem isT_lat {n : Nat} {t : Nat → Nat → Nat} (hs : IsSq (n : Int) t) {a b : Nat} (ha : a < n) (hb : b < n) : Lat n (isT t a b) where
  lt x y hx hy := by
    have l1 := (lq_lt hs.turn (x := b) (z := x) (by omega) (by omega)).1
    have l2 := (lq_lt hs (x := a) (z := y) (by omega) (by omega)).1
    exact (Lat.of_sq hs).lt _ _ (by omega) (by omega)
  left x y z hx hy hz e := by
    have l1 := (lq_lt hs.turn (x := b) (z := x) (by omega) (by omega)).1
    have l2 := lq_lt hs (x := a) (z := y) (by omega) (by omega)
    have l3 := lq_lt hs (x := a) (z := z) (by omega) (by omega)
    have := (Lat.of_sq hs).left _ _ _ (by omega) (by omega) (by omega) e
    rw [← l2.2.1, this, l3.2.1]
  right x y z hx hy hz e := by
    have l1 := (lq_lt hs (x := a) (z := x) (by omega) (by omega)).1
    have l2 := lq_lt hs.turn (x := b) (z := y) (by omega) (by omega)
    have l3 := lq_lt hs.turn (x := b) (z := z) (by omega) (by omega)
    have := (Lat.of_sq hs).right _ _ _ (by omega) (by omega) (by omega) e
    rw [← l2.2.1, this, l3.2.1]
theorem isoW_zero {n : Nat} {t : Nat → Nat → Nat} {f g h : Nat → Nat} (hf : ∀ i, i < n → f i < n) (hg : ∀ i, i < n → g i < n) {i j : Nat} (hij : n ≤ i ∨ n ≤ j) : ∀ m, m ≤ n * n → isoW n t f g h m i j = 0
  | 0, _ => rfl
  | m + 1, hm => by
    have hN : 0 < n := by
      rcases Nat.eq_zero_or_pos n with h | h
      · subst h; omega
      · exact h
    have h1 := hf _ (Nat.div_lt_of_lt_mul (show m < n * n by omega))
    have h2 := hg _ (Nat.mod_lt m hN)
    simp only [isoW]
    rw [if_neg (by omega), isoW_zero hf hg hij m (by omega)]
theorem sq_of_lat {n : Nat} {t : Nat → Nat → Nat} (h0 : 1 ≤ n) (h1 : n ≤ 10) (h : Lat n t) (hz : ∀ i j, n ≤ i ∨ n ≤ j → t i j = 0) : IsSq (n : Int) t where
  lo := by omega
  hi := by omega
  rows := ⟨fun x _ hx => ⟨by omega, by omega, fun i _ hi => hz x i (by omega), fun i _ hi => by have := h.lt x i (by omega) (by omega); omega, fun i j _ hj hi e => by
    have := h.left x i j (by omega) (by omega) (by omega) e; omega⟩, fun x y _ _ hx => hz x y (by omega)⟩
  cols := ⟨fun x _ hx => ⟨by omega, by omega, fun i _ hi => hz i x (by omega), fun i _ hi => by have := h.lt i x (by omega) (by omega); omega, fun i j _ hj hi e => by
    have := h.right x i j (by omega) (by omega) (by omega) e; omega⟩, fun x y _ _ hx => hz y x (by omega)⟩
theorem mdT_lat {n : Nat} {T : Nat → Nat → Nat} (h : Lat n T) : Lat n (mdT n T) := lat_isoW h (pm_id n) (pm_id n) (pm_id n)
/-- The isotope of a square is a square. -/
theorem isoT_sq {n : Nat} {t : Nat → Nat → Nat} (hs : IsSq (n : Int) t) {a b : Nat} (ha : a < n) (hb : b < n) : IsSq (n : Int) (isoT n t a b) := by
  have hx := pm_xch ((Lat.of_sq hs).lt a b ha hb)
  exact sq_of_lat (by have := hs.lo; omega) (by have := hs.hi; omega) (lat_isoW (mdT_lat (isT_lat hs ha hb)) hx hx hx) fun i j h => isoW_zero hx.lt hx.lt h _ (Nat.le_refl _)
end Go.Proofs.YtpmemoabkbmljaaDoor

/- Isotopes of the program: contracts. -/
namespace Go.Proofs.YtpmemoabkbmljaaDoor
set_option linter.unusedSimpArgs false
set_option linter.unusedVariables false
open Go Go.RowKit

set_option maxRecDepth 100000 in
set_option maxHeartbeats 2000000 in
theorem made_any (n : Nat) (T : Nat → Nat → Nat) (f : Nat) (fa cp : Array Value) (w : World) (h0 : 1 ≤ n) (h1 : n ≤ 10) (hen : ∀ (args : Array Value) (w : World), (callFunc f args).run Tryd.prog w = .ok (.enter f args) w)
    (hf : ∀ x y, x < n → y < n → ∀ w1, Below w.heap.size w w1 → Calls Tryd.prog f (fa ++ (#[.int .u8 (x : Int), .int .u8 (y : Int)] ++ cp)) w1 fun e w' => e = .returned (.int .u8 (T x y : Nat)) ∧ Below w1.heap.size w1 w') :
    Calls Tryd.prog 74 #[.int .i64 (n : Int), .func (.func f) fa cp] w fun e w' => e = .returned (.agg (sqs (n : Int) (mdT n T))) ∧ Below w.heap.size w w' := by
  have M := Mm.start no w
  have HF := Hid2.mk hf
  have hz := zero_sqs
  have hbd := build_sqn (n : Int)
  have h1' : (1 : Int) ≤ n := by omega
  have h2' : (n : Int) ≤ 10 := by omega
  clear hf
  go_enter Tryd.func74, Tryd.ntmps74
  go_wp2_with (first | ((fail_if_success have := h_bo1); ((with_reducible apply wpM_alloc' M 31 (sqs 0 fun _ _ => 0)); rfl; exact ⟨rfl, _, zero_sqs _, rfl⟩; clear M; (try clear C); intro bo1 w9 h_bo1 M; have C := M.ruleAll; simp only [Go.Proofs.YtpmemoabkbmljaaDoor.ruleAll] at C)) | ((with_reducible apply wpM_alloc' M 31 (sqs 0 fun _ _ => 0)); rfl; exact ⟨rfl, _, zero_sqs _, rfl⟩; clear M; (try clear C); intro bo w9 h_bo M; have C := M.ruleAll; simp only [Go.Proofs.YtpmemoabkbmljaaDoor.ruleAll] at C) | (refine wpList_build 31 _ rfl rfl [(0, .int .i64 (n : Int))] rfl _ (build_sqn _ _) ?_) | ((with_reducible apply wpM_sta' M 0 31 (sqs (n : Int) fun _ _ => 0)); rfl; rfl; rfl; rfl; (first | exact .inl (by assumption) | exact .inr rfl | exact .inr (by assumption)); exact ⟨rfl, inf_sqs.trans (congrArg some (sqs_size ..).symm), flat_sqs _ _⟩; (simp only [entCells, List.getElem?_cons_zero, List.getElem?_cons_succ, sqs_size, sqs_size]); clear M; (try clear C); intro w9 M; simp only [List.set_cons_zero, List.set_cons_succ, entBlk, entT, List.getElem?_cons_zero, List.getElem?_cons_succ] at M; have C := M.ruleAll; simp only [Go.Proofs.YtpmemoabkbmljaaDoor.ruleAll] at C) | ((with_reducible apply wpM_lda' M 0 31 0 (sqs (n : Int) fun _ _ => 0)); rfl; rfl; rfl; exact ⟨rfl, inf_sqs.trans (congrArg some (sqs_size ..).symm), _, und_sqs, rfl⟩; exact whole_of rfl) | (go_at_call 59; ((with_reducible refine (elements_any _ _ _ (by omega) (by omega)).mono ?_); rintro e w1 ⟨g1, cap_g1, rfl, hb, hg, hr⟩; have hsz := M.size; have M9 := M.gain hb (x := .rd g1 n (fun j => .int .u8 (j : Int))) hr (fun b h => by cases h; exact hg); clear M; (try clear C); have M := M9; clear M9; (try simp only [List.set_cons_zero, List.set_cons_succ] at M); have C := M.ruleAll; simp only [Go.Proofs.YtpmemoabkbmljaaDoor.ruleAll] at C; clear hb hg hr)))
  clear hz hbd
  go_loopw [15, 7, 22, 9] (fun i _ _ _ wr => ∃ k : Nat, k ≤ n ∧ i = .int .i64 (k : Int) ∧ Mm no w wr [.rd g1 n (fun j => .int .u8 (j : Int)), .box bo (sqs (n : Int) (isoW n T (fun x => x) (fun x => x) (fun x => x) (k * n))) 31, .box bo1 (sqs 0 fun _ _ => 0) 31]) (fun i _ _ _ _ => n - (intOf i).toNat)
  case atStart => exact ⟨0, by omega, rfl, M.eq (by rw [Nat.zero_mul]; rfl)⟩
  case round =>
    obtain ⟨k, hk, rfl, M9⟩ := hrel
    clear M; (try clear C)
    have M := M9
    clear M9
    have C := M.ruleAll; simp only [Go.Proofs.YtpmemoabkbmljaaDoor.ruleAll] at C
    by_cases hlt : k < n
    · have hlt' : (k : Int) < (n : Int) := by omega
      have hk10 : (k : Int) < 10 := by omega
      have dlt : decide ((k : Int) < (n : Int)) = true := decide_eq_true hlt'
      go_wp2_with (first | ((with_reducible apply wpM_lda' M 1 31 0 (sqs (n : Int) (isoW n T (fun x => x) (fun x => x) (fun x => x) (k * n)))); rfl; rfl; rfl; exact ⟨rfl, inf_sqs.trans (congrArg some (sqs_size ..).symm), _, und_sqs, rfl⟩; exact whole_of rfl) | (go_at_call 59; ((with_reducible refine (elements_any _ _ _ (by omega) (by omega)).mono ?_); rintro e w2 ⟨g2, cap_g2, rfl, hb, hg, hr⟩; have hsz := M.size; have M9 := M.gain hb (x := .rd g2 n (fun j => .int .u8 (j : Int))) hr (fun b h => by cases h; exact hg); clear M; (try clear C); have M := M9; clear M9; (try simp only [List.set_cons_zero, List.set_cons_succ] at M); have C := M.ruleAll; simp only [Go.Proofs.YtpmemoabkbmljaaDoor.ruleAll] at C; clear hb hg hr)))
      clear dlt
      go_loopw [22, 9] (fun i _ wr => ∃ l : Nat, l ≤ n ∧ i = .int .i64 (l : Int) ∧ Mm no w wr [.rd g2 n (fun j => .int .u8 (j : Int)), .rd g1 n (fun j => .int .u8 (j : Int)), .box bo (sqs (n : Int) (isoW n T (fun x => x) (fun x => x) (fun x => x) (k * n + l))) 31, .box bo1 (sqs 0 fun _ _ => 0) 31]) (fun i _ _ => n - (intOf i).toNat)
      case atStart => exact ⟨0, by omega, rfl, M⟩
      case round =>
        obtain ⟨l, hl, rfl, M9⟩ := hrel
        clear M; (try clear C)
        have M := M9
        clear M9
        have C := M.ruleAll; simp only [Go.Proofs.YtpmemoabkbmljaaDoor.ruleAll] at C
        by_cases hlt2 : l < n
        · have hlt2' : (l : Int) < (n : Int) := by omega
          have hl10 : (l : Int) < 10 := by omega
          have dlt : decide ((l : Int) < (n : Int)) = true := decide_eq_true hlt2'
          have HF1 := Hid2.mk (fun w1 hb => HF.out k l hlt hlt2 w1 hb)
          have HS := Hid2.mk (isoW_set (N := n) (t := T) (f := fun x => x) (g := fun x => x) (h := fun x => x) (n := (n : Int)) (k := k) (l := l) hlt2 (show k < 10 by omega) (show l < 10 by omega))
          go_wp2
          clear dlt
          generalize T k l = v at HF1 HS
          apply wp_region_mm M 9 (by kernel_rfl) (by kernel_rfl); (simp only [List.take_succ_cons, List.take_zero]; repeat (first | exact wpText_nil | (apply wpText_cons; (intro w2 M; have C := M.ruleAll; simp only [Go.Proofs.YtpmemoabkbmljaaDoor.ruleAll] at C; go_wp2_with (first | ((with_reducible refine (HF1.out _ M.below).mono ?_); rintro e w1 ⟨rfl, hb⟩; have M9 := M.later hb; clear M; (try clear C); have M := M9; clear M9 hb; have C := M.ruleAll; simp only [Go.Proofs.YtpmemoabkbmljaaDoor.ruleAll] at C)); exact ⟨rfl, rfl, M⟩); rfl))); (clear M; (try clear C); intro w2 M; simp only [List.drop_succ_cons, List.drop_zero]; have C := M.ruleAll; simp only [Go.Proofs.YtpmemoabkbmljaaDoor.ruleAll] at C)
          go_wp2_with (first | ((with_reducible apply wpM_st' M 2 5 (1 + k * 10 + l) (sqs (n : Int) (isoW n T (fun x => x) (fun x => x) (fun x => x) (k * n + (l + 1))))); rfl; rfl; rfl; (first | exact .inl (by assumption) | exact .inr rfl | exact .inr (by assumption)); exact ⟨rfl, rfl, by kernel_rfl⟩; (exact Nat.lt_of_lt_of_eq (by omega) (sqs_size _ _).symm); exact HS.out; clear M; (try clear C); intro w9 M; simp only [List.set_cons_zero, List.set_cons_succ, entBlk, entT, List.getElem?_cons_zero, List.getElem?_cons_succ] at M; have C := M.ruleAll; simp only [Go.Proofs.YtpmemoabkbmljaaDoor.ruleAll] at C))
          go_roundw
          case rel => exact ⟨l + 1, by omega, by go_num, M⟩
          case measure => simp [intOf]; omega
        · obtain rfl : l = n := by omega
          go_wp2
          go_roundw
          case rel => exact ⟨k + 1, by omega, by go_num, (M.sub [1, 2, 3] (by decide)).eq (by rw [Nat.add_mul, Nat.one_mul]; rfl)⟩
          case measure => simp [intOf]; omega
    · obtain rfl : k = n := by omega
      go_wp2_with (first | ((with_reducible apply wpM_lda' M 1 31 0 (sqs (k : Int) (isoW k T (fun x => x) (fun x => x) (fun x => x) (k * k)))); rfl; rfl; rfl; exact ⟨rfl, inf_sqs.trans (congrArg some (sqs_size ..).symm), _, und_sqs, rfl⟩; exact whole_of rfl) | ((with_reducible apply wpM_sta' M 2 31 (sqs (k : Int) (isoW k T (fun x => x) (fun x => x) (fun x => x) (k * k)))); rfl; rfl; rfl; rfl; (first | exact .inl (by assumption) | exact .inr rfl | exact .inr (by assumption)); exact ⟨rfl, inf_sqs.trans (congrArg some (sqs_size ..).symm), flat_sqs _ _⟩; (simp only [entCells, List.getElem?_cons_zero, List.getElem?_cons_succ, sqs_size, sqs_size]); clear M; (try clear C); intro w9 M; simp only [List.set_cons_zero, List.set_cons_succ, entBlk, entT, List.getElem?_cons_zero, List.getElem?_cons_succ] at M; have C := M.ruleAll; simp only [Go.Proofs.YtpmemoabkbmljaaDoor.ruleAll] at C))
      refine bodyPost_ret (v := .agg (sqs (k : Int) (isoW k T (fun x => x) (fun x => x) (fun x => x) (k * k)))) (by exact results_part rfl _ _ _ _ _ _ rfl und_sqs rfl inf_sqs (cells_of_blk0 (M.box 2 rfl))) rfl ?_
      exact ⟨rfl, M.below⟩

/-- What the products of an isotope have: the square and two elements. -/
def isL (n : Nat) (t : Nat → Nat → Nat) (a b bq bb ba : Nat) : List Ent := [.box bb #[.int .u8 (b : Int)] 5, .box ba #[.int .u8 (a : Int)] 5, .box bq (sqs (n : Int) t) 31]

set_option maxRecDepth 100000 in
set_option maxHeartbeats 2000000 in
theorem isoFn_any (n : Nat) (t : Nat → Nat → Nat) (hs : IsSq (n : Int) t) (a b x y bq bb ba : Nat) (ha : a < n) (hb : b < n) (hx : x < n) (hy : y < n) (w : World) (M0 : Mm no w w (isL n t a b bq bb ba)) :
    Calls Tryd.prog 75 #[.int .u8 (x : Int), .int .u8 (y : Int), .pointer (some ⟨bq, 0, none⟩), .pointer (some ⟨bb, 0, none⟩), .pointer (some ⟨ba, 0, none⟩)] w fun e w' => e = .returned (.int .u8 (isT t a b x y : Nat)) ∧ Below w.heap.size w w' := by
  have M : Mm no w w [.box bb #[.int .u8 (b : Int)] 5, .box ba #[.int .u8 (a : Int)] 5, .box bq (sqs (n : Int) t) 31] := M0
  have hn := hs.hi
  have H1 := Hid2.mk (fun w1 => right_any (n : Int) t hs x b (by omega) (by omega) w1)
  have H2 := Hid2.mk (fun w1 => left_any (n : Int) t hs a y (by omega) (by omega) w1)
  have l1 := (lq_lt hs.turn (x := b) (z := x) (by omega) (by omega)).1
  have l2 := (lq_lt hs (x := a) (z := y) (by omega) (by omega)).1
  show Calls _ _ _ _ fun e w' => e = .returned (.int .u8 (t (lq (fun x y => t y x) b x) (lq t a y) : Nat)) ∧ Below w.heap.size w w'
  generalize lq (fun x y => t y x) b x = u at *
  generalize lq t a y = v at *
  have hu : (u : Int) < 10 := by omega
  have hv : (v : Int) < 10 := by omega
  have q1 := sqs_get (n := (n : Int)) (t := t) (x := u) (y := v) (by omega) (by omega)
  generalize t u v = r at q1
  clear M0 l1 l2 hs
  have C := M.ruleAll; simp only [Go.Proofs.YtpmemoabkbmljaaDoor.ruleAll] at C
  go_enter Tryd.func75, Tryd.ntmps75
  go_wp2
  apply wp_region_mm M 12 (by kernel_rfl) (by kernel_rfl); (simp only [List.take_succ_cons, List.take_zero]; repeat (first | exact wpText_nil | (apply wpText_cons; (intro w2 M; have C := M.ruleAll; simp only [Go.Proofs.YtpmemoabkbmljaaDoor.ruleAll] at C; go_wp2_with (first | ((with_reducible apply wpM_lda' M 2 31 0 (sqs (n : Int) t)); rfl; rfl; rfl; exact ⟨rfl, inf_sqs.trans (congrArg some (sqs_size ..).symm), _, und_sqs, rfl⟩; exact whole_of rfl) | (go_at_call 76; ((with_reducible refine (H1.out _).mono ?_); rintro e w1 ⟨rfl, hb⟩; have hsz := M.size; (try (have G9 := G.later hb; clear G; have G := G9; clear G9)); have M9 := M.later hb; clear M; (try clear C); have M := M9; clear M9; have C := M.ruleAll; simp only [Go.Proofs.YtpmemoabkbmljaaDoor.ruleAll] at C)) | (go_at_call 77; ((with_reducible refine (H2.out _).mono ?_); rintro e w1 ⟨rfl, hb⟩; have hsz := M.size; (try (have G9 := G.later hb; clear G; have G := G9; clear G9)); have M9 := M.later hb; clear M; (try clear C); have M := M9; clear M9; have C := M.ruleAll; simp only [Go.Proofs.YtpmemoabkbmljaaDoor.ruleAll] at C))); exact ⟨rfl, rfl, M⟩); rfl))); (clear M; (try clear C); intro w2 M; simp only [List.drop_succ_cons, List.drop_zero]; have C := M.ruleAll; simp only [Go.Proofs.YtpmemoabkbmljaaDoor.ruleAll] at C)
  go_wp2
  go_ret
  exact ⟨rfl, M.below⟩

theorem xchW (n e : Nat) : ((bys (idTo n)).setIfInBounds 0 (.int .u8 (e : Int))).setIfInBounds e (.int .u8 0) = bys (xch n e) := by
  rw [bys_set, show (Value.int .u8 0) = .int .u8 ((0 : Nat) : Int) from rfl, bys_set]
  rfl
theorem xchW2 (n e : Nat) : ((bys (idTo n)).setIfInBounds e (.int .u8 0)).setIfInBounds 0 (.int .u8 (e : Int)) = bys (xch n e) := by
  rw [show (Value.int .u8 0) = .int .u8 ((0 : Nat) : Int) from rfl, bys_set, bys_set]
  congr 1
  funext j
  unfold xch
  by_cases h0 : j = 0
  · subst h0
    by_cases he : 0 = e
    · subst he; rfl
    · simp [he]
  · simp [h0]
theorem xch_lt {n e : Nat} (hn : n ≤ 10) (he : e < n) (i : Nat) : xch n e i < 10 := by
  unfold xch idTo
  split
  · omega
  · split
    · omega
    · split <;> omega

set_option maxRecDepth 100000 in
set_option maxHeartbeats 2000000 in
theorem isotopeFor_any (n : Nat) (t : Nat → Nat → Nat) (hs : IsSq (n : Int) t) (a b : Nat) (ha : a < n) (hb : b < n) (w : World) :
    Calls Tryd.prog 54 #[.agg (sqs (n : Int) t), .int .u8 (a : Int), .int .u8 (b : Int)] w fun e w' => e = .returned (.agg (sqs (n : Int) (isoT n t a b))) ∧ Below w.heap.size w w' := by
  have M := Mm.start no w
  have h0 : 1 ≤ n := by have := hs.lo; omega
  have hn : n ≤ 10 := by have := hs.hi; omega
  have hlt := (Lat.of_sq hs).lt a b ha hb
  have hl := isT_lat hs ha hb
  have h0' : (0 : Int) ≤ n := by omega
  have h1' : (1 : Int) ≤ n := by omega
  have hn' : (n : Int) ≤ 10 := by omega
  have HI := Hid2.mk (fun w1 => identity_any (n : Int) w1 h0' hn')
  have HX := Hid2.mk (fun w1 => isotope_any (n : Int) (mdT n (isT t a b)) (xch n (t a b)) (xch n (t a b)) (xch n (t a b)) w1 h1' hn' (fun i _ => xch_lt hn hlt i) (fun i _ => xch_lt hn hlt i) (fun x y hx hy => by rw [mdT_at (by omega) (by omega)]; have := hl.lt x y (by omega) (by omega); omega))
  have HM := Hid2.mk (fun bq bb ba w1 (M1 : Mm no w1 w1 (isL n t a b bq bb ba)) => made_any n (isT t a b) 75 #[] #[.pointer (some ⟨bq, 0, none⟩), .pointer (some ⟨bb, 0, none⟩), .pointer (some ⟨ba, 0, none⟩)] w1 h0 hn (enters_of (P := Tryd.prog) (f := 75) (by exact Tryd.func75) (by kernel_rfl) rfl) (fun x y hx hy w2 hb2 => isoFn_any n t hs a b x y bq bb ba ha hb hx hy w2 (M1.later hb2).anew))
  rw [show isoT n t a b = isoW n (mdT n (isT t a b)) (xch n (t a b)) (xch n (t a b)) (xch n (t a b)) (n * n) from rfl]
  simp only [Int.toNat_natCast] at HI HX
  have ha10 : (a : Int) < 10 := by omega
  have hb10 : (b : Int) < 10 := by omega
  have q1 := sqs_get (n := (n : Int)) (t := t) (x := a) (y := b) (by omega) (by omega)
  generalize mdT n (isT t a b) = U at *
  have HW := Hid2.mk (xchW n (t a b))
  generalize t a b = u at *
  have hu10 : (u : Int) < 10 := by omega
  have hu10' : u < 10 := by omega
  have hz := zero_sqs
  have hz2 := zero_plc
  have so := sqs_order (n : Int) t
  have q2 := bys_get (f := idTo n) (i := 0) (by omega)
  generalize xch n u = g at *
  generalize isoW n U g g g (n * n) = V at *
  clear hl hs hlt
  go_enter Tryd.func54, Tryd.ntmps54
  go_wp2_with (first | ((with_reducible apply wpM_box' M 31 (sqs (n : Int) t)); rfl; exact ⟨rfl, rfl⟩; clear M; (try clear C); intro bq w9 h_bq M; have C := M.ruleAll; simp only [Go.Proofs.YtpmemoabkbmljaaDoor.ruleAll] at C) | ((fail_if_success have := h_ba); ((with_reducible apply wpM_box' M 5 (#[.int .u8 (a : Int)])); rfl; exact ⟨rfl, rfl⟩; clear M; (try clear C); intro ba w9 h_ba M; have C := M.ruleAll; simp only [Go.Proofs.YtpmemoabkbmljaaDoor.ruleAll] at C)) | ((with_reducible apply wpM_box' M 5 (#[.int .u8 (b : Int)])); rfl; exact ⟨rfl, rfl⟩; clear M; (try clear C); intro bb w9 h_bb M; have C := M.ruleAll; simp only [Go.Proofs.YtpmemoabkbmljaaDoor.ruleAll] at C) | ((with_reducible apply wpM_alloc' M 31 (sqs 0 fun _ _ => 0)); rfl; exact ⟨rfl, _, zero_sqs _, rfl⟩; clear M; (try clear C); intro bo1 w9 h_bo1 M; have C := M.ruleAll; simp only [Go.Proofs.YtpmemoabkbmljaaDoor.ruleAll] at C))
  apply wp_region_mm M 6 (by kernel_rfl) (by kernel_rfl); (simp only [List.take_succ_cons, List.take_zero]; repeat (first | exact wpText_nil | (apply wpText_cons; (intro w2 M; have C := M.ruleAll; simp only [Go.Proofs.YtpmemoabkbmljaaDoor.ruleAll] at C; go_wp2; exact ⟨rfl, rfl, M⟩); rfl))); (clear M; (try clear C); intro w2 M; simp only [List.drop_succ_cons, List.drop_zero]; have C := M.ruleAll; simp only [Go.Proofs.YtpmemoabkbmljaaDoor.ruleAll] at C)
  go_wp2_with (first | (go_at_call 73; ((with_reducible refine (HI.out _).mono ?_); rintro e w1 ⟨rfl, hb⟩; have hsz := M.size; (try (have G9 := G.later hb; clear G; have G := G9; clear G9)); have M9 := M.later hb; clear M; (try clear C); have M := M9; clear M9; have C := M.ruleAll; simp only [Go.Proofs.YtpmemoabkbmljaaDoor.ruleAll] at C)) | ((with_reducible apply wpM_alloc' M 93 (bys fun _ => 0)); rfl; exact ⟨rfl, _, zero_plc _, rfl⟩; clear M; (try clear C); intro be w9 h_be M; have C := M.ruleAll; simp only [Go.Proofs.YtpmemoabkbmljaaDoor.ruleAll] at C) | ((with_reducible apply wpM_sta' M 0 93 (bys (idTo n))); rfl; rfl; rfl; rfl; (first | exact .inl (by assumption) | exact .inr rfl | exact .inr (by assumption)); exact ⟨rfl, inf_plc.trans (congrArg some (bys_size ..).symm), flat_bys _⟩; (simp only [entCells, List.getElem?_cons_zero, List.getElem?_cons_succ, bys_size, bys_size]); clear M; (try clear C); intro w9 M; simp only [List.set_cons_zero, List.set_cons_succ, entBlk, entT, List.getElem?_cons_zero, List.getElem?_cons_succ] at M; have C := M.ruleAll; simp only [Go.Proofs.YtpmemoabkbmljaaDoor.ruleAll] at C) | ((with_reducible apply wpM_st' M 0 5 (0) ((bys (idTo n)).setIfInBounds 0 (.int .u8 (u : Int)))); rfl; rfl; rfl; (first | exact .inl (by assumption) | exact .inr rfl | exact .inr (by assumption)); exact ⟨rfl, rfl, by kernel_rfl⟩; (exact Nat.lt_of_lt_of_eq (by omega) (bys_size _).symm); exact rfl; clear M; (try clear C); intro w9 M; simp only [List.set_cons_zero, List.set_cons_succ, entBlk, entT, List.getElem?_cons_zero, List.getElem?_cons_succ] at M; have C := M.ruleAll; simp only [Go.Proofs.YtpmemoabkbmljaaDoor.ruleAll] at C) | ((with_reducible apply wpM_st' M 0 5 (u) (bys g)); rfl; rfl; rfl; (first | exact .inl (by assumption) | exact .inr rfl | exact .inr (by assumption)); exact ⟨rfl, rfl, by kernel_rfl⟩; (exact Nat.lt_of_lt_of_eq (by omega) ((Array.size_setIfInBounds ..).trans (bys_size _)).symm); exact HW.out; clear M; (try clear C); intro w9 M; simp only [List.set_cons_zero, List.set_cons_succ, entBlk, entT, List.getElem?_cons_zero, List.getElem?_cons_succ] at M; have C := M.ruleAll; simp only [Go.Proofs.YtpmemoabkbmljaaDoor.ruleAll] at C) | (go_at_call 74; ((with_reducible refine (HM.out bq bb ba _ (M.sub [2, 3, 4] (by decide)).anew).mono ?_); rintro e w1 ⟨rfl, hb⟩; have hsz := M.size; (try (have G9 := G.later hb; clear G; have G := G9; clear G9)); have M9 := M.later hb; clear M; (try clear C); have M := M9; clear M9; have C := M.ruleAll; simp only [Go.Proofs.YtpmemoabkbmljaaDoor.ruleAll] at C)) | ((fail_if_success have := h_bo2); ((with_reducible apply wpM_alloc' M 31 (sqs 0 fun _ _ => 0)); rfl; exact ⟨rfl, _, zero_sqs _, rfl⟩; clear M; (try clear C); intro bo2 w9 h_bo2 M; have C := M.ruleAll; simp only [Go.Proofs.YtpmemoabkbmljaaDoor.ruleAll] at C)) | ((with_reducible apply wpM_sta' M 0 31 (sqs (n : Int) U)); rfl; rfl; rfl; rfl; (first | exact .inl (by assumption) | exact .inr rfl | exact .inr (by assumption)); exact ⟨rfl, inf_sqs.trans (congrArg some (sqs_size ..).symm), flat_sqs _ _⟩; (simp only [entCells, List.getElem?_cons_zero, List.getElem?_cons_succ, sqs_size, sqs_size]); clear M; (try clear C); intro w9 M; simp only [List.set_cons_zero, List.set_cons_succ, entBlk, entT, List.getElem?_cons_zero, List.getElem?_cons_succ] at M; have C := M.ruleAll; simp only [Go.Proofs.YtpmemoabkbmljaaDoor.ruleAll] at C) | ((with_reducible apply wpM_lda' M 0 31 0 (sqs (n : Int) U)); rfl; rfl; rfl; exact ⟨rfl, inf_sqs.trans (congrArg some (sqs_size ..).symm), _, und_sqs, rfl⟩; exact whole_of rfl) | ((with_reducible apply wpM_lda' M 1 93 0 (bys g)); rfl; rfl; rfl; exact ⟨rfl, inf_plc.trans (congrArg some (bys_size ..).symm), _, und_plc, rfl⟩; exact whole_of rfl) | (refine wpList_build 101 _ rfl rfl [(0, .agg (bys g)), (1, .agg (bys g)), (2, .agg (bys g))] rfl _ (build_trp _ _ _ _) ?_) | (go_at_call 78; ((with_reducible refine (HX.out _).mono ?_); rintro e w1 ⟨rfl, hb⟩; have hsz := M.size; (try (have G9 := G.later hb; clear G; have G := G9; clear G9)); have M9 := M.later hb; clear M; (try clear C); have M := M9; clear M9; have C := M.ruleAll; simp only [Go.Proofs.YtpmemoabkbmljaaDoor.ruleAll] at C)) | ((with_reducible apply wpM_sta' M 2 31 (sqs (n : Int) V)); rfl; rfl; rfl; rfl; (first | exact .inl (by assumption) | exact .inr rfl | exact .inr (by assumption)); exact ⟨rfl, inf_sqs.trans (congrArg some (sqs_size ..).symm), flat_sqs _ _⟩; (simp only [entCells, List.getElem?_cons_zero, List.getElem?_cons_succ, sqs_size, sqs_size]); clear M; (try clear C); intro w9 M; simp only [List.set_cons_zero, List.set_cons_succ, entBlk, entT, List.getElem?_cons_zero, List.getElem?_cons_succ] at M; have C := M.ruleAll; simp only [Go.Proofs.YtpmemoabkbmljaaDoor.ruleAll] at C))
  refine bodyPost_ret (v := .agg (sqs (n : Int) V)) (by exact results_part rfl _ _ _ _ _ _ rfl und_sqs rfl inf_sqs (cells_of_blk0 (M.box 2 rfl))) rfl ?_
  exact ⟨rfl, M.below⟩
end Go.Proofs.YtpmemoabkbmljaaDoor

/- All isotopes of a loop, in a list: contracts of the program. -/
namespace Go.Proofs.YtpmemoabkbmljaaDoor
set_option linter.unusedSimpArgs false
set_option linter.unusedVariables false
open Go Go.RowKit

theorem sqC_sz (q : Sqr) : (sqC q).size = 101 := sqs_size ..
theorem sqq_cells {w : World} {g : Nat} {l : List Sqr} (h : rds w g (l.length * 101) (fun j => (slC l).getD j undef)) {k : Nat} (hk : k < l.length) : ∀ j v, (sqs l[k].n l[k].t)[j]? = some v → w.cell? ⟨g, k * 101 + j, none⟩ = some v := row_cells sqC_sz h hk
theorem und_slW : Tryd.prog.underlying 55 = some (.slice 31) := by kernel_rfl
theorem inf_elW : (Tryd.prog.info? 31).map (fun i => (i.zero, i.size, i.bytes)) = some (some (.agg (sqs 0 fun _ _ => 0)), 101, 112) := by kernel_rfl
theorem bsl_sq0 (w : World) : (Instr.buildSlice 55 0 [].toArray).run Tryd.prog w = .ok (.slice (some ⟨w.heap.size, 0, none⟩) 0 0) (w.alloc (.cells #[] 31)) := by kernel_rfl
theorem bsl_sq1 (n : Int) (t : Nat → Nat → Nat) (w : World) : (Instr.buildSlice 55 1 [(0, Value.agg (sqs n t))].toArray).run Tryd.prog w = .ok (.slice (some ⟨w.heap.size, 0, none⟩) 1 1) (w.alloc (.cells (sqs n t) 31)) := by kernel_rfl
theorem zero_slW (w : World) : (zeroValue 55).run Tryd.prog w = .ok (.slice none 0 0) w := by kernel_rfl
theorem slC_snoc (l : List Sqr) (q : Sqr) : slC (l ++ [q]) = slC l ++ (sqs q.n q.t).toList := by simp [slC, rowC, sqC]
/-- The isotopes, as far as m. -/
noncomputable def ioL (n : Nat) (t : Nat → Nat → Nat) (m : Nat) : List Sqr := (List.range m).map fun k => ⟨(n : Int), isoT n t (k / n) (k % n)⟩
theorem ioL_len (n : Nat) (t : Nat → Nat → Nat) (m : Nat) : (ioL n t m).length = m := by simp [ioL]
theorem ioL_snoc {n : Nat} (t : Nat → Nat → Nat) {x y : Nat} (hy : y < n) : ioL n t (x * n + (y + 1)) = ioL n t (x * n + y) ++ [⟨(n : Int), isoT n t x y⟩] := by
  have hN : 0 < n := by omega
  unfold ioL
  rw [← Nat.add_assoc, List.range_succ, List.map_append, List.map_singleton]
  have e1 : (x * n + y) / n = x := by rw [Nat.mul_comm, Nat.mul_add_div hN, Nat.div_eq_of_lt hy]; rfl
  have e2 : (x * n + y) % n = y := by rw [Nat.mul_comm, Nat.mul_add_mod]; exact Nat.mod_eq_of_lt hy
  rw [e1, e2]

set_option maxRecDepth 100000 in
set_option maxHeartbeats 2000000 in
theorem isotopesFn_any (n : Nat) (t : Nat → Nat → Nat) (hs : IsSq (n : Int) t) (a b : Nat) (ha : a < n) (hb : b < n) (l : List Sqr) (hl : l.length ≤ 1000) (X : List Ent) (w0 w : World) (bo bq : Nat) (pp : Option Addr) (cap : Nat) (hbo : w0.heap.size ≤ bo)
    (M0 : Mm no w0 w (.box bo #[.slice pp l.length cap] 55 :: .row w0.heap.size (.slice pp l.length cap) l.length (slC l) 31 101 :: .box bq (sqs (n : Int) t) 31 :: X)) :
    Calls Tryd.prog 53 #[.int .u8 (a : Int), .int .u8 (b : Int), .pointer (some ⟨bo, 0, none⟩), .pointer (some ⟨bq, 0, none⟩)] w fun e w' => e = .returned (.bool true) ∧ ∃ pp' cap', Mm no w0 w' (.box bo #[.slice pp' (l ++ [(⟨(n : Int), isoT n t a b⟩ : Sqr)]).length cap'] 55 :: .row w0.heap.size (.slice pp' (l ++ [(⟨(n : Int), isoT n t a b⟩ : Sqr)]).length cap') (l ++ [(⟨(n : Int), isoT n t a b⟩ : Sqr)]).length (slC (l ++ [⟨(n : Int), isoT n t a b⟩])) 31 101 :: .box bq (sqs (n : Int) t) 31 :: X) := by
  have H := Hid2.mk (fun w1 => isotopeFor_any n t hs a b ha hb w1)
  rw [slC_snoc]
  simp only [List.length_append, List.length_singleton]
  generalize isoT n t a b = U at *
  have M := M0
  clear M0 hs
  have C := M.ruleAll; simp only [Go.Proofs.YtpmemoabkbmljaaDoor.ruleAll] at C
  go_enter Tryd.func53, Tryd.ntmps53
  go_wp2
  apply wp_region_mmb M [0, 1, 2, 3, 4] 5 6 _ 55 1 31 ([(0, .agg (sqs (n : Int) U))]) (sqs (n : Int) U) (by kernel_rfl) (by kernel_rfl) rfl rfl rfl; (case ht => repeat (first | exact wpTextG_nil | (apply wpTextG_cons; (intro g9 w2 hG; obtain ⟨Lg9, hSt9, G⟩ := hG; have M := G.suffix; have C := M.ruleAll; simp only [Go.Proofs.YtpmemoabkbmljaaDoor.ruleAll] at C; go_wp2_with (first | ((with_reducible apply wpM_lda' M 2 31 0 (sqs (n : Int) t)); rfl; rfl; rfl; exact ⟨rfl, inf_sqs.trans (congrArg some (sqs_size ..).symm), _, und_sqs, rfl⟩; exact whole_of rfl) | (go_at_call 54; ((with_reducible refine (H.out _).mono ?_); rintro e w1 ⟨rfl, hb⟩; have hsz := M.size; (try (have G9 := G.later hb; clear G; have G := G9; clear G9)); have M9 := M.later hb; clear M; (try clear C); have M := M9; clear M9; have C := M.ruleAll; simp only [Go.Proofs.YtpmemoabkbmljaaDoor.ruleAll] at C))); exact ⟨rfl, rfl, Lg9, hSt9, G⟩); rfl))); rfl; exact bsl_sq1 _ _; (clear M; (try clear C); intro bx w2 h_bx M; simp only [List.drop_succ_cons, List.drop_zero]; have C := M.ruleAll; simp only [Go.Proofs.YtpmemoabkbmljaaDoor.ruleAll] at C)
  go_wp2_with (first | ((with_reducible apply wpM_app' M 55 2 0 (w0.heap.size) (.slice pp l.length cap) (l.length) (slC l) 31 101 112); rfl; rfl; rfl; rfl; rfl; rfl; rfl; (first | exact .inl (Nat.le_refl _) | exact .inl (by assumption) | exact .inr (by assumption) | exact .inr HDv.out); (first | exact M.size | (have hq := M.size; omega)); exact und_slW; exact inf_elW; rfl; decide; decide; rfl; exact sqs_size ..; exact flat_sqs _ _; omega; clear M; (try clear C); intro v2 w9 far_v2 M; simp only [List.set_cons_zero, List.set_cons_succ, entBlk, entT, List.getElem?_cons_zero, List.getElem?_cons_succ] at M; obtain ⟨pp_v2, cap_v2, rfl⟩ := own_form (M.row 2 rfl); have C := M.ruleAll; simp only [Go.Proofs.YtpmemoabkbmljaaDoor.ruleAll] at C) | ((with_reducible apply wpM_st' M 1 55 (0) (#[.slice pp_v2 (l.length + 1) cap_v2])); rfl; rfl; rfl; (first | exact .inl (by assumption) | exact .inr rfl | exact .inr (by assumption)); exact ⟨rfl, rfl, by kernel_rfl⟩; exact Nat.zero_lt_one; exact rfl; clear M; (try clear C); intro w9 M; simp only [List.set_cons_zero, List.set_cons_succ, entBlk, entT, List.getElem?_cons_zero, List.getElem?_cons_succ] at M; have C := M.ruleAll; simp only [Go.Proofs.YtpmemoabkbmljaaDoor.ruleAll] at C))
  go_ret
  exact ⟨rfl, pp_v2, cap_v2, M.drop 0⟩

/-- What the visit holds after m isotopes. -/
def ioE (n : Nat) (t : Nat → Nat → Nat) (B bo bq : Nat) (pp : Option Addr) (cap : Nat) (l : List Sqr) (X : List Ent) : List Ent := .box bo #[.slice pp l.length cap] 55 :: .row B (.slice pp l.length cap) l.length (slC l) 31 101 :: .box bq (sqs (n : Int) t) 31 :: X

set_option maxRecDepth 100000 in
set_option maxHeartbeats 4000000 in
theorem forPairs_any (n : Nat) (t : Nat → Nat → Nat) (hs : IsSq (n : Int) t) (w0 w : World) (bo bq : Nat) (pp : Option Addr) (cap : Nat) (hbo : w0.heap.size ≤ bo) (M0 : Mm no w0 w (ioE n t w0.heap.size bo bq pp cap (ioL n t 0) [])) :
    Calls Tryd.prog 52 #[.agg (sqs (n : Int) t), .func (.func 53) #[] #[.pointer (some ⟨bo, 0, none⟩), .pointer (some ⟨bq, 0, none⟩)]] w fun e w' => e = .returned (.bool true) ∧ ∃ pp' cap', Mm no w0 w' (ioE n t w0.heap.size bo bq pp' cap' (ioL n t (n * n)) []) := by
  have h0 : 1 ≤ n := by have := hs.lo; omega
  have hn : n ≤ 10 := by have := hs.hi; omega
  have h1' : (1 : Int) ≤ n := by omega
  have hn' : (n : Int) ≤ 10 := by omega
  have hen := enters_of (P := Tryd.prog) (f := 53) (by exact Tryd.func53) (by kernel_rfl) rfl
  have HV := Hid2.mk (fun x y (hx : x < n) (hy : y < n) X w1 pp1 cap1 (M1 : Mm no w0 w1 (ioE n t w0.heap.size bo bq pp1 cap1 (ioL n t (x * n + y)) X)) => (isotopesFn_any n t hs x y hx hy (ioL n t (x * n + y)) (by rw [ioL_len]; have : x * n ≤ 10 * 10 := Nat.mul_le_mul (by omega) hn; omega) X w0 w1 bo bq pp1 cap1 hbo M1).mono fun e w' ⟨he, pp', cap', M'⟩ => (⟨he, pp', cap', by unfold ioE; rw [ioL_snoc t hy]; exact M'⟩ : e = Ending.returned (.bool true) ∧ ∃ pp' cap', Mm no w0 w' (ioE n t w0.heap.size bo bq pp' cap' (ioL n t (x * n + (y + 1))) X)))
  have M : Mm no w0 w (.box bo #[.slice pp (ioL n t 0).length cap] 55 :: .row w0.heap.size (.slice pp (ioL n t 0).length cap) (ioL n t 0).length (slC (ioL n t 0)) 31 101 :: .box bq (sqs (n : Int) t) 31 :: []) := M0
  have HLL := Hid2.mk (ioL_len n t)
  generalize hL : ioL n t = L at *
  clear M0 hs hL
  have C := M.ruleAll; simp only [Go.Proofs.YtpmemoabkbmljaaDoor.ruleAll] at C
  go_enter Tryd.func52, Tryd.ntmps52
  go_wp2_with (first | ((with_reducible apply wpM_box' M 31 (sqs (n : Int) t)); rfl; exact ⟨rfl, rfl⟩; clear M; (try clear C); intro b2 w9 h_b2 M; have C := M.ruleAll; simp only [Go.Proofs.YtpmemoabkbmljaaDoor.ruleAll] at C) | ((with_reducible apply wpM_lda' M 0 31 0 (sqs (n : Int) t)); rfl; rfl; rfl; exact ⟨rfl, inf_sqs.trans (congrArg some (sqs_size ..).symm), _, und_sqs, rfl⟩; exact whole_of rfl) | (go_at_call 59; ((with_reducible refine (elements_any _ _ _ (by omega) (by omega)).mono ?_); rintro e w1 ⟨g1, cap_g1, rfl, hb, hg, hr⟩; have hsz := M.size; have M9 := M.gain hb (x := .rd g1 n (fun j => .int .u8 (j : Int))) hr (fun b h => by cases h; exact hg); clear M; (try clear C); have M := M9; clear M9; (try simp only [List.set_cons_zero, List.set_cons_succ] at M); have C := M.ruleAll; simp only [Go.Proofs.YtpmemoabkbmljaaDoor.ruleAll] at C; clear hb hg hr)))
  have M9 := M.sub [2, 3, 4, 0, 1] (by decide)
  clear M; (try clear C)
  go_loopw [12, 6, 19, 8] (fun i _ _ _ wr => ∃ (k : Nat) (pp1 : Option Addr) (cap1 : Nat), k ≤ n ∧ i = .int .i64 (k : Int) ∧ Mm no w0 wr (.box bo #[.slice pp1 (L (k * n)).length cap1] 55 :: .row w0.heap.size (.slice pp1 (L (k * n)).length cap1) (L (k * n)).length (slC (L (k * n))) 31 101 :: .box bq (sqs (n : Int) t) 31 :: [.rd g1 n (fun j => .int .u8 (j : Int)), .box b2 (sqs (n : Int) t) 31])) (fun i _ _ _ _ => n - (intOf i).toNat)
  case atStart => exact ⟨0, pp, cap, by omega, rfl, by rw [Nat.zero_mul]; exact M9⟩
  case round =>
    clear M9
    obtain ⟨k, pp1, cap1, hk, rfl, M9⟩ := hrel
    have M := M9
    clear M9
    have C := M.ruleAll; simp only [Go.Proofs.YtpmemoabkbmljaaDoor.ruleAll] at C
    by_cases hlt : k < n
    · have hlt' : (k : Int) < (n : Int) := by omega
      have hk10 : (k : Int) < 10 := by omega
      have dlt : decide ((k : Int) < (n : Int)) = true := decide_eq_true hlt'
      go_wp2_with (first | ((with_reducible apply wpM_lda' M 4 31 0 (sqs (n : Int) t)); rfl; rfl; rfl; exact ⟨rfl, inf_sqs.trans (congrArg some (sqs_size ..).symm), _, und_sqs, rfl⟩; exact whole_of rfl) | (go_at_call 59; ((with_reducible refine (elements_any _ _ _ (by omega) (by omega)).mono ?_); rintro e w2 ⟨g2, cap_g2, rfl, hb, hg, hr⟩; have hsz := M.size; have M9 := M.gain hb (x := .rd g2 n (fun j => .int .u8 (j : Int))) hr (fun b h => by cases h; exact hg); clear M; (try clear C); have M := M9; clear M9; (try simp only [List.set_cons_zero, List.set_cons_succ] at M); have C := M.ruleAll; simp only [Go.Proofs.YtpmemoabkbmljaaDoor.ruleAll] at C; clear hb hg hr)))
      have M9 := M.sub [1, 2, 3, 0, 4, 5] (by decide)
      clear M; (try clear C)
      clear dlt
      go_loopw [19, 8] (fun i _ wr => ∃ (l : Nat) (pp2 : Option Addr) (cap2 : Nat), l ≤ n ∧ i = .int .i64 (l : Int) ∧ Mm no w0 wr (.box bo #[.slice pp2 (L (k * n + l)).length cap2] 55 :: .row w0.heap.size (.slice pp2 (L (k * n + l)).length cap2) (L (k * n + l)).length (slC (L (k * n + l))) 31 101 :: .box bq (sqs (n : Int) t) 31 :: [.rd g2 n (fun j => .int .u8 (j : Int)), .rd g1 n (fun j => .int .u8 (j : Int)), .box b2 (sqs (n : Int) t) 31])) (fun i _ _ => n - (intOf i).toNat)
      case atStart => exact ⟨0, pp1, cap1, by omega, rfl, M9⟩
      case round =>
        clear M9
        obtain ⟨l, pp2, cap2, hl, rfl, M9⟩ := hrel
        have M := M9
        clear M9
        have C := M.ruleAll; simp only [Go.Proofs.YtpmemoabkbmljaaDoor.ruleAll] at C
        by_cases hlt2 : l < n
        · have hlt2' : (l : Int) < (n : Int) := by omega
          have hl10 : (l : Int) < 10 := by omega
          have dlt : decide ((l : Int) < (n : Int)) = true := decide_eq_true hlt2'
          go_wp2_with (first | (go_at_call 53; fail))
          refine (HV.out k l hlt hlt2 _ _ pp2 cap2 M).mono ?_
          rintro e w5 ⟨rfl, pp3, cap3, M'⟩
          clear M; (try clear C)
          have M9 : Mm no w0 w5 (.box bo #[.slice pp3 (L (k * n + (l + 1))).length cap3] 55 :: .row w0.heap.size (.slice pp3 (L (k * n + (l + 1))).length cap3) (L (k * n + (l + 1))).length (slC (L (k * n + (l + 1)))) 31 101 :: .box bq (sqs (n : Int) t) 31 :: [.rd g2 n (fun j => .int .u8 (j : Int)), .rd g1 n (fun j => .int .u8 (j : Int)), .box b2 (sqs (n : Int) t) 31]) := M'
          clear dlt M'
          go_wp2
          go_roundw
          case rel => exact ⟨l + 1, pp3, cap3, by omega, by go_num, M9⟩
          case measure => simp [intOf]; omega
        · obtain rfl : l = n := by omega
          have hge : ¬ ((l : Int) < (l : Int)) := by omega
          go_wp2
          go_roundw
          case rel => exact ⟨k + 1, pp2, cap2, by omega, by go_num, by rw [Nat.add_mul, Nat.one_mul]; exact M.sub [0, 1, 2, 4, 5] (by decide)⟩
          case measure => simp [intOf]; omega
    · obtain rfl : k = n := by omega
      have hge : ¬ ((k : Int) < (k : Int)) := by omega
      go_wp2
      go_ret
      exact ⟨rfl, pp1, cap1, M.sub [0, 1, 2] (by decide)⟩

set_option maxRecDepth 100000 in
set_option maxHeartbeats 2000000 in
theorem isotopes_any (n : Nat) (t : Nat → Nat → Nat) (hs : IsSq (n : Int) t) (w : World) :
    Calls Tryd.prog 33 #[.agg (sqs (n : Int) t)] w fun e w' => ∃ v, e = .returned v ∧ Mm no w w' [.row w.heap.size v (ioL n t (n * n)).length (slC (ioL n t (n * n))) 31 101] := by
  have M := Mm.start no w
  have H := Hid2.mk (fun w1 bo bq pp cap hbo M1 => forPairs_any n t hs w w1 bo bq pp cap hbo M1)
  have hz := zero_slW
  clear hs
  go_enter Tryd.func33, Tryd.ntmps33
  go_wp2_with (first | ((with_reducible apply wpM_box' M 31 (sqs (n : Int) t)); rfl; exact ⟨rfl, rfl⟩; clear M; (try clear C); intro bq w9 h_bq M; have C := M.ruleAll; simp only [Go.Proofs.YtpmemoabkbmljaaDoor.ruleAll] at C) | ((with_reducible apply wpM_bsl' M 55 0 31 ([]) (#[])); rfl; rfl; rfl; exact bsl_sq0; clear M; (try clear C); intro bs w9 h_bs M; have C := M.ruleAll; simp only [Go.Proofs.YtpmemoabkbmljaaDoor.ruleAll] at C) | ((with_reducible apply wpM_alloc' M 55 (#[.slice none 0 0])); rfl; exact ⟨rfl, _, zero_slW _, rfl⟩; clear M; (try clear C); intro bo w9 h_bo M; have C := M.ruleAll; simp only [Go.Proofs.YtpmemoabkbmljaaDoor.ruleAll] at C) | ((with_reducible apply wpM_st' M 0 55 (0) (#[.slice (some ⟨bs, 0, none⟩) 0 0])); rfl; rfl; rfl; (first | exact .inl (by assumption) | exact .inr rfl | exact .inr (by assumption)); exact ⟨rfl, rfl, by kernel_rfl⟩; exact Nat.zero_lt_one; exact rfl; clear M; (try clear C); intro w9 M; simp only [List.set_cons_zero, List.set_cons_succ, entBlk, entT, List.getElem?_cons_zero, List.getElem?_cons_succ] at M; have C := M.ruleAll; simp only [Go.Proofs.YtpmemoabkbmljaaDoor.ruleAll] at C) | ((with_reducible apply wpM_lda' M 2 31 0 (sqs (n : Int) t)); rfl; rfl; rfl; exact ⟨rfl, inf_sqs.trans (congrArg some (sqs_size ..).symm), _, und_sqs, rfl⟩; exact whole_of rfl) | (go_at_call 52; fail))
  have M9 := (M.asRow 1 rfl w.heap.size 0 101 h_bs rfl (Nat.zero_le _))
  simp only [List.set_cons_zero, List.set_cons_succ] at M9
  refine (H.out _ bo bq (some ⟨bs, 0, none⟩) 0 h_bo M9).mono ?_
  rintro e w5 ⟨rfl, pp, cap, M'⟩
  clear M; (try clear C)
  have M : Mm no w w5 (.box bo #[.slice pp (ioL n t (n * n)).length cap] 55 :: .row w.heap.size (.slice pp (ioL n t (n * n)).length cap) (ioL n t (n * n)).length (slC (ioL n t (n * n))) 31 101 :: .box bq (sqs (n : Int) t) 31 :: []) := M'
  clear M9 M' hz H
  have C := M.ruleAll; simp only [Go.Proofs.YtpmemoabkbmljaaDoor.ruleAll] at C
  go_wp2
  go_ret
  exact ⟨_, rfl, M.sub [1] (by decide)⟩

/-- Whether law k holds in all isotopes. -/
noncomputable def uniB (n : Nat) (t : Nat → Nat → Nat) (k : Nat) : Bool := (List.range (n * n)).all fun m => lawB n (isoT n t (m / n) (m % n)) k
theorem div_mod_lt {n m : Nat} (h : m < n * n) : m / n < n ∧ m % n < n := by
  have h0 : 0 < n := by
    rcases Nat.eq_zero_or_pos n with h1 | h1
    · subst h1; omega
    · exact h1
  exact ⟨Nat.div_lt_of_lt_mul h, Nat.mod_lt m h0⟩

set_option maxRecDepth 100000 in
set_option maxHeartbeats 2000000 in
theorem universal_any (n : Nat) (t : Nat → Nat → Nat) (hs : IsSq (n : Int) t) (k : Nat) (hk : k < 20) (w : World) (hg : glb w) (g cap : Nat) (hr : rds w g ((ioL n t (n * n)).length * 101) (fun j => (slC (ioL n t (n * n))).getD j undef)) :
    Calls Tryd.prog 32 #[.slice (some ⟨g, 0, none⟩) (ioL n t (n * n)).length cap, .int .i64 (k : Int)] w fun e w' => e = .returned (.bool (uniB n t k)) ∧ Below w.heap.size w w' := by
  have M := (Mm.start no w).add (x := .rd g ((ioL n t (n * n)).length * 101) (fun j => (slC (ioL n t (n * n))).getD j undef)) hr fun _ h => by cases h
  have HU := Hid2.mk (show uniB n t k = (List.range (n * n)).all fun m => lawB n (isoT n t (m / n) (m % n)) k from rfl)
  generalize uniB n t k = res at HU ⊢
  have HO := Hid2.mk (fun m (hm : m < n * n) w1 (hb : Below w.heap.size w w1) => obeys_any n (isoT n t (m / n) (m % n)) (isoT_sq hs (div_mod_lt hm).1 (div_mod_lt hm).2) k hk w1 (hg.later hb))
  have HCE := Hid2.mk (fun m (hm : m < n * n) w1 (h : rds w1 g ((ioL n t (n * n)).length * 101) (fun j => (slC (ioL n t (n * n))).getD j undef)) => (fun j v hv => sqq_cells h (k := m) (by rw [ioL_len]; exact hm) j v (by simpa [ioL] using hv) : ∀ j v, (sqs (n : Int) (isoT n t (m / n) (m % n)))[j]? = some v → w1.cell? ⟨g, m * 101 + j, none⟩ = some v))
  have hnn : n * n ≤ 100 := Nat.mul_le_mul (show n ≤ 10 by have := hs.hi; omega) (show n ≤ 10 by have := hs.hi; omega)
  rw [ioL_len] at M HCE ⊢
  generalize slC (ioL n t (n * n)) = cells at *
  generalize hT : (fun m => isoT n t (m / n) (m % n)) = T
  have eT : ∀ m, isoT n t (m / n) (m % n) = T m := fun m => by rw [← hT]
  simp only [eT] at HO HCE HU
  generalize hP : (fun m => lawB n (T m) k) = p at HU
  have eP : ∀ m, lawB n (T m) k = p m := fun m => by rw [← hP]
  simp only [eP] at HO
  generalize n * n = N at *
  clear hr hg hT eT hP eP hs hk
  have C := M.ruleAll; simp only [Go.Proofs.YtpmemoabkbmljaaDoor.ruleAll] at C
  go_enter Tryd.func32, Tryd.ntmps32
  go_wp2
  go_loopw [9, 6] (fun i _ wr => ∃ m : Nat, m ≤ N ∧ i = .int .i64 (m : Int) ∧ (∀ j, j < m → p j = true) ∧ Mm no w wr [.rd g (N * 101) (fun j => cells.getD j undef)]) (fun i _ _ => N - (intOf i).toNat)
  case atStart => exact ⟨0, by omega, rfl, fun j h => by omega, M⟩
  case round =>
    obtain ⟨m, hm, rfl, hall, M9⟩ := hrel
    clear M; (try clear C)
    have M := M9
    clear M9
    have C := M.ruleAll; simp only [Go.Proofs.YtpmemoabkbmljaaDoor.ruleAll] at C
    have HA := Hid2.mk hall
    clear hall
    by_cases hlt : m < N
    · have hlt' : (m : Int) < (N : Int) := by omega
      have HO1 := Hid2.mk (HO.out m hlt)
      have HC1 := Hid2.mk (HCE.out m hlt)
      generalize T m = u at HO1 HC1
      cases hv : p m with
      | true =>
        simp only [hv] at HO1
        have HST := Hid2.mk (show ∀ j, j < m + 1 → p j = true from fun j hj => if e : j = m then e ▸ hv else HA.out j (by omega))
        clear hv
        go_wp2_with (first | (refine wpList_load_part rfl 31 _ rfl (g) (m * 101) rfl (sqs (n : Int) u) _ und_sqs rfl inf_sqs (HC1.out _ (by first | exact M.rd 0 rfl | exact M.rd 1 rfl)) ?_) | ((with_reducible apply wpM_alloc' M 31 (sqs 0 fun _ _ => 0)); rfl; exact ⟨rfl, _, zero_sqs _, rfl⟩; clear M; (try clear C); intro b4 w9 h_b4 M; have C := M.ruleAll; simp only [Go.Proofs.YtpmemoabkbmljaaDoor.ruleAll] at C) | ((with_reducible apply wpM_sta' M 0 31 (sqs (n : Int) u)); rfl; rfl; rfl; rfl; (first | exact .inl (by assumption) | exact .inr rfl | exact .inr (by assumption)); exact ⟨rfl, inf_sqs.trans (congrArg some (sqs_size ..).symm), flat_sqs _ _⟩; (simp only [entCells, List.getElem?_cons_zero, List.getElem?_cons_succ, sqs_size, sqs_size]); clear M; (try clear C); intro w9 M; simp only [List.set_cons_zero, List.set_cons_succ, entBlk, entT, List.getElem?_cons_zero, List.getElem?_cons_succ] at M; have C := M.ruleAll; simp only [Go.Proofs.YtpmemoabkbmljaaDoor.ruleAll] at C) | ((with_reducible apply wpM_lda' M 0 31 0 (sqs (n : Int) u)); rfl; rfl; rfl; exact ⟨rfl, inf_sqs.trans (congrArg some (sqs_size ..).symm), _, und_sqs, rfl⟩; exact whole_of rfl) | (go_at_call 24; ((with_reducible refine (HO1.out _ M.below).mono ?_); rintro e w1 ⟨rfl, hb⟩; have hsz := M.size; (try (have G9 := G.later hb; clear G; have G := G9; clear G9)); have M9 := M.later hb; clear M; (try clear C); have M := M9; clear M9; have C := M.ruleAll; simp only [Go.Proofs.YtpmemoabkbmljaaDoor.ruleAll] at C)))
        go_roundw
        case rel => exact ⟨m + 1, by omega, by go_num, HST.out, M.drop 0⟩
        case measure => simp [intOf]; omega
      | false =>
        simp only [hv] at HO1
        have HST := Hid2.mk (show res = false by rw [HU.out]; exact List.all_eq_false.2 ⟨m, List.mem_range.2 hlt, by simp [hv]⟩)
        clear hv
        go_wp2_with (first | (refine wpList_load_part rfl 31 _ rfl (g) (m * 101) rfl (sqs (n : Int) u) _ und_sqs rfl inf_sqs (HC1.out _ (by first | exact M.rd 0 rfl | exact M.rd 1 rfl)) ?_) | ((with_reducible apply wpM_alloc' M 31 (sqs 0 fun _ _ => 0)); rfl; exact ⟨rfl, _, zero_sqs _, rfl⟩; clear M; (try clear C); intro b4 w9 h_b4 M; have C := M.ruleAll; simp only [Go.Proofs.YtpmemoabkbmljaaDoor.ruleAll] at C) | ((with_reducible apply wpM_sta' M 0 31 (sqs (n : Int) u)); rfl; rfl; rfl; rfl; (first | exact .inl (by assumption) | exact .inr rfl | exact .inr (by assumption)); exact ⟨rfl, inf_sqs.trans (congrArg some (sqs_size ..).symm), flat_sqs _ _⟩; (simp only [entCells, List.getElem?_cons_zero, List.getElem?_cons_succ, sqs_size, sqs_size]); clear M; (try clear C); intro w9 M; simp only [List.set_cons_zero, List.set_cons_succ, entBlk, entT, List.getElem?_cons_zero, List.getElem?_cons_succ] at M; have C := M.ruleAll; simp only [Go.Proofs.YtpmemoabkbmljaaDoor.ruleAll] at C) | ((with_reducible apply wpM_lda' M 0 31 0 (sqs (n : Int) u)); rfl; rfl; rfl; exact ⟨rfl, inf_sqs.trans (congrArg some (sqs_size ..).symm), _, und_sqs, rfl⟩; exact whole_of rfl) | (go_at_call 24; ((with_reducible refine (HO1.out _ M.below).mono ?_); rintro e w1 ⟨rfl, hb⟩; have hsz := M.size; (try (have G9 := G.later hb; clear G; have G := G9; clear G9)); have M9 := M.later hb; clear M; (try clear C); have M := M9; clear M9; have C := M.ruleAll; simp only [Go.Proofs.YtpmemoabkbmljaaDoor.ruleAll] at C)))
        go_ret
        exact ⟨by rw [HST.out]; rfl, M.below⟩
    · obtain rfl : m = N := by omega
      have hge : ¬ ((m : Int) < (m : Int)) := by omega
      have HST := Hid2.mk (show res = true by rw [HU.out]; exact List.all_eq_true.2 fun i hi => HA.out i (List.mem_range.1 hi))
      go_wp2
      go_ret
      exact ⟨by rw [HST.out]; rfl, M.below⟩
end Go.Proofs.YtpmemoabkbmljaaDoor

