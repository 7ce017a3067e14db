/- The quotient by a normal subloop: plain Lean, and contracts of the program. -/
import Derived.Test.YteonahoboligdaaDoorG34
import Derived.Test.YteonahoboligdaaDoorK12
import Derived.Test.YteonahoboligdaaDoorK11
import Derived.Shelf.Abstract
namespace Go.Proofs.YteonahoboligdaaDoor
set_option linter.unusedSimpArgs false
set_option linter.unusedVariables false
open Go Go.RowKit

/-- The cells of n numbers. -/
def nC (n : Nat) (f : Nat → Nat) : Array Value := tab n fun i => .int .i64 (f i : Nat)
theorem nC_size (n : Nat) (f : Nat → Nat) : (nC n f).size = n := tab_size _ _
theorem nC_get {n : Nat} {f : Nat → Nat} {i : Nat} (h : i < n) : (nC n f)[i]? = some (.int .i64 (f i : Nat)) := tab_get h
theorem nC_set (n : Nat) (f : Nat → Nat) (i v : Nat) : (nC n f).setIfInBounds i (.int .i64 (v : Nat)) = nC n (fun j => if j = i then v else f j) := by
  unfold nC; rw [tab_set]; exact tab_ext fun j _ => by dsimp only; split <;> rfl
theorem made_nC (n : Nat) : madeCells (Value.int .i64 0).cells (n * 1) = nC n fun _ => 0 := by
  rw [Nat.mul_one]
  refine tab_of (size_madeCells _ _) fun i hi => ?_
  simp [madeCells, hi, Value.cells, Nat.mod_one]
theorem nC_list (n : Nat) (f : Nat → Nat) : (nC n f).toList = i64N ((List.range n).map f) := by
  unfold nC tab i64N
  simp
/-- A table, filled row by row: m products are there. -/
def filT (N : Nat) (T : Nat → Nat → Nat) (m : Nat) : Nat → Nat → Nat := fun i j => if j < N ∧ i * N + j < m then T i j else 0
theorem filT_zero (N : Nat) (T : Nat → Nat → Nat) : filT N T 0 = fun _ _ => 0 := by funext i j; unfold filT; rw [if_neg (by omega)]
theorem filT_set {n : Int} {N : Nat} {T : Nat → Nat → Nat} {k l : Nat} (hl : l < N) (hk : k < 10) (hl10 : l < 10) :
    (sqs n (filT N T (k * N + l))).setIfInBounds (1 + k * 10 + l) (.int .u8 (T k l : Nat)) = sqs n (filT N T (k * N + (l + 1))) := by
  rw [sqs_set hk hl10]
  refine sqs_ext rfl fun i j _ _ => ?_
  unfold filT
  by_cases e : i = k ∧ j = l
  · obtain ⟨rfl, rfl⟩ := e
    rw [if_pos ⟨rfl, rfl⟩, if_pos ⟨hl, by omega⟩]
  · rw [if_neg e]
    by_cases hj : j < N
    · have hne : i * N + j ≠ k * N + l := fun h => by
        have h1 : (i * N + j) % N = j := by rw [Nat.mul_comm, Nat.mul_add_mod]; exact Nat.mod_eq_of_lt hj
        have h2 : (k * N + l) % N = l := by rw [Nat.mul_comm, Nat.mul_add_mod]; exact Nat.mod_eq_of_lt hl
        have h3 : j = l := by rw [← h1, h, h2]
        subst h3
        have h4 : i * N = k * N := by omega
        exact e ⟨Nat.eq_of_mul_eq_mul_right (by omega) h4, rfl⟩
      by_cases h2 : i * N + j < k * N + l
      · rw [if_pos ⟨hj, h2⟩, if_pos ⟨hj, by omega⟩]
      · rw [if_neg fun h => h2 h.2, if_neg fun h => h2 (by omega)]
    · rw [if_neg fun h => hj h.1, if_neg fun h => hj h.1]

/-! ### Lists of numbers that have none in common, and where a number lies -/
structure Prt (n : Nat) (L : List (List Nat)) : Prop where
  pos : 0 < L.length
  len : L.length ≤ n
  mem : ∀ l ∈ L, 0 < l.length ∧ l.length ≤ 10 ∧ ∀ x ∈ l, x < n
  dis : L.Pairwise fun a b => ∀ x ∈ a, x ∉ b
def prjL (L : List (List Nat)) (x : Nat) : Nat := L.findIdx fun l => decide (x ∈ l)
theorem prjL_at {n : Nat} {L : List (List Nat)} (P : Prt n L) {k : Nat} {l : List Nat} (h : L[k]? = some l) (x : Nat) : prjL L x = k ↔ x ∈ l := by
  obtain ⟨hk, rfl⟩ := List.getElem?_eq_some_iff.1 h
  unfold prjL
  constructor
  · intro e
    have h1 : L.findIdx (fun l => decide (x ∈ l)) < L.length := by omega
    have h2 := List.findIdx_getElem (w := h1)
    simp only [e] at h2
    exact of_decide_eq_true h2
  · intro hx
    rw [List.findIdx_eq hk]
    refine ⟨decide_eq_true hx, fun j hj => decide_eq_false fun h2 => ?_⟩
    have := P.dis
    rw [List.pairwise_iff_getElem] at this
    exact this j k (by omega) hk hj x h2 hx
/-- The projection after k lists. -/
def prT (L : List (List Nat)) (k : Nat) : Nat → Nat := fun x => if prjL L x < k then prjL L x else 0
theorem prT_zero (L : List (List Nat)) : prT L 0 = fun _ => 0 := by funext x; unfold prT; rw [if_neg (by omega)]
theorem prT_lt {L : List (List Nat)} {k x : Nat} (h : 0 < k) : prT L k x < k := by unfold prT; split <;> omega
/-- .. and after j of the numbers of list k. -/
def prJ (L : List (List Nat)) (k : Nat) (l : List Nat) (j : Nat) : Nat → Nat := fun x => if x ∈ l.take j then k else prT L k x
theorem prJ_zero (L : List (List Nat)) (k : Nat) (l : List Nat) : prJ L k l 0 = prT L k := by funext x; simp [prJ]
theorem prJ_set {n : Nat} {L : List (List Nat)} {k : Nat} {l : List Nat} {j x : Nat} (h : l[j]? = some x) : (nC n (prJ L k l j)).setIfInBounds x (.int .i64 (k : Nat)) = nC n (prJ L k l (j + 1)) := by
  rw [nC_set]
  congr 1
  funext y
  unfold prJ
  rw [List.take_add_one, h, Option.toList_some]
  by_cases e : y = x
  · subst e; simp
  · rw [if_neg e]; simp [e]
theorem prJ_all {n : Nat} {L : List (List Nat)} (P : Prt n L) {k : Nat} {l : List Nat} (h : L[k]? = some l) : prJ L k l l.length = prT L (k + 1) := by
  funext x
  unfold prJ prT
  rw [List.take_length]
  have hi := prjL_at P h x
  by_cases hx : x ∈ l
  · rw [if_pos hx, hi.2 hx, if_pos (by omega)]
  · have hne : prjL L x ≠ k := fun e => hx (hi.1 e)
    rw [if_neg hx]
    by_cases h2 : prjL L x < k
    · rw [if_pos h2, if_pos (by omega)]
    · rw [if_neg h2, if_neg (by omega)]
/-- The first number of a list. -/
def hdL (L : List (List Nat)) (k : Nat) : Nat := (L.getD k []).headD 0
theorem hdL_at {L : List (List Nat)} {k : Nat} {l : List Nat} (h : L[k]? = some l) : l[0]? = if l.length = 0 then none else some (hdL L k) := by
  unfold hdL
  rw [List.getD_eq_getElem?_getD, h, Option.getD_some]
  cases l with
  | nil => rfl
  | cons a l => rfl
theorem hdL_lt {n : Nat} {L : List (List Nat)} (P : Prt n L) {k : Nat} (hk : k < L.length) : hdL L k < n := by
  have h := hdL_at (List.getElem?_eq_getElem hk)
  have hm := P.mem _ (List.getElem_mem hk)
  rw [if_neg (by omega)] at h
  exact hm.2.2 _ (List.mem_of_getElem? h)
/-- The product of two classes. -/
def quT (L : List (List Nat)) (t : Nat → Nat → Nat) : Nat → Nat → Nat := fun a b => prT L L.length (t (hdL L a) (hdL L b))

theorem build_sqn (n : Int) (w : World) : (Instr.build 32 #[(0, .int .i64 n)]).run Tryd.prog w = .ok (.agg (sqs n fun _ _ => 0)) w := by kernel_rfl
set_option maxRecDepth 100000 in
set_option maxHeartbeats 2000000 in
theorem made_any (n : Nat) (T : Nat → Nat → Nat) (f : Nat) (fa cp : Array Value) (w : World) (h0 : 1 ≤ n) (h1 : n ≤ 10) (hen : ∀ (args : Array Value) (w : World), (callFunc f args).run Tryd.prog w = .ok (.enter f args) w)
    (hf : ∀ x y, x < n → y < n → ∀ w1, Below w.heap.size w w1 → Calls Tryd.prog f (fa ++ (#[.int .u8 (x : Int), .int .u8 (y : Int)] ++ cp)) w1 fun e w' => e = .returned (.int .u8 (T x y : Nat)) ∧ Below w1.heap.size w1 w') :
    Calls Tryd.prog 54 #[.int .i64 (n : Int), .func (.func f) fa cp] w fun e w' => e = .returned (.agg (sqs (n : Int) (filT n T (n * n)))) ∧ Below w.heap.size w w' := by
  have M := Mm.start no w
  have HF := Hid2.mk hf
  have hz := zero_sqs
  have hbd := build_sqn (n : Int)
  have h1' : (1 : Int) ≤ n := by omega
  have h2' : (n : Int) ≤ 10 := by omega
  clear hf
  go_enter Tryd.func54, Tryd.ntmps54
  go_wp2_with (first | ((fail_if_success have := h_bo1); ((with_reducible apply wpM_alloc' M 32 (sqs 0 fun _ _ => 0)); rfl; exact ⟨rfl, _, zero_sqs _, rfl⟩; clear M; (try clear C); intro bo1 w9 h_bo1 M; have C := M.ruleAll; simp only [Go.Proofs.YteonahoboligdaaDoor.ruleAll] at C)) | ((with_reducible apply wpM_alloc' M 32 (sqs 0 fun _ _ => 0)); rfl; exact ⟨rfl, _, zero_sqs _, rfl⟩; clear M; (try clear C); intro bo w9 h_bo M; have C := M.ruleAll; simp only [Go.Proofs.YteonahoboligdaaDoor.ruleAll] at C) | (refine wpList_build 32 _ rfl rfl [(0, .int .i64 (n : Int))] rfl _ (build_sqn _ _) ?_) | ((with_reducible apply wpM_sta' M 0 32 (sqs (n : Int) fun _ _ => 0)); rfl; rfl; rfl; rfl; (first | exact .inl (by assumption) | exact .inr rfl | exact .inr (by assumption)); exact ⟨rfl, inf_sqs.trans (congrArg some (sqs_size ..).symm), flat_sqs _ _⟩; (simp only [entCells, List.getElem?_cons_zero, List.getElem?_cons_succ, sqs_size, sqs_size]); clear M; (try clear C); intro w9 M; simp only [List.set_cons_zero, List.set_cons_succ, entBlk, entT, List.getElem?_cons_zero, List.getElem?_cons_succ] at M; have C := M.ruleAll; simp only [Go.Proofs.YteonahoboligdaaDoor.ruleAll] at C) | ((with_reducible apply wpM_lda' M 0 32 0 (sqs (n : Int) fun _ _ => 0)); rfl; rfl; rfl; exact ⟨rfl, inf_sqs.trans (congrArg some (sqs_size ..).symm), _, und_sqs, rfl⟩; exact whole_of rfl) | (go_at_call 43; ((with_reducible refine (elements_any _ _ _ (by omega) (by omega)).mono ?_); rintro e w1 ⟨g1, cap_g1, rfl, hb, hg, hr⟩; have hsz := M.size; have M9 := M.gain hb (x := .rd g1 n (fun j => .int .u8 (j : Int))) hr (fun b h => by cases h; exact hg); clear M; (try clear C); have M := M9; clear M9; (try simp only [List.set_cons_zero, List.set_cons_succ] at M); have C := M.ruleAll; simp only [Go.Proofs.YteonahoboligdaaDoor.ruleAll] at C; clear hb hg hr)))
  clear hz hbd
  go_loopw [15, 7, 22, 9] (fun i _ _ _ wr => ∃ k : Nat, k ≤ n ∧ i = .int .i64 (k : Int) ∧ Mm no w wr [.rd g1 n (fun j => .int .u8 (j : Int)), .box bo (sqs (n : Int) (filT n T (k * n))) 32, .box bo1 (sqs 0 fun _ _ => 0) 32]) (fun i _ _ _ _ => n - (intOf i).toNat)
  case atStart => exact ⟨0, by omega, rfl, M.eq (by rw [Nat.zero_mul, filT_zero])⟩
  case round =>
    obtain ⟨k, hk, rfl, M9⟩ := hrel
    clear M; (try clear C)
    have M := M9
    clear M9
    have C := M.ruleAll; simp only [Go.Proofs.YteonahoboligdaaDoor.ruleAll] at C
    by_cases hlt : k < n
    · have hlt' : (k : Int) < (n : Int) := by omega
      have hk10 : (k : Int) < 10 := by omega
      have dlt : decide ((k : Int) < (n : Int)) = true := decide_eq_true hlt'
      go_wp2_with (first | ((with_reducible apply wpM_lda' M 1 32 0 (sqs (n : Int) (filT n T (k * n)))); rfl; rfl; rfl; exact ⟨rfl, inf_sqs.trans (congrArg some (sqs_size ..).symm), _, und_sqs, rfl⟩; exact whole_of rfl) | (go_at_call 43; ((with_reducible refine (elements_any _ _ _ (by omega) (by omega)).mono ?_); rintro e w2 ⟨g2, cap_g2, rfl, hb, hg, hr⟩; have hsz := M.size; have M9 := M.gain hb (x := .rd g2 n (fun j => .int .u8 (j : Int))) hr (fun b h => by cases h; exact hg); clear M; (try clear C); have M := M9; clear M9; (try simp only [List.set_cons_zero, List.set_cons_succ] at M); have C := M.ruleAll; simp only [Go.Proofs.YteonahoboligdaaDoor.ruleAll] at C; clear hb hg hr)))
      clear dlt
      go_loopw [22, 9] (fun i _ wr => ∃ l : Nat, l ≤ n ∧ i = .int .i64 (l : Int) ∧ Mm no w wr [.rd g2 n (fun j => .int .u8 (j : Int)), .rd g1 n (fun j => .int .u8 (j : Int)), .box bo (sqs (n : Int) (filT n T (k * n + l))) 32, .box bo1 (sqs 0 fun _ _ => 0) 32]) (fun i _ _ => n - (intOf i).toNat)
      case atStart => exact ⟨0, by omega, rfl, M⟩
      case round =>
        obtain ⟨l, hl, rfl, M9⟩ := hrel
        clear M; (try clear C)
        have M := M9
        clear M9
        have C := M.ruleAll; simp only [Go.Proofs.YteonahoboligdaaDoor.ruleAll] at C
        by_cases hlt2 : l < n
        · have hlt2' : (l : Int) < (n : Int) := by omega
          have hl10 : (l : Int) < 10 := by omega
          have dlt : decide ((l : Int) < (n : Int)) = true := decide_eq_true hlt2'
          have HF1 := Hid2.mk (fun w1 hb => HF.out k l hlt hlt2 w1 hb)
          have HS := Hid2.mk (filT_set (n := (n : Int)) (N := n) (T := T) (k := k) (l := l) hlt2 (by omega) (by omega))
          go_wp2
          clear dlt
          generalize T k l = v at HF1 HS
          apply wp_region_mm M 9 (by kernel_rfl) (by kernel_rfl); (simp only [List.take_succ_cons, List.take_zero]; repeat (first | exact wpText_nil | (apply wpText_cons; (intro w2 M; have C := M.ruleAll; simp only [Go.Proofs.YteonahoboligdaaDoor.ruleAll] at C; go_wp2_with (first | ((with_reducible refine (HF1.out _ M.below).mono ?_); rintro e w1 ⟨rfl, hb⟩; have M9 := M.later hb; clear M; (try clear C); have M := M9; clear M9 hb; have C := M.ruleAll; simp only [Go.Proofs.YteonahoboligdaaDoor.ruleAll] at C)); exact ⟨rfl, rfl, M⟩); rfl))); (clear M; (try clear C); intro w2 M; simp only [List.drop_succ_cons, List.drop_zero]; have C := M.ruleAll; simp only [Go.Proofs.YteonahoboligdaaDoor.ruleAll] at C)
          go_wp2_with (first | ((with_reducible apply wpM_st' M 2 5 (1 + k * 10 + l) (sqs (n : Int) (filT n T (k * n + (l + 1))))); rfl; rfl; rfl; (first | exact .inl (by assumption) | exact .inr rfl | exact .inr (by assumption)); exact ⟨rfl, rfl, by kernel_rfl⟩; (exact Nat.lt_of_lt_of_eq (by omega) (sqs_size _ _).symm); exact HS.out; clear M; (try clear C); intro w9 M; simp only [List.set_cons_zero, List.set_cons_succ, entBlk, entT, List.getElem?_cons_zero, List.getElem?_cons_succ] at M; have C := M.ruleAll; simp only [Go.Proofs.YteonahoboligdaaDoor.ruleAll] at C))
          go_roundw
          case rel => exact ⟨l + 1, by omega, by go_num, M⟩
          case measure => simp [intOf]; omega
        · obtain rfl : l = n := by omega
          go_wp2
          go_roundw
          case rel => exact ⟨k + 1, by omega, by go_num, (M.sub [1, 2, 3] (by decide)).eq (by rw [Nat.add_mul, Nat.one_mul]; rfl)⟩
          case measure => simp [intOf]; omega
    · obtain rfl : k = n := by omega
      go_wp2_with (first | ((with_reducible apply wpM_lda' M 1 32 0 (sqs (k : Int) (filT k T (k * k)))); rfl; rfl; rfl; exact ⟨rfl, inf_sqs.trans (congrArg some (sqs_size ..).symm), _, und_sqs, rfl⟩; exact whole_of rfl) | ((with_reducible apply wpM_sta' M 2 32 (sqs (k : Int) (filT k T (k * k)))); rfl; rfl; rfl; rfl; (first | exact .inl (by assumption) | exact .inr rfl | exact .inr (by assumption)); exact ⟨rfl, inf_sqs.trans (congrArg some (sqs_size ..).symm), flat_sqs _ _⟩; (simp only [entCells, List.getElem?_cons_zero, List.getElem?_cons_succ, sqs_size, sqs_size]); clear M; (try clear C); intro w9 M; simp only [List.set_cons_zero, List.set_cons_succ, entBlk, entT, List.getElem?_cons_zero, List.getElem?_cons_succ] at M; have C := M.ruleAll; simp only [Go.Proofs.YteonahoboligdaaDoor.ruleAll] at C))
      refine bodyPost_ret (v := .agg (sqs (k : Int) (filT k T (k * k)))) (by exact results_part rfl _ _ _ _ _ _ rfl und_sqs rfl inf_sqs (cells_of_blk0 (M.box 2 rfl))) rfl ?_
      exact ⟨rfl, M.below⟩


set_option maxRecDepth 100000 in
set_option maxHeartbeats 2000000 in
theorem quotFn_any (n : Nat) (t : Nat → Nat → Nat) (hl : Loo n t) (L : List (List Nat)) (P : Prt n L) (x y b8 bq b9 gp gl c8 c9 : Nat) (hx : x < L.length) (hy : y < L.length) (w : World)
    (M0 : Mm no w w [.box b8 #[.slice (some ⟨gp, 0, none⟩) n c8] 26, .box b9 #[.slice (some ⟨gl, 0, none⟩) L.length c9] 68, .box bq (sqs (n : Int) t) 32, .rd gp n (fun i => .int .i64 (prT L L.length i : Nat)), .rd gl L.length (fun i => .int .u8 (hdL L i : Nat))]) :
    Calls Tryd.prog 55 #[.int .u8 (x : Int), .int .u8 (y : Int), .pointer (some ⟨b8, 0, none⟩), .pointer (some ⟨bq, 0, none⟩), .pointer (some ⟨b9, 0, none⟩)] w fun e w' => e = .returned (.int .u8 (quT L t x y : Nat)) ∧ Below w.heap.size w w' := by
  have M := M0
  have hn := hl.sq.hi
  have h1 := hdL_lt P hx
  have h2 := hdL_lt P hy
  have h3 := hl.lt h1 h2
  have hlen := P.len
  have q1 := sqs_get (n := (n : Int)) (t := t) (x := hdL L x) (y := hdL L y) (by omega) (by omega)
  have h4 := prT_lt (L := L) (k := L.length) (x := t (hdL L x) (hdL L y)) P.pos
  have e1 : (fun i => Value.int .u8 (hdL L i : Nat)) x = .int .u8 (hdL L x : Nat) := rfl
  unfold quT
  have HQ := Hid2.mk (fun i => show (fun i => Value.int .i64 (prT L L.length i : Nat)) i = .int .i64 (prT L L.length i : Nat) from rfl)
  clear M0 hl P e1 HQ
  generalize hN : L.length = N at *
  generalize hV : prT L N (t (hdL L x) (hdL L y)) = V at *
  have HV := Hid2.mk hV
  clear hV
  generalize hdL L = H at *
  have hv' : (V : Int) < 256 := by omega
  have hx' : (x : Int) < 10 := by omega
  have hy' : (y : Int) < 10 := by omega
  have hxn : (x : Int) < (N : Int) := by omega
  have hyn : (y : Int) < (N : Int) := by omega
  have h1' : (H x : Int) < 10 := by omega
  have h2' : (H y : Int) < 10 := by omega
  generalize hu : t (H x) (H y) = u at *
  have hc : prT L N u = V := HV.out
  generalize prT L N = F at *
  clear hu
  have hun : (u : Int) < (n : Int) := by omega
  have hu10 : (u : Int) < 10 := by omega
  have C := M.ruleAll; simp only [Go.Proofs.YteonahoboligdaaDoor.ruleAll] at C
  go_enter Tryd.func55, Tryd.ntmps55
  go_wp2
  apply wp_region_mm M 16 (by kernel_rfl) (by kernel_rfl); (simp only [List.take_succ_cons, List.take_zero]; repeat (first | exact wpText_nil | (apply wpText_cons; (intro w2 M; have C := M.ruleAll; simp only [Go.Proofs.YteonahoboligdaaDoor.ruleAll] at C; go_wp2; exact ⟨rfl, rfl, M⟩); rfl))); (clear M; (try clear C); intro w2 M; simp only [List.drop_succ_cons, List.drop_zero]; have C := M.ruleAll; simp only [Go.Proofs.YteonahoboligdaaDoor.ruleAll] at C)
  go_wp2
  go_ret
  exact ⟨rfl, M.below⟩
end Go.Proofs.YteonahoboligdaaDoor

/- The classes of a normal subloop are its cosets; the quotient of the program: a contract. -/
namespace Go.Proofs.YteonahoboligdaaDoor
set_option linter.unusedSimpArgs false
set_option linter.unusedVariables false
open Go Go.RowKit

/-- The cosets are the classes, in the same order. -/
theorem cos_told {n : Nat} (hn : n ≤ 10) {C : Nat → Nat} {f : Nat → Nat} (hC : ∀ x, x < n → ∀ y, (C x).testBit y = true ↔ y < n ∧ f y = f x) : ∀ k, k ≤ n → ∃ out, Cos C k out ∧ out.map mL = toldL f n k
  | 0, _ => ⟨[], Cos.start C, rfl⟩
  | k + 1, hk => by
    obtain ⟨out, V, e⟩ := cos_told hn hC k (by omega)
    have hself : ∀ x, x < n → (C x).testBit x = true := fun x hx => (hC x hx x).2 ⟨hx, rfl⟩
    by_cases h : ∃ j, j < k ∧ f j = f k
    · obtain ⟨j, hj, hf⟩ := h
      have hin : C k ∈ out := by
        rw [show C k = C j from mask_ext fun i => by rw [hC k (by omega), hC j (by omega), hf]]
        exact V.all j hj
      refine ⟨out, V.known hin, ?_⟩
      rw [e, toldL, if_pos]
      unfold dnB
      exact decide_eq_true ⟨by omega, j, hj, hf⟩
    · have hno : ∀ j, j < k → f j ≠ f k := fun j hj e => h ⟨j, hj, e⟩
      refine ⟨out ++ [C k], V.add hself hn (by omega) fun o ho => ?_, ?_⟩
      · obtain ⟨x, hx, rfl⟩ := V.sub o ho
        refine and_zero_of fun z h1 h2 => ?_
        rw [hC k (by omega)] at h1
        rw [hC x (by omega)] at h2
        exact hno x hx (h2.2.symm.trans h1.2)
      · rw [List.map_append, e, List.map_singleton, toldL, if_neg]
        · congr 2
          unfold mL
          rw [tdL_cut (n := n) (fun y hy => by
            cases h2 : (C k).testBit y with
            | false => rfl
            | true => have := ((hC k (by omega) y).1 h2).1; omega) 10 hn]
          refine tdL_congr fun y hy => ?_
          rw [Bool.eq_iff_iff, hC k (by omega)]
          unfold pkB
          rw [decide_eq_true_iff]
          constructor
          · rintro ⟨_, h2⟩
            refine ⟨?_, h2⟩
            rcases Nat.lt_or_ge y k with h3 | h3
            · exact absurd h2 (hno y h3)
            · exact h3
          · exact fun h2 => ⟨hy, h2.2⟩
        · unfold dnB
          rw [decide_eq_true_iff]
          exact fun ⟨_, j, hj, hf⟩ => hno j hj hf
section
variable {n : Nat} {t : Nat → Nat → Nat} (hl : Loo n t) {s : Nat} (hsl : s < 1024) (hsb : ∀ i, s.testBit i = true → i < n)
include hl hsb
/-- The cosets of a normal subloop are the classes of its congruence. -/
theorem cs_cng (hnm : norM n t s = s) {x : Nat} (hx : x < n) (y : Nat) : (csM n t s x).testBit y = true ↔ y < n ∧ Cng n t s x y := by
  have hN := (norM_self hl hsb).1 hnm
  rw [csM_mem hl hsb hx]
  constructor
  · rintro ⟨i, hi, rfl⟩
    have h := (Cng.base (n := n) (t := t) i hi).mulL x hx
    rw [hl.zr x hx] at h
    exact ⟨hl.lt hx (hsb i hi), h⟩
  · rintro ⟨_, h⟩
    obtain ⟨i, _, hi, rfl⟩ := nrm_cng hl hsb hN (fun i hi => hi) h
    exact ⟨i, hi, rfl⟩
theorem quo_classes (hnm : norM n t s = s) {f : Nat → Nat} (hf : ∀ x y, x < n → y < n → (f x = f y ↔ Cng n t s x y)) : ∃ out, Cos (csM n t s) n out ∧ out.map mL = toldL f n n :=
  cos_told (by have := hl.sq.hi; omega) (fun x hx y => by
    rw [cs_cng hl hsb hnm hx]
    exact ⟨fun h => ⟨h.1, ((hf x y hx h.1).2 h.2).symm⟩, fun h => ⟨h.1, (hf x y hx h.1).1 h.2.symm⟩⟩) n (Nat.le_refl n)
omit hsb in
theorem cos_prt (h0 : s.testBit 0 = true) {out : List Nat} (V : Cos (csM n t s) n out) : Prt n (out.map mL) where
  pos := by rw [List.length_map]; exact List.length_pos_of_mem (V.all 0 hl.pos)
  len := by rw [List.length_map]; exact V.len
  mem := fun l h => by
    obtain ⟨o, ho, rfl⟩ := List.mem_map.1 h
    obtain ⟨x, hx, rfl⟩ := V.sub o ho
    have hlt := csM_lt n t s x
    exact ⟨List.length_pos_of_mem ((mL_mem hlt).2 (csM_self hl h0 hx)), mL_le _, fun y hy => csM_n hl ((mL_mem hlt).1 hy)⟩
  dis := by
    refine List.pairwise_map.2 (V.dis.imp_of_mem fun {a b} ha hb h x hx hx2 => ?_)
    obtain ⟨y, _, rfl⟩ := V.sub a ha
    obtain ⟨z, _, rfl⟩ := V.sub b hb
    have := and_zero h ((mL_mem (csM_lt ..)).1 hx)
    rw [(mL_mem (csM_lt ..)).1 hx2] at this; cases this
end
/-- The classes of a normal subloop. -/
noncomputable def quL (n : Nat) (t : Nat → Nat → Nat) (s : Nat) : List (List Nat) := match cosTo (csM n t s) n with
  | none => []
  | some out => out.map mL
theorem quL_some {n : Nat} {t : Nat → Nat → Nat} {s : Nat} {out : List Nat} (h : cosTo (csM n t s) n = some out) : quL n t s = out.map mL := by unfold quL; rw [h]
/-- A congruence tells the same classes whatever names they have. -/
theorem quo_ex {n : Nat} {t : Nat → Nat → Nat} (hl : Loo n t) {s : Nat} (hsb : ∀ i, s.testBit i = true → i < n) (hnm : norM n t s = s) : ∃ out, Cos (csM n t s) n out := by
  have hc : ∀ x y, x < n → y < n → (csM n t s x = csM n t s y ↔ Cng n t s x y) := fun x y hx hy => by
    constructor
    · intro e
      have h := (cs_cng hl hsb hnm hx y).1 (by rw [e]; exact (cs_cng hl hsb hnm hy y).2 ⟨hy, .refl y hy⟩)
      exact h.2
    · intro h
      refine mask_ext fun z => ?_
      rw [cs_cng hl hsb hnm hx, cs_cng hl hsb hnm hy]
      exact ⟨fun h2 => ⟨h2.1, h.symm.trans h2.2⟩, fun h2 => ⟨h2.1, h.trans h2.2⟩⟩
  obtain ⟨out, V, _⟩ := quo_classes hl hsb hnm hc
  exact ⟨out, V⟩

/-! ### The walk -/
def u8N (l : List Nat) : List Value := l.map fun (b : Nat) => .int .u8 (b : Int)
theorem u8N_app (l : List Nat) (x : Nat) : u8N (l ++ [x]) = u8N l ++ [.int .u8 (x : Int)] := by simp [u8N]
theorem u8N_len (l : List Nat) : (u8N l).length = l.length := by simp [u8N]
theorem und_slb : Tryd.prog.underlying 68 = some (.slice 5) := by kernel_rfl
theorem inf_elb : (Tryd.prog.info? 5).map (fun i => (i.zero, i.size, i.bytes)) = some (some (.int .u8 0), 1, 1) := by kernel_rfl
theorem bsl_u0 (w : World) : (Instr.buildSlice 68 0 [].toArray).run Tryd.prog w = .ok (.slice (some ⟨w.heap.size, 0, none⟩) 0 0) (w.alloc (.cells #[] 5)) := by kernel_rfl
theorem bsl_u1 (x : Int) (w : World) : (Instr.buildSlice 68 1 [(0, Value.int .u8 x)].toArray).run Tryd.prog w = .ok (.slice (some ⟨w.heap.size, 0, none⟩) 1 1) (w.alloc (.cells #[.int .u8 x] 5)) := by kernel_rfl
theorem flat_b1 (x : Int) : flat #[.int .u8 x] := by intro v hv; simp at hv; subst hv; rfl
theorem zero_slI (w : World) : (zeroValue 26).run Tryd.prog w = .ok (.slice none 0 0) w := by kernel_rfl
theorem zero_slB (w : World) : (zeroValue 68).run Tryd.prog w = .ok (.slice none 0 0) w := by kernel_rfl
/-- The address that a slice begins at. -/
def hdP : Value → Value
  | .slice p _ _ => .pointer p
  | _ => undef
def qu11R : Nat → List Nat
  | 0 => []
  | 1 => []
  | 2 => [1]
  | 3 => [1, 2]
  | 4 => [1, 2, 3]
  | 5 => [1, 2, 3, 4]
  | 6 => [1, 2, 3, 4, 5]
  | 7 => [0, 1, 2, 3, 4, 5, 6]
  | 8 => [0, 1, 2, 3, 4, 5, 6, 7]
  | _ => []
def qu11P (pl : Option Addr) (k cl c h : Nat) (l hs : List Nat) (b9 B0 : Nat) : Nat → (Nat → Bool) → (Nat → Value) → List Ent → Prop
  | 0, _, g, E => g 0 = .slice pl k cl ∧ E = []
  | 1, _, g, E => g 1 = .int .i64 (c : Int) ∧ E = []
  | 2, _, g, E => True ∧ E = [.row B0 (g 2) l.length (i64N l) 2 1]
  | 3, _, g, E => g 3 = hdP (g 2) ∧ E = []
  | 4, _, g, E => g 4 = .int .i64 (h : Int) ∧ E = []
  | 5, _, g, E => g 5 = .int .u8 (h : Int) ∧ E = []
  | 6, _, g, E => ∃ bi, g 6 = .slice (some ⟨bi, 0, none⟩) 1 1 ∧ E = [.box bi #[.int .u8 (h : Int)] 5]
  | 7, _, g, E => E = []
  | 8, _, g, E => E = []
  | 9, D, g, E => (D 8 = true ∧ E = [.row B0 (g 7) (k + 1) (u8N hs ++ [Value.int .u8 (h : Int)]) 5 1, .box b9 #[g 7] 68]) ∨ (D 8 = false ∧ D 7 = true ∧ E = [.row B0 (g 7) (k + 1) (u8N hs ++ [Value.int .u8 (h : Int)]) 5 1, .box b9 #[.slice pl k cl] 68]) ∨ (D 8 = false ∧ D 7 = false ∧ E = [.row B0 (.slice pl k cl) k (u8N hs) 5 1, .box b9 #[.slice pl k cl] 68])
  | _, _, _, _ => False
def qu11W (j : Nat) : List Nat := if j = 9 then [0, 7, 8] else []
theorem qu11S (pl : Option Addr) (k cl c h : Nat) (l hs : List Nat) (b9 B0 : Nat) : Stable (qu11P pl k cl c h l hs b9 B0) qu11R qu11W := fun i k D g u E hki hkR hkW h => by
  match i with
  | 0 =>
    have e0 : updG g k u 0 = g 0 := updG_ne (g := g) (u := u) (Ne.symm hki)
    simp only [qu11P, e0]; exact h
  | 1 =>
    have e1 : updG g k u 1 = g 1 := updG_ne (g := g) (u := u) (Ne.symm hki)
    simp only [qu11P, e1]; exact h
  | 2 =>
    have e2 : updG g k u 2 = g 2 := updG_ne (g := g) (u := u) (Ne.symm hki)
    simp only [qu11P, e2]; exact h
  | 3 =>
    have e3 : updG g k u 3 = g 3 := updG_ne (g := g) (u := u) (Ne.symm hki)
    have e2 : updG g k u 2 = g 2 := updG_ne (g := g) (u := u) (i := k) (j := 2) (fun e => hkR (by rw [← e]; decide))
    simp only [qu11P, e3, e2]; exact h
  | 4 =>
    have e4 : updG g k u 4 = g 4 := updG_ne (g := g) (u := u) (Ne.symm hki)
    simp only [qu11P, e4]; exact h
  | 5 =>
    have e5 : updG g k u 5 = g 5 := updG_ne (g := g) (u := u) (Ne.symm hki)
    simp only [qu11P, e5]; exact h
  | 6 =>
    have e6 : updG g k u 6 = g 6 := updG_ne (g := g) (u := u) (Ne.symm hki)
    simp only [qu11P, e6]; exact h
  | 7 =>
    simp only [qu11P, ]; exact h
  | 8 =>
    simp only [qu11P, ]; exact h
  | 9 =>
    have hkW' : k ∉ ([0, 7, 8] : List Nat) := hkW
    simp only [List.mem_cons, List.not_mem_nil, or_false, not_or] at hkW'
    have e0 : updG g k u 0 = g 0 := updG_ne (by omega)
    have d0 : updD D k 0 = D 0 := updD_ne (by omega)
    have e7 : updG g k u 7 = g 7 := updG_ne (by omega)
    have d7 : updD D k 7 = D 7 := updD_ne (by omega)
    have e8 : updG g k u 8 = g 8 := updG_ne (by omega)
    have d8 : updD D k 8 = D 8 := updD_ne (by omega)
    simp only [qu11P, e0, d0, e7, d7, e8, d8]; exact h
  | n + 10 => exact h.elim

theorem Mm.rowRdN {D : Nat → Prop} {w0 w : World} {L : List Ent} (M : Mm D w0 w L) (i : Nat) {B g n cap e : Nat} {xs : List Value} (hi : L[i]? = some (.row B (.slice (some ⟨g, 0, none⟩) n cap) n xs e 1)) (f : Nat → Value) (hn : 0 < n) (hf : ∀ j, j < n → xs.getD j undef = f j) : Mm D w0 w (L.set i (.rd g n f)) := by
  obtain ⟨g', cap', e, hB, ho, hr⟩ := own_rds (M.row i hi) (by omega)
  cases e
  exact M.set i hi (.refl no w) (fun _ h => h.elim) (fun _ _ h => h.elim) (y := .rd g n f) ⟨hr.lt, fun j hj => by rw [hr.at_ j (by omega), hf j hj]⟩ fun k h => .inl (by cases h; exact ho)
theorem results_part2 {P : Program} {fn : Func} {p q : Tmp} {ty : TypeId} (h : fn.results = #[.cell p ty, .tmp q]) (tmps : Array Value) (w : World) (b off : Nat) (part : Array Value) (d : TypeDesc)
    (hp : tmps.getD p undef = .pointer (some ⟨b, off, none⟩)) (hu : P.underlying ty = some d) (hd : (match d with | .struct _ | .array _ _ => true | _ => false) = true) (hi : (P.info? ty).map (·.size) = some part.size)
    (hc : ∀ j v, part[j]? = some v → w.cell? ⟨b, off + j, none⟩ = some v) (v : Value) (hv : tmps.getD q undef = v) :
    (results fn tmps).run P w = .ok (.tuple #[.agg part, v]) w := by
  have hp' : tmps[p]?.getD undef = .pointer (some ⟨b, off, none⟩) := by simpa using hp
  have hv' : tmps[q]?.getD undef = v := by simpa using hv
  simp [results, h, hp', hv', asAddr, run_load_part w b off ty part d hu hd hi hc]
theorem results_part3 {P : Program} {fn : Func} {p q r : Tmp} {ty : TypeId} (h : fn.results = #[.cell p ty, .tmp q, .tmp r]) (tmps : Array Value) (w : World) (b off : Nat) (part : Array Value) (d : TypeDesc)
    (hp : tmps.getD p undef = .pointer (some ⟨b, off, none⟩)) (hu : P.underlying ty = some d) (hd : (match d with | .struct _ | .array _ _ => true | _ => false) = true) (hi : (P.info? ty).map (·.size) = some part.size)
    (hc : ∀ j v, part[j]? = some v → w.cell? ⟨b, off + j, none⟩ = some v) (v u : Value) (hv : tmps.getD q undef = v) (hu2 : tmps.getD r undef = u) :
    (results fn tmps).run P w = .ok (.tuple #[.agg part, v, u]) w := by
  have hp' : tmps[p]?.getD undef = .pointer (some ⟨b, off, none⟩) := by simpa using hp
  have hv' : tmps[q]?.getD undef = v := by simpa using hv
  have hu' : tmps[r]?.getD undef = u := by simpa using hu2
  simp [results, h, hp', hv', hu', asAddr, run_load_part w b off ty part d hu hd hi hc]
/-- A store floats. -/
def StO (bo : Nat) (c0 c1 : Array Value) (ty : Nat) : List Value → List Ent → Prop
  | [], Lg => Lg = [.box bo c0 ty]
  | _ :: _, Lg => Lg = [.box bo c1 ty]
/-- What quotient hands back. -/
def QoPost (n : Nat) (t : Nat → Nat → Nat) (L : List (List Nat)) (w : World) (e : Ending) (w' : World) : Prop :=
  ∃ v, e = .returned (.tuple #[.agg (sqs (L.length : Int) (filT L.length (quT L t) (L.length * L.length))), v]) ∧ Mm no w w' [.row w.heap.size v n (i64N ((List.range n).map (prT L L.length))) 2 1]

set_option maxRecDepth 100000 in
set_option maxHeartbeats 8000000 in
theorem quotient_any (n : Nat) (t : Nat → Nat → Nat) (hl : Loo n t) (s : Nat) (hsl : s < 1024) (h0 : s.testBit 0 = true) (out : List Nat) (hout : cosTo (csM n t s) n = some out) (P : Prt n (out.map mL)) (hm : ∀ o ∈ out, o < 1024) (w : World) (hg : glbT w) :
    Calls Tryd.prog 31 #[.agg (sqs (n : Int) t), .int .i64 (s : Int)] w (QoPost n t (out.map mL) w) := by
  have M := Mm.start no w
  have hs := hl.sq
  have hn : n ≤ 10 := by have := hs.hi; omega
  have h1 := hl.pos
  have hn' : (n : Int) ≤ 10 := by omega
  have so := sqs_order (n : Int) t
  have HG := Hid2.mk (fun w1 (hb : Below w.heap.size w w1) => hg.later hb)
  have HCO := Hid2.mk (fun w1 (hb : Below w.heap.size w w1) => show Calls Tryd.prog 25 #[.agg (sqs (n : Int) t), .int .i64 (s : Int)] w1 fun e w' => ∃ v, e = .returned (.tuple #[v, .bool true]) ∧ Mm no w1 w' [.row w1.heap.size v out.length (i64N out) 49 1] from (cosets_any n t hl s hsl h0 w1 (hg.later hb)).mono fun e w' h => by
    rcases h with ⟨h, _⟩ | ⟨o2, v, h, h1, h2⟩
    · rw [hout] at h; cases h
    · rw [hout] at h; cases h; exact ⟨v, h1, h2⟩)
  have HLI := Hid2.mk (fun m (hm : m < 1024) w1 => list_anyD m hm w1)
  have HFN := Hid2.mk (fun x y b8 bq b9 gp gl c8 c9 hx hy w1 M1 => quotFn_any n t hl (out.map mL) P x y b8 bq b9 gp gl c8 c9 hx hy w1 M1)
  have HP := Hid2.mk P
  have HMO := Hid2.mk hm
  have hlen := P.len
  have hpos := P.pos
  rw [List.length_map] at hlen hpos
  clear hg hs hl hsl h0 hout hm P
  go_enter Tryd.func31, Tryd.ntmps31
  go_wp2_with (first | ((with_reducible apply wpM_box' M 32 (sqs (n : Int) t)); rfl; exact ⟨rfl, rfl⟩; clear M; (try clear C); intro bq w9 h_bq M; have C := M.ruleAll; simp only [Go.Proofs.YteonahoboligdaaDoor.ruleAll] at C) | ((with_reducible apply wpM_alloc' M 32 (sqs 0 fun _ _ => 0)); rfl; exact ⟨rfl, _, zero_sqs _, rfl⟩; clear M; (try clear C); intro bo w9 h_bo M; have C := M.ruleAll; simp only [Go.Proofs.YteonahoboligdaaDoor.ruleAll] at C) | ((with_reducible apply wpM_lda' M 1 32 0 (sqs (n : Int) t)); rfl; rfl; rfl; exact ⟨rfl, inf_sqs.trans (congrArg some (sqs_size ..).symm), _, und_sqs, rfl⟩; exact whole_of rfl) | (go_at_call 25; fail))
  refine (HCO.out _ M.below).mono ?_
  rintro e w1 ⟨v, rfl, M'⟩
  have M9 : Mm no w w1 [.row w.heap.size v out.length (i64N out) 49 1, .box bo (sqs 0 fun _ _ => 0) 32, .box bq (sqs (n : Int) t) 32] := M.joinRow M'
  obtain ⟨gc, cc, e, -, -, -⟩ := own_rds (M9.row 0 rfl) (by omega)
  cases e
  clear M; (try clear C)
  have M := M9
  clear M9 M'
  have C := M.ruleAll; simp only [Go.Proofs.YteonahoboligdaaDoor.ruleAll] at C
  have hz1 := zero_slI
  have hz2 := zero_slB
  go_wp2_with (first | ((with_reducible apply wpM_make' M 26 2 1 8 (.int .i64 0) (n)); rfl; rfl; rfl; rfl; exact und_sl64; exact inf_el64; omega; omega; clear M; (try clear C); intro gp w9 h_gp M; have C := M.ruleAll; simp only [Go.Proofs.YteonahoboligdaaDoor.ruleAll] at C) | ((with_reducible apply wpM_bsl' M 68 0 5 ([]) (#[])); rfl; rfl; rfl; exact bsl_u0; clear M; (try clear C); intro gl w9 h_gl M; have C := M.ruleAll; simp only [Go.Proofs.YteonahoboligdaaDoor.ruleAll] at C) | ((with_reducible apply wpM_alloc' M 26 (#[.slice none 0 0])); rfl; exact ⟨rfl, _, zero_slI _, rfl⟩; clear M; (try clear C); intro b8 w9 h_b8 M; have C := M.ruleAll; simp only [Go.Proofs.YteonahoboligdaaDoor.ruleAll] at C) | ((with_reducible apply wpM_alloc' M 68 (#[.slice none 0 0])); rfl; exact ⟨rfl, _, zero_slB _, rfl⟩; clear M; (try clear C); intro b9 w9 h_b9 M; have C := M.ruleAll; simp only [Go.Proofs.YteonahoboligdaaDoor.ruleAll] at C) | ((with_reducible apply wpM_st' M 1 26 (0) (#[.slice (some ⟨gp, 0, none⟩) n n])); rfl; rfl; rfl; (first | exact .inl (by assumption) | exact .inr rfl | exact .inr (by assumption)); exact ⟨rfl, rfl, by kernel_rfl⟩; exact Nat.zero_lt_one; exact rfl; clear M; (try clear C); intro w9 M; simp only [List.set_cons_zero, List.set_cons_succ, entBlk, entT, List.getElem?_cons_zero, List.getElem?_cons_succ] at M; have C := M.ruleAll; simp only [Go.Proofs.YteonahoboligdaaDoor.ruleAll] at C) | ((with_reducible apply wpM_st' M 0 68 (0) (#[.slice (some ⟨gl, 0, none⟩) 0 0])); rfl; rfl; rfl; (first | exact .inl (by assumption) | exact .inr rfl | exact .inr (by assumption)); exact ⟨rfl, rfl, by kernel_rfl⟩; exact Nat.zero_lt_one; exact rfl; clear M; (try clear C); intro w9 M; simp only [List.set_cons_zero, List.set_cons_succ, entBlk, entT, List.getElem?_cons_zero, List.getElem?_cons_succ] at M; have C := M.ruleAll; simp only [Go.Proofs.YteonahoboligdaaDoor.ruleAll] at C))
  clear hz1 hz2
  have M9 : Mm no w _ [.row w.heap.size (.slice (some ⟨gl, 0, none⟩) 0 0) 0 (u8N []) 5 1, .box b9 #[.slice (some ⟨gl, 0, none⟩) 0 0] 68, .box gp (nC n fun _ => 0) 2, .box b8 #[.slice (some ⟨gp, 0, none⟩) n n] 26, .row w.heap.size (.slice (some ⟨gc, 0, none⟩) out.length cc) out.length (i64N out) 49 1, .box bq (sqs (n : Int) t) 32, .box bo (sqs 0 fun _ _ => 0) 32] := ((M.asRow 2 rfl w.heap.size 0 1 h_gl rfl (Nat.zero_le _)).sub [2, 0, 3, 1, 4, 6, 5] (by decide)).eq (by rw [made_nC]; rfl)
  clear M; (try clear C)
  have HLK : Hid2 (∀ (k : Nat) (o : Nat), out[k]? = some o → (out.map mL)[k]? = some (mL o)) := ⟨fun k o h => by rw [List.getElem?_map, h]; rfl⟩
  have HLL := Hid2.mk (show (out.map mL).length = out.length from List.length_map ..)
  have HLT := Hid2.mk (fun m x (h : x ∈ mL m) => mL_lt h)
  generalize out.map mL = L at *
  have HR : Hid2 (∀ N v w', N = L.length → Mm no w w' [.row w.heap.size v n (i64N ((List.range n).map (prT L N))) 2 1] → QoPost n t L w (.returned (.tuple #[.agg (sqs (N : Int) (filT N (quT L t) (N * N))), v])) w') := ⟨fun N v w' h M => by subst h; exact ⟨v, rfl, M⟩⟩
  go_loopw [26, 34, 10, 11, 13] (fun i _ _ _ _ wr => ∃ (k : Nat) (pl : Option Addr) (cl : Nat) (hs : List Nat), k ≤ out.length ∧ i = .int .i64 (k : Int) ∧ Hid2 (hs = (List.range k).map (hdL L)) ∧ Mm no w wr [.row w.heap.size (.slice pl k cl) k (u8N hs) 5 1, .box b9 #[.slice pl k cl] 68, .box gp (nC n (prT L k)) 2, .box b8 #[.slice (some ⟨gp, 0, none⟩) n n] 26, .row w.heap.size (.slice (some ⟨gc, 0, none⟩) out.length cc) out.length (i64N out) 49 1, .box bq (sqs (n : Int) t) 32, .box bo (sqs 0 fun _ _ => 0) 32]) (fun i _ _ _ _ _ => out.length - (intOf i).toNat)
  case atStart => exact ⟨0, _, _, [], by omega, rfl, ⟨rfl⟩, M9.eq (by rw [prT_zero])⟩
  case round =>
    clear M9
    obtain ⟨k, pl, cl, hs, hk, rfl, HHS, M9⟩ := hrel
    have M := M9
    clear M9
    by_cases hlt : k < out.length
    · have hlt' : (k : Int) < (out.length : Int) := by omega
      have dlt : decide ((k : Int) < (out.length : Int)) = true := decide_eq_true hlt'
      have e1 := List.getElem?_eq_getElem hlt
      have hc := HMO.out _ (List.getElem_mem hlt)
      have hd1 := World.ownsRow.cellAt (M.row 4 rfl) k (by omega)
      rw [i64N_get e1] at hd1
      have hLk := HLK.out k _ e1
      generalize out[k] = c at *
      have HLI1 := Hid2.mk (HLI.out c hc)
      have HLT1 := Hid2.mk (HLT.out c)
      have hc' : (c : Int) < 1024 := by omega
      generalize mL c = l at *
      have hmem := HP.out.mem l (List.mem_of_getElem? hLk)
      have hlpos := hmem.1
      have hl10 := hmem.2.1
      have HXN := Hid2.mk hmem.2.2
      have HJ0 := Hid2.mk (prJ_zero L k l)
      have HJS := Hid2.mk (fun j x (h : l[j]? = some x) => prJ_set (n := n) (L := L) (k := k) h)
      have HJA := Hid2.mk (prJ_all HP.out hLk)
      have hh := hdL_at hLk
      rw [if_neg (by omega)] at hh
      have HH0 := Hid2.mk hh
      have HHD := Hid2.mk (show (List.range (k + 1)).map (hdL L) = (List.range k).map (hdL L) ++ [hdL L k] by rw [List.range_succ, List.map_append]; rfl)
      have hk10 : (k : Int) ≤ 10 := by omega
      clear e1 hmem hLk hh
      generalize hdL L k = h at *
      have hhl : h < 10 := HLT1.out h (List.mem_of_getElem? HH0.out)
      have C := M.ruleAll; simp only [Go.Proofs.YteonahoboligdaaDoor.ruleAll] at C
      go_wp2_with (first | (go_at_call 48; fail))
      refine (HLI1.out _).mono ?_
      rintro e w2 ⟨v2, rfl, -, M'⟩
      have M9 := M.joinRow M'
      obtain ⟨g2, c2, e, -, -, -⟩ := own_rds (M9.row 0 rfl) (by omega)
      cases e
      clear M; (try clear C)
      clear M' dlt hd1
      have hz0 : (k : Int) < 256 := by omega
      go_wp2
      go_loopw [34, 13] (fun i _ wr => ∃ j : Nat, j ≤ l.length ∧ i = .int .i64 (j : Int) ∧ Mm no w wr [.row w.heap.size (.slice (some ⟨g2, 0, none⟩) l.length c2) l.length (i64N l) 2 1, .row w.heap.size (.slice pl k cl) k (u8N hs) 5 1, .box b9 #[.slice pl k cl] 68, .box gp (nC n (prJ L k l j)) 2, .box b8 #[.slice (some ⟨gp, 0, none⟩) n n] 26, .row w.heap.size (.slice (some ⟨gc, 0, none⟩) out.length cc) out.length (i64N out) 49 1, .box bq (sqs (n : Int) t) 32, .box bo (sqs 0 fun _ _ => 0) 32]) (fun i _ _ => l.length - (intOf i).toNat)
      case atStart => exact ⟨0, by omega, rfl, M9.eq (by rw [HJ0.out])⟩
      case round =>
        clear M9 HJ0
        obtain ⟨j, hj, rfl, M9⟩ := hrel
        have M := M9
        clear M9
        by_cases hjl : j < l.length
        · have hjl' : (j : Int) < (l.length : Int) := by omega
          have e1 := List.getElem?_eq_getElem hjl
          have hx := HXN.out _ (List.getElem_mem hjl)
          have hd1 := World.ownsRow.cellAt (M.row 0 rfl) j (by omega)
          rw [i64N_get e1] at hd1
          have HS := Hid2.mk (HJS.out j _ e1)
          clear e1
          generalize l[j] = x at *
          have hxn : (x : Int) < (n : Int) := by omega
          have C := M.ruleAll; simp only [Go.Proofs.YteonahoboligdaaDoor.ruleAll] at C
          go_wp2_with (first | ((with_reducible apply wpM_st' M 3 2 (x) (nC n (prJ L k l (j + 1)))); rfl; rfl; rfl; (first | exact .inl (by assumption) | exact .inr rfl | exact .inr (by assumption)); exact ⟨rfl, rfl, by kernel_rfl⟩; (exact Nat.lt_of_lt_of_eq (by omega) (nC_size _ _).symm); exact HS.out; clear M; (try clear C); intro w9 M; simp only [List.set_cons_zero, List.set_cons_succ, entBlk, entT, List.getElem?_cons_zero, List.getElem?_cons_succ] at M; have C := M.ruleAll; simp only [Go.Proofs.YteonahoboligdaaDoor.ruleAll] at C))
          go_roundw
          case rel => exact ⟨j + 1, by omega, by go_num, M⟩
          case measure => simp [intOf]; omega
        · obtain rfl : j = l.length := by omega
          have hge : ¬ ((l.length : Int) < (l.length : Int)) := by omega
          generalize hf : prT L (k + 1) = f at *
          have HF := Hid2.mk hf
          clear hf hge
          have HH := HH0
          have C := M.ruleAll; simp only [Go.Proofs.YteonahoboligdaaDoor.ruleAll] at C
          go_wp2
          have M8 : Mm no w wr ([.row w.heap.size (.slice pl k cl) k (u8N hs) 5 1, .box b9 #[.slice pl k cl] 68] ++ [.box gp (nC n f) 2, .box b8 #[.slice (some ⟨gp, 0, none⟩) n n] 26, .row w.heap.size (.slice (some ⟨gc, 0, none⟩) out.length cc) out.length (i64N out) 49 1, .box bq (sqs (n : Int) t) 32, .box bo (sqs 0 fun _ _ => 0) 32]) := (M.drop 0).eq (by rw [HJA.out]; rfl)
          refine wp_region_own (fun D g w' => GrS 10 (qu11P pl k cl c h l hs b9 w.heap.size) qu11R w [.box gp (nC n f) 2, .box b8 #[.slice (some ⟨gp, 0, none⟩) n n] 26, .row w.heap.size (.slice (some ⟨gc, 0, none⟩) out.length cc) out.length (i64N out) 49 1, .box bq (sqs (n : Int) t) 32, .box bo (sqs 0 fun _ _ => 0) 32] (psD 9 D) g w') (by kernel_rfl) (by kernel_rfl) (fun _ => undef) (GrS.start2 (E0 := [.row w.heap.size (.slice pl k cl) k (u8N hs) 5 1, .box b9 #[.slice pl k cl] 68]) (by decide) rfl (M8) _ (.inr (.inr ⟨rfl, rfl, rfl⟩))) ?hs_qu11 ?hQ_qu11
          case hs_qu11 =>
            clear M
            try clear C
            intro i o hi D g w2 hi0 hpre S
            have hlt : i < 9 := by have := (List.getElem?_eq_some_iff.1 hi).1; simpa using this
            obtain rfl | rfl | rfl | rfl | rfl | rfl | rfl | rfl | rfl : i = 0 ∨ i = 1 ∨ i = 2 ∨ i = 3 ∨ i = 4 ∨ i = 5 ∨ i = 6 ∨ i = 7 ∨ i = 8 := by omega
            · simp only [List.getElem?_cons_succ, List.getElem?_cons_zero, Option.some.injEq] at hi
              subst hi
              have M := S.base
              have HI0 : psD 9 D 0 = false := (psD_ne (by decide)).trans hi0
              clear hi0
              have hi0 := HI0
              have HR : ∀ j ∈ qu11R 0, psD 9 D j = true := (fun _ h => by cases h)
              have HW : ∀ j, psD 9 D j = true → j ≠ 9 → 0 ∉ qu11W j := fun j _ hne h => by unfold qu11W at h; rw [if_neg hne] at h; cases h
              have hst := qu11S pl k cl c h l hs b9 w.heap.size
              clear M
              obtain ⟨E', X, P, M, FIN⟩ := S.writeK (i := 0) hst (by decide) hi0 HR HW (psD_at ..) [] (by decide) (by intro j hj; cases hj)
              have P0 := P 9 (by decide)
              obtain E9 : E' 9 = [.row w.heap.size (.slice pl k cl) k (u8N hs) 5 1, .box b9 #[.slice pl k cl] 68] := by
                rcases P0 with ⟨h, _⟩ | ⟨_, h, _⟩ | ⟨_, _, h⟩
                · have := S.anc 8 h 0 (by decide); rw [hi0] at this; cases this
                · have := S.anc 7 h 0 (by decide); rw [hi0] at this; cases this
                · exact h
              have h7 : psD 9 D 7 = false := by
                cases e : psD 9 D 7 with
                | false => rfl
                | true => have := S.anc 7 e 0 (by decide); rw [hi0] at this; cases this
              have h8 : psD 9 D 8 = false := by
                cases e : psD 9 D 8 with
                | false => rfl
                | true => have := S.anc 8 e 0 (by decide); rw [hi0] at this; cases this
              simp only [E9, List.flatMap_cons, List.flatMap_nil, List.append_nil, List.cons_append, List.nil_append] at M
              clear P
              refine ⟨⟨#[undef, undef, undef, undef, undef, undef, undef, undef, undef, .pointer (some ⟨b9, 0, none⟩), undef, undef, undef, undef, undef, undef, undef, undef, undef, undef, undef, undef, undef, undef, undef, undef, undef, undef, undef, undef, undef, undef, undef, undef, undef, undef, undef, undef, undef, undef, undef, undef, undef, undef, undef, undef, undef, undef, undef, undef, undef, undef, undef, undef, undef, undef, undef], []⟩, ?_, ?_⟩
              · intro t ht
                have ht' : t ∈ ([9] : List Nat) := ht
                simp only [List.mem_cons, List.not_mem_nil, or_false] at ht'
                subst ht'
                exact rfl
              · skip
                simp only [psD_upd]
                refine yield_walk (ops := #[]) rfl rfl (show 43 < 57 by decide) ?_
                have C := M.ruleAll; simp only [Go.Proofs.YteonahoboligdaaDoor.ruleAll] at C
                go_wp2
                exact FIN _ _ [.row w.heap.size (.slice pl k cl) k (u8N hs) 5 1, .box b9 #[.slice pl k cl] 68] M (.inr (.inr ⟨(updD_ne (by decide)).trans h8, (updD_ne (by decide)).trans h7, rfl⟩)) ⟨updG_at .., rfl⟩
            · simp only [List.getElem?_cons_succ, List.getElem?_cons_zero, Option.some.injEq] at hi
              subst hi
              have M := S.base
              have HI0 : psD 9 D 1 = false := (psD_ne (by decide)).trans hi0
              clear hi0
              have hi0 := HI0
              have HR : ∀ j ∈ qu11R 1, psD 9 D j = true := (fun _ h => by cases h)
              have HW : ∀ j, psD 9 D j = true → 1 ∉ qu11W j := fun j _ h => by unfold qu11W at h; split at h <;> simp at h
              have hst := qu11S pl k cl c h l hs b9 w.heap.size
              refine ⟨⟨#[undef, undef, undef, undef, undef, undef, undef, undef, undef, undef, undef, .int .i64 (c : Int), undef, undef, undef, undef, undef, undef, undef, undef, undef, undef, undef, undef, undef, undef, undef, undef, undef, undef, undef, undef, undef, undef, undef, undef, undef, undef, undef, undef, undef, undef, undef, undef, undef, undef, undef, undef, undef, undef, undef, undef, undef, undef, undef, undef, undef], []⟩, ?_, ?_⟩
              · intro t ht
                have ht' : t ∈ ([11] : List Nat) := ht
                simp only [List.mem_cons, List.not_mem_nil, or_false] at ht'
                subst ht'
                exact rfl
              · skip
                simp only [psD_upd]
                have C := M.ruleAll; simp only [Go.Proofs.YteonahoboligdaaDoor.ruleAll] at C
                refine yield_walk (ops := #[]) rfl rfl (show 44 < 57 by decide) ?_
                go_wp2
                exact S.val (i := 1) hst (by decide) hi0 HR HW (Below.refl _ _) ⟨updG_at .., rfl⟩
            · simp only [List.getElem?_cons_succ, List.getElem?_cons_zero, Option.some.injEq] at hi
              subst hi
              have d1 : psD 9 D 1 = true := psD_of (hpre _ (Array.mem_of_getElem? (i := 0) rfl) rfl)
              obtain ⟨E, P, M⟩ := S.get [1] (by decide) (by intro j hj; simp only [List.mem_cons, List.not_mem_nil, or_false] at hj; subst hj <;> assumption)
              obtain ⟨e1, E1⟩ : g 1 = .int .i64 (c : Int) ∧ E 1 = [] := P 1 (by decide)
              simp only [List.flatMap_cons, List.flatMap_nil, List.append_nil, E1, List.cons_append, List.nil_append] at M
              clear P
              have HI0 : psD 9 D 2 = false := (psD_ne (by decide)).trans hi0
              clear hi0
              have hi0 := HI0
              have HR : ∀ j ∈ qu11R 2, psD 9 D j = true := (by intro j hj; have hj' : j ∈ ([1] : List Nat) := hj; simp only [List.mem_cons, List.not_mem_nil, or_false] at hj'; subst hj' <;> assumption)
              have HW : ∀ j, psD 9 D j = true → 2 ∉ qu11W j := fun j _ h => by unfold qu11W at h; split at h <;> simp at h
              have hst := qu11S pl k cl c h l hs b9 w.heap.size
              refine ⟨⟨#[undef, undef, undef, undef, undef, undef, undef, undef, undef, undef, undef, undef, undef, undef, undef, undef, undef, undef, undef, undef, undef, undef, undef, undef, undef, undef, undef, undef, undef, undef, undef, undef, undef, undef, undef, undef, undef, undef, undef, undef, undef, undef, undef, undef, .int .i64 (c : Int), undef, undef, undef, undef, undef, undef, undef, undef, undef, undef, undef, undef], []⟩, ?_, ?_⟩
              · intro t ht
                have ht' : t ∈ ([44] : List Nat) := ht
                simp only [List.mem_cons, List.not_mem_nil, or_false] at ht'
                subst ht'
                exact e1.symm
              · skip
                simp only [psD_upd]
                have C := M.ruleAll; simp only [Go.Proofs.YteonahoboligdaaDoor.ruleAll] at C
                refine yield_walk (ops := #[]) rfl rfl (show 45 < 57 by decide) ?_
                go_wp2_with (first | (go_at_call 48; fail))
                refine (HLI1.out _).mono ?_
                rintro e w1 ⟨v, rfl, -, M'⟩
                go_wp2
                exact S.add (i := 2) hst (by decide) hi0 HR HW (M'.weakRow S.base.size) (new_row1 M') ⟨trivial, by rw [updG_at]⟩
            · simp only [List.getElem?_cons_succ, List.getElem?_cons_zero, Option.some.injEq] at hi
              subst hi
              have d2 : psD 9 D 2 = true := psD_of (hpre _ (Array.mem_of_getElem? (i := 0) rfl) rfl)
              have d1 : psD 9 D 1 = true := S.anc 2 d2 1 (show 1 ∈ qu11R 2 by decide)
              obtain ⟨E, P, M⟩ := S.get [2] (by decide) (by intro j hj; simp only [List.mem_cons, List.not_mem_nil, or_false] at hj; subst hj <;> assumption)
              obtain ⟨e2, E2⟩ : True ∧ E 2 = [.row w.heap.size (g 2) l.length (i64N l) 2 1] := P 2 (by decide)
              simp only [List.flatMap_cons, List.flatMap_nil, List.append_nil, E2, List.cons_append, List.nil_append] at M
              clear P
              have HI0 : psD 9 D 3 = false := (psD_ne (by decide)).trans hi0
              clear hi0
              have hi0 := HI0
              have HR : ∀ j ∈ qu11R 3, psD 9 D j = true := (by intro j hj; have hj' : j ∈ ([1, 2] : List Nat) := hj; simp only [List.mem_cons, List.not_mem_nil, or_false] at hj'; rcases hj' with rfl | rfl <;> assumption)
              have HW : ∀ j, psD 9 D j = true → 3 ∉ qu11W j := fun j _ h => by unfold qu11W at h; split at h <;> simp at h
              have hst := qu11S pl k cl c h l hs b9 w.heap.size
              refine ⟨⟨#[undef, undef, undef, undef, undef, undef, undef, undef, undef, undef, undef, undef, undef, undef, undef, undef, undef, undef, undef, undef, undef, undef, undef, undef, undef, undef, undef, undef, undef, undef, undef, undef, undef, undef, undef, undef, undef, undef, undef, undef, undef, undef, undef, undef, undef, g 2, undef, undef, undef, undef, undef, undef, undef, undef, undef, undef, undef], []⟩, ?_, ?_⟩
              · intro t ht
                have ht' : t ∈ ([45] : List Nat) := ht
                simp only [List.mem_cons, List.not_mem_nil, or_false] at ht'
                subst ht'
                exact rfl
              · skip
                simp only [psD_upd]
                obtain ⟨g2, c2, hg2, -, -, -⟩ := own_rds (M.row 0 rfl) (by omega)
                rw [hg2]
                have HG2 := Hid2.mk hg2
                clear hg2
                have C := M.ruleAll; simp only [Go.Proofs.YteonahoboligdaaDoor.ruleAll] at C
                refine yield_walk (ops := #[]) rfl rfl (show 46 < 57 by decide) ?_
                go_wp2
                exact S.val (i := 3) hst (by decide) hi0 HR HW (Below.refl _ _) ⟨(updG_at ..).trans (by rw [updG_ne (by decide), HG2.out]; rfl), rfl⟩
            · simp only [List.getElem?_cons_succ, List.getElem?_cons_zero, Option.some.injEq] at hi
              subst hi
              have d3 : psD 9 D 3 = true := psD_of (hpre _ (Array.mem_of_getElem? (i := 0) rfl) rfl)
              have d1 : psD 9 D 1 = true := S.anc 3 d3 1 (show 1 ∈ qu11R 3 by decide)
              have d2 : psD 9 D 2 = true := S.anc 3 d3 2 (show 2 ∈ qu11R 3 by decide)
              obtain ⟨E, P, M⟩ := S.get [3, 2] (by decide) (by intro j hj; simp only [List.mem_cons, List.not_mem_nil, or_false] at hj; rcases hj with rfl | rfl <;> assumption)
              obtain ⟨e3, E3⟩ : g 3 = hdP (g 2) ∧ E 3 = [] := P 3 (by decide)
              obtain ⟨e2, E2⟩ : True ∧ E 2 = [.row w.heap.size (g 2) l.length (i64N l) 2 1] := P 2 (by decide)
              simp only [List.flatMap_cons, List.flatMap_nil, List.append_nil, E3, E2, List.cons_append, List.nil_append] at M
              clear P
              have HI0 : psD 9 D 4 = false := (psD_ne (by decide)).trans hi0
              clear hi0
              have hi0 := HI0
              have HR : ∀ j ∈ qu11R 4, psD 9 D j = true := (by intro j hj; have hj' : j ∈ ([1, 2, 3] : List Nat) := hj; simp only [List.mem_cons, List.not_mem_nil, or_false] at hj'; rcases hj' with rfl | rfl | rfl <;> assumption)
              have HW : ∀ j, psD 9 D j = true → 4 ∉ qu11W j := fun j _ h => by unfold qu11W at h; split at h <;> simp at h
              have hst := qu11S pl k cl c h l hs b9 w.heap.size
              refine ⟨⟨#[undef, undef, undef, undef, undef, undef, undef, undef, undef, undef, undef, undef, undef, undef, undef, undef, undef, undef, undef, undef, undef, undef, undef, undef, undef, undef, undef, undef, undef, undef, undef, undef, undef, undef, undef, undef, undef, undef, undef, undef, undef, undef, undef, undef, undef, undef, g 3, undef, undef, undef, undef, undef, undef, undef, undef, undef, undef], []⟩, ?_, ?_⟩
              · intro t ht
                have ht' : t ∈ ([46] : List Nat) := ht
                simp only [List.mem_cons, List.not_mem_nil, or_false] at ht'
                subst ht'
                exact rfl
              · skip
                simp only [psD_upd]
                obtain ⟨g2, c2, hg2, -, -, hr2⟩ := own_rds (M.row 0 rfl) (by omega)
                rw [e3, hg2]
                simp only [hdP]
                have hd0 := World.ownsRow.cellAt (hg2 ▸ M.row 0 rfl) 0 (by omega)
                rw [i64N_get HH.out] at hd0
                clear hr2 hg2
                have C := M.ruleAll; simp only [Go.Proofs.YteonahoboligdaaDoor.ruleAll] at C
                refine yield_walk (ops := #[]) rfl rfl (show 47 < 57 by decide) ?_
                go_wp2
                exact S.val (i := 4) hst (by decide) hi0 HR HW (Below.refl _ _) ⟨updG_at .., rfl⟩
            · simp only [List.getElem?_cons_succ, List.getElem?_cons_zero, Option.some.injEq] at hi
              subst hi
              have d4 : psD 9 D 4 = true := psD_of (hpre _ (Array.mem_of_getElem? (i := 0) rfl) rfl)
              have d1 : psD 9 D 1 = true := S.anc 4 d4 1 (show 1 ∈ qu11R 4 by decide)
              have d2 : psD 9 D 2 = true := S.anc 4 d4 2 (show 2 ∈ qu11R 4 by decide)
              have d3 : psD 9 D 3 = true := S.anc 4 d4 3 (show 3 ∈ qu11R 4 by decide)
              obtain ⟨E, P, M⟩ := S.get [4] (by decide) (by intro j hj; simp only [List.mem_cons, List.not_mem_nil, or_false] at hj; subst hj <;> assumption)
              obtain ⟨e4, E4⟩ : g 4 = .int .i64 (h : Int) ∧ E 4 = [] := P 4 (by decide)
              simp only [List.flatMap_cons, List.flatMap_nil, List.append_nil, E4, List.cons_append, List.nil_append] at M
              clear P
              have HI0 : psD 9 D 5 = false := (psD_ne (by decide)).trans hi0
              clear hi0
              have hi0 := HI0
              have HR : ∀ j ∈ qu11R 5, psD 9 D j = true := (by intro j hj; have hj' : j ∈ ([1, 2, 3, 4] : List Nat) := hj; simp only [List.mem_cons, List.not_mem_nil, or_false] at hj'; rcases hj' with rfl | rfl | rfl | rfl <;> assumption)
              have HW : ∀ j, psD 9 D j = true → 5 ∉ qu11W j := fun j _ h => by unfold qu11W at h; split at h <;> simp at h
              have hst := qu11S pl k cl c h l hs b9 w.heap.size
              refine ⟨⟨#[undef, undef, undef, undef, undef, undef, undef, undef, undef, undef, undef, undef, undef, undef, undef, undef, undef, undef, undef, undef, undef, undef, undef, undef, undef, undef, undef, undef, undef, undef, undef, undef, undef, undef, undef, undef, undef, undef, undef, undef, undef, undef, undef, undef, undef, undef, undef, .int .i64 (h : Int), undef, undef, undef, undef, undef, undef, undef, undef, undef], []⟩, ?_, ?_⟩
              · intro t ht
                have ht' : t ∈ ([47] : List Nat) := ht
                simp only [List.mem_cons, List.not_mem_nil, or_false] at ht'
                subst ht'
                exact e4.symm
              · skip
                simp only [psD_upd]
                have C := M.ruleAll; simp only [Go.Proofs.YteonahoboligdaaDoor.ruleAll] at C
                refine yield_walk (ops := #[]) rfl rfl (show 48 < 57 by decide) ?_
                go_wp2
                exact S.val (i := 5) hst (by decide) hi0 HR HW (Below.refl _ _) ⟨updG_at .., rfl⟩
            · simp only [List.getElem?_cons_succ, List.getElem?_cons_zero, Option.some.injEq] at hi
              subst hi
              have d5 : psD 9 D 5 = true := psD_of (hpre _ (Array.mem_of_getElem? (i := 0) rfl) rfl)
              have d1 : psD 9 D 1 = true := S.anc 5 d5 1 (show 1 ∈ qu11R 5 by decide)
              have d2 : psD 9 D 2 = true := S.anc 5 d5 2 (show 2 ∈ qu11R 5 by decide)
              have d3 : psD 9 D 3 = true := S.anc 5 d5 3 (show 3 ∈ qu11R 5 by decide)
              have d4 : psD 9 D 4 = true := S.anc 5 d5 4 (show 4 ∈ qu11R 5 by decide)
              obtain ⟨E, P, M⟩ := S.get [5] (by decide) (by intro j hj; simp only [List.mem_cons, List.not_mem_nil, or_false] at hj; subst hj <;> assumption)
              obtain ⟨e5, E5⟩ : g 5 = .int .u8 (h : Int) ∧ E 5 = [] := P 5 (by decide)
              simp only [List.flatMap_cons, List.flatMap_nil, List.append_nil, E5, List.cons_append, List.nil_append] at M
              clear P
              have HI0 : psD 9 D 6 = false := (psD_ne (by decide)).trans hi0
              clear hi0
              have hi0 := HI0
              have HR : ∀ j ∈ qu11R 6, psD 9 D j = true := (by intro j hj; have hj' : j ∈ ([1, 2, 3, 4, 5] : List Nat) := hj; simp only [List.mem_cons, List.not_mem_nil, or_false] at hj'; rcases hj' with rfl | rfl | rfl | rfl | rfl <;> assumption)
              have HW : ∀ j, psD 9 D j = true → 6 ∉ qu11W j := fun j _ h => by unfold qu11W at h; split at h <;> simp at h
              have hst := qu11S pl k cl c h l hs b9 w.heap.size
              refine ⟨⟨#[undef, undef, undef, undef, undef, undef, undef, undef, undef, undef, undef, undef, undef, undef, undef, undef, undef, undef, undef, undef, undef, undef, undef, undef, undef, undef, undef, undef, undef, undef, undef, undef, undef, undef, undef, undef, undef, undef, undef, undef, undef, undef, undef, undef, undef, undef, undef, undef, .int .u8 (h : Int), undef, undef, undef, undef, undef, undef, undef, undef], []⟩, ?_, ?_⟩
              · intro t ht
                have ht' : t ∈ ([48] : List Nat) := ht
                simp only [List.mem_cons, List.not_mem_nil, or_false] at ht'
                subst ht'
                exact e5.symm
              · skip
                simp only [psD_upd]
                clear M
                have M := Mm.start no w2
                have C := M.ruleAll; simp only [Go.Proofs.YteonahoboligdaaDoor.ruleAll] at C
                refine yield_walk (ops := #[]) rfl rfl (show 49 < 57 by decide) ?_
                go_wp2_with (first | ((with_reducible apply wpM_bsl' M 68 1 5 ([(0, .int .u8 (h : Int))]) (#[.int .u8 (h : Int)])); rfl; rfl; rfl; exact bsl_u1 _; clear M; (try clear C); intro bi w9 h_bi M; have C := M.ruleAll; simp only [Go.Proofs.YteonahoboligdaaDoor.ruleAll] at C))
                exact S.add (i := 6) hst (by decide) hi0 HR HW M (new_box h_bi) ⟨bi, updG_at .., rfl⟩
            · simp only [List.getElem?_cons_succ, List.getElem?_cons_zero, Option.some.injEq] at hi
              subst hi
              have d0 : psD 9 D 0 = true := psD_of (hpre _ (Array.mem_of_getElem? (i := 0) rfl) rfl)
              have d6 : psD 9 D 6 = true := psD_of (hpre _ (Array.mem_of_getElem? (i := 1) rfl) rfl)
              have d2 : psD 9 D 2 = true := psD_of (hpre _ (Array.mem_of_getElem? (i := 2) rfl) rfl)
              have d1 : psD 9 D 1 = true := S.anc 6 d6 1 (show 1 ∈ qu11R 6 by decide)
              have d3 : psD 9 D 3 = true := S.anc 6 d6 3 (show 3 ∈ qu11R 6 by decide)
              have d4 : psD 9 D 4 = true := S.anc 6 d6 4 (show 4 ∈ qu11R 6 by decide)
              have d5 : psD 9 D 5 = true := S.anc 6 d6 5 (show 5 ∈ qu11R 6 by decide)
              obtain ⟨E, P, M⟩ := S.get [0] (by decide) (by intro j hj; simp only [List.mem_cons, List.not_mem_nil, or_false] at hj; subst hj <;> assumption)
              obtain ⟨e0, E0⟩ : g 0 = .slice pl k cl ∧ E 0 = [] := P 0 (by decide)
              simp only [List.flatMap_cons, List.flatMap_nil, List.append_nil, E0, List.cons_append, List.nil_append] at M
              clear P
              have HI0 : psD 9 D 7 = false := (psD_ne (by decide)).trans hi0
              clear hi0
              have hi0 := HI0
              have HR : ∀ j ∈ qu11R 7, psD 9 D j = true := (by intro j hj; have hj' : j ∈ ([0, 1, 2, 3, 4, 5, 6] : List Nat) := hj; simp only [List.mem_cons, List.not_mem_nil, or_false] at hj'; rcases hj' with rfl | rfl | rfl | rfl | rfl | rfl | rfl <;> assumption)
              have HW : ∀ j, psD 9 D j = true → j ≠ 9 → 7 ∉ qu11W j := fun j _ hne h => by unfold qu11W at h; rw [if_neg hne] at h; cases h
              have hst := qu11S pl k cl c h l hs b9 w.heap.size
              clear M
              obtain ⟨E', X, P, M, FIN⟩ := S.writeK (i := 7) hst (by decide) hi0 HR HW (psD_at ..) [6] (by decide) (by intro j hj; simp only [List.mem_cons, List.not_mem_nil, or_false] at hj; subst hj; assumption)
              have P0 := P 9 (by decide)
              have h8 : psD 9 D 8 = false := by
                cases e : psD 9 D 8 with
                | false => rfl
                | true => have := S.anc 8 e 7 (by decide); rw [hi0] at this; cases this
              obtain E9 : E' 9 = [.row w.heap.size (.slice pl k cl) k (u8N hs) 5 1, .box b9 #[.slice pl k cl] 68] := by
                rcases P0 with ⟨h, _⟩ | ⟨_, h, _⟩ | ⟨_, _, h⟩
                · rw [h8] at h; cases h
                · rw [hi0] at h; cases h
                · exact h
              obtain ⟨bi, e6, E6⟩ : ∃ bi, g 6 = .slice (some ⟨bi, 0, none⟩) 1 1 ∧ E' 6 = [.box bi #[.int .u8 (h : Int)] 5] := P 6 (by decide)
              simp only [E9, E6, List.flatMap_cons, List.flatMap_nil, List.append_nil, List.cons_append, List.nil_append] at M
              clear P
              simp only [E6, List.flatMap_cons, List.flatMap_nil, List.append_nil, List.cons_append, List.nil_append] at FIN
              refine ⟨⟨#[undef, undef, undef, undef, undef, undef, undef, undef, undef, undef, undef, undef, undef, undef, undef, undef, undef, undef, undef, undef, undef, undef, undef, undef, undef, undef, undef, undef, undef, undef, undef, undef, undef, undef, undef, undef, undef, undef, undef, undef, undef, undef, undef, .slice pl k cl, undef, undef, undef, undef, undef, .slice (some ⟨bi, 0, none⟩) 1 1, undef, undef, undef, undef, undef, undef, undef], []⟩, ?_, ?_⟩
              · intro t ht
                have ht' : t ∈ ([43, 49] : List Nat) := ht
                simp only [List.mem_cons, List.not_mem_nil, or_false] at ht'
                rcases ht' with rfl | rfl
                · exact e0.symm
                · exact e6.symm
              · skip
                simp only [psD_upd]
                refine yield_walk (ops := #[]) rfl rfl (show 50 < 57 by decide) ?_
                have C := M.ruleAll; simp only [Go.Proofs.YteonahoboligdaaDoor.ruleAll] at C
                go_wp2_with (first | ((with_reducible apply wpM_app' M 68 0 2 (w.heap.size) (.slice pl k cl) (k) (u8N hs) 5 1 1); rfl; rfl; rfl; rfl; rfl; rfl; rfl; (first | exact .inl (Nat.le_refl _) | exact .inl (by assumption) | exact .inr (by assumption) | exact .inr HDv.out); (first | exact M.size | (have hq := M.size; omega)); exact und_slb; exact inf_elb; rfl; decide; decide; rfl; exact rfl; exact flat_b1 _; omega; clear M; (try clear C); intro v8 w9 far_v8 M; simp only [List.set_cons_zero, List.set_cons_succ, entBlk, entT, List.getElem?_cons_zero, List.getElem?_cons_succ] at M; obtain ⟨pp_v8, cap_v8, rfl⟩ := own_form (M.row 0 rfl); have C := M.ruleAll; simp only [Go.Proofs.YteonahoboligdaaDoor.ruleAll] at C))
                exact FIN _ _ [.row w.heap.size (.slice pp_v8 (k + 1) cap_v8) (k + 1) (u8N hs ++ [Value.int .u8 (h : Int)]) 5 1, .box b9 #[.slice pl k cl] 68] M (.inr (.inl ⟨(updD_ne (by decide)).trans h8, updD_at .., by rw [updG_at]⟩)) rfl
            · simp only [List.getElem?_cons_succ, List.getElem?_cons_zero, Option.some.injEq] at hi
              subst hi
              have d7 : psD 9 D 7 = true := psD_of (hpre _ (Array.mem_of_getElem? (i := 0) rfl) rfl)
              have d0 : psD 9 D 0 = true := psD_of (hpre _ (Array.mem_of_getElem? (i := 2) rfl) rfl)
              have d1 : psD 9 D 1 = true := psD_of (hpre _ (Array.mem_of_getElem? (i := 3) rfl) rfl)
              have d2 : psD 9 D 2 = true := psD_of (hpre _ (Array.mem_of_getElem? (i := 4) rfl) rfl)
              have d3 : psD 9 D 3 = true := psD_of (hpre _ (Array.mem_of_getElem? (i := 5) rfl) rfl)
              have d4 : psD 9 D 4 = true := psD_of (hpre _ (Array.mem_of_getElem? (i := 6) rfl) rfl)
              have d5 : psD 9 D 5 = true := psD_of (hpre _ (Array.mem_of_getElem? (i := 7) rfl) rfl)
              have d6 : psD 9 D 6 = true := psD_of (hpre _ (Array.mem_of_getElem? (i := 8) rfl) rfl)
              have M := S.base
              have HI0 : psD 9 D 8 = false := (psD_ne (by decide)).trans hi0
              clear hi0
              have hi0 := HI0
              have HR : ∀ j ∈ qu11R 8, psD 9 D j = true := (by intro j hj; have hj' : j ∈ ([0, 1, 2, 3, 4, 5, 6, 7] : List Nat) := hj; simp only [List.mem_cons, List.not_mem_nil, or_false] at hj'; rcases hj' with rfl | rfl | rfl | rfl | rfl | rfl | rfl | rfl <;> assumption)
              have HW : ∀ j, psD 9 D j = true → j ≠ 9 → 8 ∉ qu11W j := fun j _ hne h => by unfold qu11W at h; rw [if_neg hne] at h; cases h
              have hst := qu11S pl k cl c h l hs b9 w.heap.size
              clear M
              obtain ⟨E', X, P, M, FIN⟩ := S.writeK (i := 8) hst (by decide) hi0 HR HW (psD_at ..) [] (by decide) (by intro j hj; cases hj)
              have P0 := P 9 (by decide)
              have d7' : psD 9 D 7 = true := d7
              obtain E9 : E' 9 = [.row w.heap.size (g 7) (k + 1) (u8N hs ++ [Value.int .u8 (h : Int)]) 5 1, .box b9 #[.slice pl k cl] 68] := by
                rcases P0 with ⟨h, _⟩ | ⟨_, _, h⟩ | ⟨_, h, _⟩
                · rw [hi0] at h; cases h
                · exact h
                · rw [d7'] at h; cases h
              simp only [E9, List.flatMap_cons, List.flatMap_nil, List.append_nil, List.cons_append, List.nil_append] at M
              clear P
              refine ⟨⟨#[undef, undef, undef, undef, undef, undef, undef, undef, undef, .pointer (some ⟨b9, 0, none⟩), undef, undef, undef, undef, undef, undef, undef, undef, undef, undef, undef, undef, undef, undef, undef, undef, undef, undef, undef, undef, undef, undef, undef, undef, undef, undef, undef, undef, undef, undef, undef, undef, undef, undef, undef, undef, undef, undef, undef, undef, g 7, undef, undef, undef, undef, undef, undef], []⟩, ?_, ?_⟩
              · intro t ht
                have ht' : t ∈ ([9, 50] : List Nat) := ht
                simp only [List.mem_cons, List.not_mem_nil, or_false] at ht'
                rcases ht' with rfl | rfl
                · exact rfl
                · exact rfl
              · skip
                simp only [psD_upd]
                obtain ⟨p7, c7, hg7⟩ := own_form (M.row 0 rfl)
                rw [hg7] at M ⊢
                refine yield_store (ops := #[]) (by exact rfl) (by exact rfl) ?_
                have C := M.ruleAll; simp only [Go.Proofs.YteonahoboligdaaDoor.ruleAll] at C
                go_wp2_with (first | ((with_reducible apply wpM_st' M 1 68 (0) (#[.slice p7 (k + 1) c7])); rfl; rfl; rfl; (first | exact .inl (by assumption) | exact .inr rfl | exact .inr (by assumption)); exact ⟨rfl, rfl, by kernel_rfl⟩; exact Nat.zero_lt_one; exact rfl; clear M; (try clear C); intro w9 M; simp only [List.set_cons_zero, List.set_cons_succ, entBlk, entT, List.getElem?_cons_zero, List.getElem?_cons_succ] at M; have C := M.ruleAll; simp only [Go.Proofs.YteonahoboligdaaDoor.ruleAll] at C))
                exact FIN _ _ [.row w.heap.size (.slice p7 (k + 1) c7) (k + 1) (u8N hs ++ [Value.int .u8 (h : Int)]) 5 1, .box b9 #[.slice p7 (k + 1) c7] 68] M (.inl ⟨updD_at .., by rw [updG_ne (by decide), hg7]⟩) rfl
          case hQ_qu11 =>
            clear M
            try clear C
            intro D g w2 hall S
            obtain ⟨E, P, M⟩ := S.get [9] (by decide) (fun k hk => by
              simp only [List.mem_cons, List.not_mem_nil, or_false] at hk
              by_cases e : k = 9
              · rw [e]; exact psD_at ..
              · exact psD_of (hall k (by show k < 9; omega)))
            obtain E9 : E 9 = [.row w.heap.size (g 7) (k + 1) (u8N hs ++ [Value.int .u8 (h : Int)]) 5 1, .box b9 #[g 7] 68] := by
              rcases P 9 (by decide) with ⟨_, h⟩ | ⟨h, _⟩ | ⟨h, _⟩
              · exact h
              · rw [psD_of (hall 8 (by decide))] at h; cases h
              · rw [psD_of (hall 8 (by decide))] at h; cases h
            simp only [List.flatMap_cons, List.flatMap_nil, List.append_nil, E9, List.cons_append, List.nil_append] at M
            clear P
            obtain ⟨E', P, _⟩ := S.get [0, 1, 2, 3, 4, 5, 6, 7, 8] (by decide) (fun k hk => by
              simp only [List.mem_cons, List.not_mem_nil, or_false] at hk
              by_cases e : k = 9
              · rw [e]; exact psD_at ..
              · exact psD_of (hall k (by show k < 9; omega)))
            have e0 : g 0 = .slice pl k cl := (P 0 (by decide)).1
            have e1 : g 1 = .int .i64 (c : Int) := (P 1 (by decide)).1
            have e4 : g 4 = .int .i64 (h : Int) := (P 4 (by decide)).1
            have e5 : g 5 = .int .u8 (h : Int) := (P 5 (by decide)).1
            obtain ⟨bi, e6, -⟩ : ∃ bi, g 6 = .slice (some ⟨bi, 0, none⟩) 1 1 ∧ E' 6 = [.box bi #[.int .u8 (h : Int)] 5] := P 6 (by decide)
            simp only [fullAct, e0, e1, e4, e5, e6, Act.put, List.setIfInBounds_toArray, List.set_cons_succ, List.set_cons_zero]
            clear P S hall e0 e1 e4 e5 e6
            try clear E'
            try clear E
            obtain ⟨p7, c7, hg7⟩ := own_form (M.row 0 rfl)
            rw [hg7] at M
            have C := M.ruleAll; simp only [Go.Proofs.YteonahoboligdaaDoor.ruleAll] at C
            go_wp2
            go_roundw
            case rel => exact ⟨k + 1, p7, c7, hs ++ [h], by omega, by go_num, ⟨by rw [HHD.out, ← HHS.out]⟩, by rw [u8N_app, HF.out]; exact M⟩
            case measure => simp [intOf]; omega
    · obtain rfl : k = out.length := by omega
      have hge : ¬ ((out.length : Int) < (out.length : Int)) := by omega
      obtain ⟨gl2, cl2, e, -, -, -⟩ := own_rds (M.row 0 rfl) (by omega)
      cases e
      generalize hN : out.length = N at *
      have HHJ := Hid2.mk (show ∀ j, j < N → (u8N hs).getD j undef = .int .u8 (hdL L j : Nat) from fun j hj => by
        rw [HHS.out]
        unfold u8N
        rw [List.getD_eq_getElem?_getD, List.getElem?_map, List.getElem?_map, List.getElem?_range hj]; rfl)
      have HNC := Hid2.mk (fun j (hj : j < n) => nC_get (f := prT L N) hj)
      have hLN := HLL.out
      have HCV := Hid2.mk (fun w2 (M2 : Mm no w w2 [.row w.heap.size (.slice (some ⟨gl2, 0, none⟩) N cl) N (u8N hs) 5 1, .box b9 #[.slice (some ⟨gl2, 0, none⟩) N cl] 68, .box gp (nC n (prT L N)) 2, .box b8 #[.slice (some ⟨gp, 0, none⟩) n n] 26, .row w.heap.size (.slice (some ⟨gc, 0, none⟩) N cc) N (i64N out) 49 1, .box bq (sqs (n : Int) t) 32]) => show Mm no w2 w2 [.box b8 #[.slice (some ⟨gp, 0, none⟩) n n] 26, .box b9 #[.slice (some ⟨gl2, 0, none⟩) N cl] 68, .box bq (sqs (n : Int) t) 32, .rd gp n (fun i => .int .i64 (prT L N i : Nat)), .rd gl2 N (fun i => .int .u8 (hdL L i : Nat))] from (((M2.rowRdN 0 rfl (fun i => .int .u8 (hdL L i : Nat)) hpos HHJ.out).toRd 2 rfl n (fun i => .int .i64 (prT L N i : Nat)) HNC.out).anew).sub [3, 1, 5, 2, 0] (by decide))
      rw [hLN] at HFN
      have HMD := Hid2.mk (fun w1 (M1 : Mm no w1 w1 [.box b8 #[.slice (some ⟨gp, 0, none⟩) n n] 26, .box b9 #[.slice (some ⟨gl2, 0, none⟩) N cl] 68, .box bq (sqs (n : Int) t) 32, .rd gp n (fun i => .int .i64 (prT L N i : Nat)), .rd gl2 N (fun i => .int .u8 (hdL L i : Nat))]) => made_any N (quT L t) 55 #[] #[.pointer (some ⟨b8, 0, none⟩), .pointer (some ⟨bq, 0, none⟩), .pointer (some ⟨b9, 0, none⟩)] w1 hpos (by omega) (enters_of (P := Tryd.prog) (f := 55) (by exact Tryd.func55) (by kernel_rfl) rfl) (fun x y hx hy w2 hb2 => HFN.out x y b8 bq b9 gp gl2 n cl hx hy w2 (M1.later hb2).anew))
      have HRN := Hid2.mk (HR.out N (.slice (some ⟨gp, 0, none⟩) n n))
      have HNL := Hid2.mk (nC_list n (prT L N))
      have hN10 : (N : Int) ≤ 10 := by omega
      have hN1 : (1 : Int) ≤ (N : Int) := by omega
      clear HCO HLI HMO HP HLK HLL HLT HR HHJ HNC HHS hN
      generalize filT N (quT L t) (N * N) = V at *
      have M9 := M.sub [6, 0, 1, 2, 3, 4, 5] (by decide)
      have C := M.ruleAll; simp only [Go.Proofs.YteonahoboligdaaDoor.ruleAll] at C
      go_wp2
      clear M; (try clear C)
      have M : Mm no w wr ([.box bo (sqs 0 fun _ _ => 0) 32] ++ [.row w.heap.size (.slice (some ⟨gl2, 0, none⟩) N cl) N (u8N hs) 5 1, .box b9 #[.slice (some ⟨gl2, 0, none⟩) N cl] 68, .box gp (nC n (prT L N)) 2, .box b8 #[.slice (some ⟨gp, 0, none⟩) n n] 26, .row w.heap.size (.slice (some ⟨gc, 0, none⟩) N cc) N (i64N out) 49 1, .box bq (sqs (n : Int) t) 32]) := M9
      clear M9
      apply wp_region_float1 [0, 1, 2, 3, 4] 5 6 _ (Stg (StO bo (sqs 0 fun _ _ => 0) (sqs (N : Int) V) 32) no w [.row w.heap.size (.slice (some ⟨gl2, 0, none⟩) N cl) N (u8N hs) 5 1, .box b9 #[.slice (some ⟨gl2, 0, none⟩) N cl] 68, .box gp (nC n (prT L N)) 2, .box b8 #[.slice (some ⟨gp, 0, none⟩) n n] 26, .row w.heap.size (.slice (some ⟨gc, 0, none⟩) N cc) N (i64N out) 49 1, .box bq (sqs (n : Int) t) 32]) (by kernel_rfl) (by kernel_rfl) rfl rfl
      case hS => exact ⟨[_], rfl, M.drew⟩
      case ht => repeat (first | exact wpTextG_nil | (apply wpTextG_cons; (intro g9 w2 hG; obtain ⟨Lg9, hSt9, G⟩ := hG; have M := G.suffix; have C := M.ruleAll; simp only [Go.Proofs.YteonahoboligdaaDoor.ruleAll] at C; go_wp2_with (first | (go_at_call 54; ((with_reducible refine (HMD.out _ (HCV.out _ M)).mono ?_); rintro e w1 ⟨rfl, hb⟩; have hsz := M.size; (try (have G9 := G.later hb; clear G; have G := G9; clear G9)); have M9 := M.later hb; clear M; (try clear C); have M := M9; clear M9; have C := M.ruleAll; simp only [Go.Proofs.YteonahoboligdaaDoor.ruleAll] at C))); exact ⟨rfl, rfl, Lg9, hSt9, G⟩); rfl))
      case hA =>
        intro w2 hG
        obtain ⟨Lg9, hSt, G⟩ := hG
        have hSt' : Lg9 = [_] := hSt
        subst hSt'
        clear M
        try clear C
        have M := G
        clear G
        simp only [List.cons_append, List.nil_append] at M
        have C := M.ruleAll; simp only [Go.Proofs.YteonahoboligdaaDoor.ruleAll] at C
        refine yield_store (ops := #[]) (by exact rfl) (by exact rfl) ?_
        go_wp2_with (first | ((with_reducible apply wpM_sta' M 0 32 (sqs (N : Int) V)); rfl; rfl; rfl; rfl; (first | exact .inl (by assumption) | exact .inr rfl | exact .inr (by assumption)); exact ⟨rfl, inf_sqs.trans (congrArg some (sqs_size ..).symm), flat_sqs _ _⟩; (simp only [entCells, List.getElem?_cons_zero, List.getElem?_cons_succ, sqs_size, sqs_size]); clear M; (try clear C); intro w9 M; simp only [List.set_cons_zero, List.set_cons_succ, entBlk, entT, List.getElem?_cons_zero, List.getElem?_cons_succ] at M; have C := M.ruleAll; simp only [Go.Proofs.YteonahoboligdaaDoor.ruleAll] at C))
        exact ⟨_, rfl, M⟩
      case hQ =>
        clear M
        try clear C
        rintro v w' ⟨Lg9, hSt, M9⟩
        have hSt' : Lg9 = [_] := hSt
        subst hSt'
        have M := M9
        clear M9
        simp only [List.cons_append, List.nil_append] at M
        have C := M.ruleAll; simp only [Go.Proofs.YteonahoboligdaaDoor.ruleAll] at C
        simp only [List.drop_succ_cons, List.drop_zero]
        go_wp2
        have M7 := M.asRow 3 rfl w.heap.size n 1 h_gp (by rw [nC_size, Nat.mul_one]) (by simp only [maxLen]; omega)
        rw [HNL.out] at M7
        have HM7 := Hid2.mk (M7.sub [3] (by decide))
        clear M7
        refine bodyPost_ret (v := .tuple #[.agg (sqs (N : Int) V), .slice (some ⟨gp, 0, none⟩) n n]) (by exact results_part2 rfl _ _ _ _ (sqs (N : Int) V) _ rfl und_sqs rfl inf_sqs (cells_of_blk0 (M.box 0 rfl)) _ rfl) rfl ?_
        exact HRN.out _ hLN.symm HM7.out
end Go.Proofs.YteonahoboligdaaDoor

/- QuotientLoop of the program: a contract. -/
namespace Go.Proofs.YteonahoboligdaaDoor
set_option linter.unusedSimpArgs false
set_option linter.unusedVariables false
open Go Go.RowKit

theorem build_sqz (w : World) : (Instr.build 32 #[]).run Tryd.prog w = .ok (.agg (sqs 0 fun _ _ => 0)) w := by kernel_rfl
theorem GrS.not_yet {n : Nat} {post : Nat → (Nat → Bool) → (Nat → Value) → List Ent → Prop} {R : Nat → List Nat} {w0 w : World} {L : List Ent} {D : Nat → Bool} {g : Nat → Value} (S : GrS n post R w0 L D g w) {i k : Nat} (h0 : D i = false) (h : i ∈ R k) (hne : k ≠ i) : updD D i k = false := by
  rw [updD_ne hne]
  cases e : D k with
  | false => rfl
  | true => have := S.anc k e i h; rw [h0] at this; cases this
/-- What QuotientLoop hands back. -/
def FqPost (N : Int) (V : Nat → Nat → Nat) (out : List Nat) (code : Int) (w : World) (e : Ending) (w' : World) : Prop :=
  ∃ v, e = .returned (.tuple #[.agg (sqs N V), v, .int .i64 code]) ∧ Mm no w w' [.row w.heap.size v out.length (i64N out) 2 1]
theorem FqPost.nil {w w' : World} (hb : Below w.heap.size w w') (c : Int) : FqPost 0 (fun _ _ => 0) [] c w (.returned (.tuple #[.agg (sqs 0 fun _ _ => 0), .slice none 0 0, .int .i64 c])) w' :=
  ⟨_, rfl, ((Mm.start no w).later hb).nilRow _ _ _⟩
structure QRes where
  N : Int
  V : Nat → Nat → Nat
  out : List Nat
  code : Int
noncomputable def qlRes (n : Int) (t : Nat → Nat → Nat) (xs : List Int) : QRes :=
  if lsCode n t xs = 0 then (if norM n.toNat t (jM xs) == jM xs then ⟨((quL n.toNat t (jM xs)).length : Nat), filT (quL n.toNat t (jM xs)).length (quT (quL n.toNat t (jM xs)) t) ((quL n.toNat t (jM xs)).length * (quL n.toNat t (jM xs)).length), (List.range n.toNat).map (prT (quL n.toNat t (jM xs)) (quL n.toNat t (jM xs)).length), 0⟩ else ⟨0, fun _ _ => 0, [], 5⟩) else ⟨0, fun _ _ => 0, [], lsCode n t xs⟩
theorem qlRes_ok {N m : Nat} {t : Nat → Nat → Nat} (hm : m < 1024) (h : lsCode (N : Int) t (toJ (mL m)) = 0) : qlRes (N : Int) t (toJ (mL m)) = if norM N t m == m then ⟨((quL N t m).length : Nat), filT (quL N t m).length (quT (quL N t m) t) ((quL N t m).length * (quL N t m).length), (List.range N).map (prT (quL N t m) (quL N t m).length), 0⟩ else ⟨0, fun _ _ => 0, [], 5⟩ := by
  unfold qlRes
  rw [if_pos h, jM_toJ hm, Int.toNat_natCast]
def ql6R : Nat → List Nat
  | 0 => []
  | 1 => []
  | 2 => [1]
  | 3 => [0, 1, 2]
  | 4 => [0, 1, 2, 3]
  | 5 => [0, 1, 2, 3, 4]
  | 6 => [0, 1, 2, 3, 4]
  | 7 => []
  | 8 => [0, 1, 2, 3, 4, 5, 7]
  | 9 => [0, 1, 2, 3, 4, 5, 6, 7, 8]
  | _ => []
def ql6P (N : Nat) (t : Nat → Nat → Nat) (m N2 : Nat) (V : Nat → Nat → Nat) (pj : List Nat) (p : Option Addr) (len cap : Nat) (B0 : Nat) : Nat → (Nat → Bool) → (Nat → Value) → List Ent → Prop
  | 0, _, g, E => g 0 = .agg (sqs (N : Int) t) ∧ E = []
  | 1, _, g, E => g 1 = .slice p len cap ∧ E = []
  | 2, _, g, E => g 2 = .int .i64 (m : Int) ∧ E = []
  | 3, _, g, E => ∃ vr, g 3 = .tuple #[.agg (sqs (N2 : Int) V), vr] ∧ E = [.row B0 vr N (i64N pj) 2 1]
  | 4, _, g, E => ∃ vr, g 3 = .tuple #[.agg (sqs (N2 : Int) V), vr] ∧ g 4 = .tuple #[.agg (sqs (N2 : Int) V), vr] ∧ E = []
  | 5, _, g, E => g 5 = .agg (sqs (N2 : Int) V) ∧ E = []
  | 6, _, g, E => ∃ vr, g 3 = .tuple #[.agg (sqs (N2 : Int) V), vr] ∧ g 6 = vr ∧ E = []
  | 7, D, g, E => ∃ b8, g 7 = .pointer (some ⟨b8, 0, none⟩) ∧ B0 ≤ b8 ∧ E = [.box b8 (bif D 8 then sqs (N2 : Int) V else sqs 0 fun _ _ => 0) 32]
  | 8, _, g, E => E = []
  | 9, _, g, E => ∃ vr, g 3 = .tuple #[.agg (sqs (N2 : Int) V), vr] ∧ g 9 = vr ∧ E = []
  | _, _, _, _ => False
def ql6W (j : Nat) : List Nat := if j = 7 then [8] else []
theorem ql6S (N : Nat) (t : Nat → Nat → Nat) (m N2 : Nat) (V : Nat → Nat → Nat) (pj : List Nat) (p : Option Addr) (len cap : Nat) (B0 : Nat) : Stable (ql6P N t m N2 V pj p len cap B0) ql6R ql6W := fun i k D g u E hki hkR hkW h => by
  match i with
  | 0 =>
    have e0 : updG g k u 0 = g 0 := updG_ne (g := g) (u := u) (Ne.symm hki)
    simp only [ql6P, e0]; exact h
  | 1 =>
    have e1 : updG g k u 1 = g 1 := updG_ne (g := g) (u := u) (Ne.symm hki)
    simp only [ql6P, e1]; exact h
  | 2 =>
    have e2 : updG g k u 2 = g 2 := updG_ne (g := g) (u := u) (Ne.symm hki)
    simp only [ql6P, e2]; exact h
  | 3 =>
    have e3 : updG g k u 3 = g 3 := updG_ne (g := g) (u := u) (Ne.symm hki)
    simp only [ql6P, e3]; exact h
  | 4 =>
    have e3 : updG g k u 3 = g 3 := updG_ne (g := g) (u := u) (i := k) (j := 3) (fun e => hkR (by rw [← e]; decide))
    have e4 : updG g k u 4 = g 4 := updG_ne (g := g) (u := u) (Ne.symm hki)
    simp only [ql6P, e3, e4]; exact h
  | 5 =>
    have e5 : updG g k u 5 = g 5 := updG_ne (g := g) (u := u) (Ne.symm hki)
    simp only [ql6P, e5]; exact h
  | 6 =>
    have e3 : updG g k u 3 = g 3 := updG_ne (g := g) (u := u) (i := k) (j := 3) (fun e => hkR (by rw [← e]; decide))
    have e6 : updG g k u 6 = g 6 := updG_ne (g := g) (u := u) (Ne.symm hki)
    simp only [ql6P, e3, e6]; exact h
  | 7 =>
    have e7 : updG g k u 7 = g 7 := updG_ne (g := g) (u := u) (Ne.symm hki)
    have hkW' : k ∉ ([8] : List Nat) := hkW
    simp only [List.mem_cons, List.not_mem_nil, or_false, not_or] at hkW'
    have d8 : updD D k 8 = D 8 := updD_ne (by omega)
    simp only [ql6P, e7, d8]; exact h
  | 8 =>
    simp only [ql6P, ]; exact h
  | 9 =>
    have e3 : updG g k u 3 = g 3 := updG_ne (g := g) (u := u) (i := k) (j := 3) (fun e => hkR (by rw [← e]; decide))
    have e9 : updG g k u 9 = g 9 := updG_ne (g := g) (u := u) (Ne.symm hki)
    simp only [ql6P, e3, e9]; exact h
  | n + 10 => exact h.elim

set_option maxRecDepth 100000 in
set_option maxHeartbeats 4000000 in
theorem implQuot_any (n : Int) (t : Nat → Nat → Nat) (hby : Byt2 t) (xs : List Int) (hlen : xs.length ≤ 10000000) (w : World) (hg : glbT w) (p : Option Addr) (cap : Nat) (hr : rdq w p xs.length (intF xs)) :
    Calls Tryd.prog 15 #[.agg (sqs n t), .slice p xs.length cap] w (FqPost (qlRes n t xs).N (qlRes n t xs).V (qlRes n t xs).out (qlRes n t xs).code w) := by
  have M := Mm.start no w
  have H1 := Hid2.mk (fun w1 (hb : Below w.heap.size w w1) => listCode_any n t hby xs hlen w1 p cap (hr.later hb))
  have hz := zero_sqs
  have hbd := build_sqz
  by_cases hc : lsCode n t xs = 0
  · obtain ⟨N, m, rfl, hl, hm, hmb, rfl⟩ := ls_ok hc
    rw [qlRes_ok hm hc]
    rw [hc] at H1
    have HS := Hid2.mk (fun w1 (hb : Below w.heap.size w w1) => setOf_any (mL m) (fun x hx => mL_lt hx) (by have := mL_le m; omega) w1 p cap ((rdq.congr (by rw [← toJ_len]; exact hr) fun j hj => toJ_at hj).later hb))
    rw [lM_mL hm] at HS
    have HNM := Hid2.mk (fun w1 => isNormal_any N t hl m hm hmb w1)
    have hjl : ((toJ (mL m)).length) = (mL m).length := toJ_len _
    rw [hjl] at H1
    rw [hjl]
    have hlm := mL_le m
    have hm' : (m : Int) < 1024 := by omega
    cases hgm : norM N t m == m with
    | false =>
      rw [hgm] at HNM
      rw [if_neg (by decide)]
      generalize mL m = l at *
      clear hby hc hl hmb hr hg hgm
      go_enter Tryd.func15, Tryd.ntmps15
      go_wp2_with (first | ((with_reducible apply wpM_box' M 32 (sqs (N : Int) t)); rfl; exact ⟨rfl, rfl⟩; clear M; (try clear C); intro bq w9 h_bq M; have C := M.ruleAll; simp only [Go.Proofs.YteonahoboligdaaDoor.ruleAll] at C) | ((with_reducible apply wpM_alloc' M 32 (sqs 0 fun _ _ => 0)); rfl; exact ⟨rfl, _, zero_sqs _, rfl⟩; clear M; (try clear C); intro bo w9 h_bo M; have C := M.ruleAll; simp only [Go.Proofs.YteonahoboligdaaDoor.ruleAll] at C) | ((with_reducible apply wpM_lda' M 1 32 0 (sqs (N : Int) t)); rfl; rfl; rfl; exact ⟨rfl, inf_sqs.trans (congrArg some (sqs_size ..).symm), _, und_sqs, rfl⟩; exact whole_of rfl) | (go_at_call 22; ((with_reducible refine (H1.out _ M.below).mono ?_); rintro e w1 ⟨rfl, hb⟩; have hsz := M.size; (try (have G9 := G.later hb; clear G; have G := G9; clear G9)); have M9 := M.later hb; clear M; (try clear C); have M := M9; clear M9; have C := M.ruleAll; simp only [Go.Proofs.YteonahoboligdaaDoor.ruleAll] at C)))
      apply wp_region_mm M 3 (by kernel_rfl) (by kernel_rfl); (simp only [List.take_succ_cons, List.take_zero]; repeat (first | exact wpText_nil | (apply wpText_cons; (intro w2 M; have C := M.ruleAll; simp only [Go.Proofs.YteonahoboligdaaDoor.ruleAll] at C; go_wp2_with (first | ((with_reducible apply wpM_lda' M 1 32 0 (sqs (N : Int) t)); rfl; rfl; rfl; exact ⟨rfl, inf_sqs.trans (congrArg some (sqs_size ..).symm), _, und_sqs, rfl⟩; exact whole_of rfl) | (go_at_call 24; ((with_reducible refine (HS.out _ M.below).mono ?_); rintro e w1 ⟨rfl, rfl⟩))); exact ⟨rfl, rfl, M⟩); rfl))); (clear M; (try clear C); intro w2 M; simp only [List.drop_succ_cons, List.drop_zero]; have C := M.ruleAll; simp only [Go.Proofs.YteonahoboligdaaDoor.ruleAll] at C)
      go_wp2_with (first | (go_at_call 30; ((with_reducible refine (HNM.out _).mono ?_); rintro e w1 ⟨rfl, hb⟩; have hsz := M.size; (try (have G9 := G.later hb; clear G; have G := G9; clear G9)); have M9 := M.later hb; clear M; (try clear C); have M := M9; clear M9; have C := M.ruleAll; simp only [Go.Proofs.YteonahoboligdaaDoor.ruleAll] at C)) | (refine wpList_build 32 _ rfl rfl [] rfl _ (build_sqz _) ?_) | ((with_reducible apply wpM_sta' M 0 32 (sqs 0 fun _ _ => 0)); rfl; rfl; rfl; rfl; (first | exact .inl (by assumption) | exact .inr rfl | exact .inr (by assumption)); exact ⟨rfl, inf_sqs.trans (congrArg some (sqs_size ..).symm), flat_sqs _ _⟩; (simp only [entCells, List.getElem?_cons_zero, List.getElem?_cons_succ, sqs_size, sqs_size]); clear M; (try clear C); intro w9 M; simp only [List.set_cons_zero, List.set_cons_succ, entBlk, entT, List.getElem?_cons_zero, List.getElem?_cons_succ] at M; have C := M.ruleAll; simp only [Go.Proofs.YteonahoboligdaaDoor.ruleAll] at C))
      refine bodyPost_ret (v := .tuple #[.agg (sqs 0 fun _ _ => 0), .slice none 0 0, .int .i64 5]) (by exact results_part3 rfl _ _ _ _ (sqs 0 fun _ _ => 0) _ rfl und_sqs rfl inf_sqs (cells_of_blk0 (M.box 0 rfl)) _ _ rfl rfl) rfl ?_
      exact FqPost.nil M.below 5
    | true =>
      rw [hgm] at HNM
      rw [if_pos rfl]
      have hnm := beq_iff_eq.1 hgm
      have h0 : m.testBit 0 = true := ((norM_self hl hmb).1 hnm).clo.zero
      obtain ⟨out, VC⟩ := quo_ex hl hmb hnm
      have hq := quL_some VC.is
      have HQU := Hid2.mk (fun w1 (hb : Below w.heap.size w w1) => quotient_any N t hl m hm h0 out VC.is (cos_prt hl h0 VC) (fun o ho => by obtain ⟨x, _, rfl⟩ := VC.sub o ho; exact csM_lt N t m x) w1 (hg.later hb))
      rw [← hq] at HQU
      have HLN := Hid2.mk (show ((List.range N).map (prT (quL N t m) (quL N t m).length)).length = N by rw [List.length_map, List.length_range])
      unfold QoPost at HQU
      generalize (List.range N).map (prT (quL N t m) (quL N t m).length) = pj at *
      generalize filT (quL N t m).length (quT (quL N t m) t) ((quL N t m).length * (quL N t m).length) = V at *
      generalize (quL N t m).length = N2 at *
      generalize mL m = l at *
      clear hby hc hl hmb hr hg hgm h0 hnm VC hq
      go_enter Tryd.func15, Tryd.ntmps15
      go_wp2_with (first | ((with_reducible apply wpM_box' M 32 (sqs (N : Int) t)); rfl; exact ⟨rfl, rfl⟩; clear M; (try clear C); intro bq w9 h_bq M; have C := M.ruleAll; simp only [Go.Proofs.YteonahoboligdaaDoor.ruleAll] at C) | ((with_reducible apply wpM_alloc' M 32 (sqs 0 fun _ _ => 0)); rfl; exact ⟨rfl, _, zero_sqs _, rfl⟩; clear M; (try clear C); intro bo w9 h_bo M; have C := M.ruleAll; simp only [Go.Proofs.YteonahoboligdaaDoor.ruleAll] at C) | ((with_reducible apply wpM_lda' M 1 32 0 (sqs (N : Int) t)); rfl; rfl; rfl; exact ⟨rfl, inf_sqs.trans (congrArg some (sqs_size ..).symm), _, und_sqs, rfl⟩; exact whole_of rfl) | (go_at_call 22; ((with_reducible refine (H1.out _ M.below).mono ?_); rintro e w1 ⟨rfl, hb⟩; have hsz := M.size; (try (have G9 := G.later hb; clear G; have G := G9; clear G9)); have M9 := M.later hb; clear M; (try clear C); have M := M9; clear M9; have C := M.ruleAll; simp only [Go.Proofs.YteonahoboligdaaDoor.ruleAll] at C)))
      apply wp_region_mm M 3 (by kernel_rfl) (by kernel_rfl); (simp only [List.take_succ_cons, List.take_zero]; repeat (first | exact wpText_nil | (apply wpText_cons; (intro w2 M; have C := M.ruleAll; simp only [Go.Proofs.YteonahoboligdaaDoor.ruleAll] at C; go_wp2_with (first | ((with_reducible apply wpM_lda' M 1 32 0 (sqs (N : Int) t)); rfl; rfl; rfl; exact ⟨rfl, inf_sqs.trans (congrArg some (sqs_size ..).symm), _, und_sqs, rfl⟩; exact whole_of rfl) | (go_at_call 24; ((with_reducible refine (HS.out _ M.below).mono ?_); rintro e w1 ⟨rfl, rfl⟩))); exact ⟨rfl, rfl, M⟩); rfl))); (clear M; (try clear C); intro w2 M; simp only [List.drop_succ_cons, List.drop_zero]; have C := M.ruleAll; simp only [Go.Proofs.YteonahoboligdaaDoor.ruleAll] at C)
      go_wp2_with (first | (go_at_call 30; ((with_reducible refine (HNM.out _).mono ?_); rintro e w1 ⟨rfl, hb⟩; have hsz := M.size; (try (have G9 := G.later hb; clear G; have G := G9; clear G9)); have M9 := M.later hb; clear M; (try clear C); have M := M9; clear M9; have C := M.ruleAll; simp only [Go.Proofs.YteonahoboligdaaDoor.ruleAll] at C)))

      refine wp_region_own (GrS 10 (ql6P N t m N2 V pj p l.length cap w.heap.size) ql6R w [.box bo (sqs 0 fun _ _ => 0) 32, .box bq (sqs (N : Int) t) 32]) (by kernel_rfl) (by kernel_rfl) (fun _ => undef) (GrS.start (M.sub [0, 1] (by decide)) _) ?hs_ql6 ?hQ_ql6
      case hs_ql6 =>
        clear M
        try clear C
        intro i o hi D g w2 hi0 hpre S
        have hlt : i < 10 := by have := (List.getElem?_eq_some_iff.1 hi).1; simpa using this
        obtain rfl | rfl | rfl | rfl | rfl | rfl | rfl | rfl | rfl | rfl : i = 0 ∨ i = 1 ∨ i = 2 ∨ i = 3 ∨ i = 4 ∨ i = 5 ∨ i = 6 ∨ i = 7 ∨ i = 8 ∨ i = 9 := by omega
        · simp only [List.getElem?_cons_succ, List.getElem?_cons_zero, Option.some.injEq] at hi
          subst hi
          have M := S.base
          have HR : ∀ j ∈ ql6R 0, D j = true := (fun _ h => by cases h)
          have HW : ∀ j, D j = true → 0 ∉ ql6W j := fun j _ h => by
            unfold ql6W at h
            (repeat' split at h) <;> simp at h
          have hst := ql6S N t m N2 V pj p l.length cap w.heap.size
          refine ⟨⟨#[undef, undef, .pointer (some ⟨bq, 0, none⟩), undef, undef, undef, undef, undef, undef, undef, undef, undef, undef, undef, undef, undef, undef, undef, undef, undef, undef, undef, undef, undef, undef, undef, undef, undef, undef, undef, undef, undef], []⟩, ?_, ?_⟩
          · intro t ht
            have ht' : t ∈ ([2] : List Nat) := ht
            simp only [List.mem_cons, List.not_mem_nil, or_false] at ht'
            subst ht'
            exact rfl
          · skip
            have C := M.ruleAll; simp only [Go.Proofs.YteonahoboligdaaDoor.ruleAll] at C
            refine yield_walk (ops := #[]) rfl rfl (show 24 < 32 by decide) ?_
            go_wp2_with (first | ((with_reducible apply wpM_lda' M 1 32 0 (sqs (N : Int) t)); rfl; rfl; rfl; exact ⟨rfl, inf_sqs.trans (congrArg some (sqs_size ..).symm), _, und_sqs, rfl⟩; exact whole_of rfl))
            exact S.val (i := 0) hst (by decide) hi0 HR HW (Below.refl _ _) ⟨updG_at .., rfl⟩
        · simp only [List.getElem?_cons_succ, List.getElem?_cons_zero, Option.some.injEq] at hi
          subst hi
          have M := S.base
          have HR : ∀ j ∈ ql6R 1, D j = true := (fun _ h => by cases h)
          have HW : ∀ j, D j = true → 1 ∉ ql6W j := fun j _ h => by
            unfold ql6W at h
            (repeat' split at h) <;> simp at h
          have hst := ql6S N t m N2 V pj p l.length cap w.heap.size
          refine ⟨⟨#[undef, .slice p l.length cap, undef, undef, undef, undef, undef, undef, undef, undef, undef, undef, undef, undef, undef, undef, undef, undef, undef, undef, undef, undef, undef, undef, undef, undef, undef, undef, undef, undef, undef, undef], []⟩, ?_, ?_⟩
          · intro t ht
            have ht' : t ∈ ([1] : List Nat) := ht
            simp only [List.mem_cons, List.not_mem_nil, or_false] at ht'
            subst ht'
            exact rfl
          · skip
            have C := M.ruleAll; simp only [Go.Proofs.YteonahoboligdaaDoor.ruleAll] at C
            refine yield_walk (ops := #[]) rfl rfl (show 25 < 32 by decide) ?_
            go_wp2
            exact S.val (i := 1) hst (by decide) hi0 HR HW (Below.refl _ _) ⟨updG_at .., rfl⟩
        · simp only [List.getElem?_cons_succ, List.getElem?_cons_zero, Option.some.injEq] at hi
          subst hi
          have d1 : D 1 = true := hpre _ (Array.mem_of_getElem? (i := 0) rfl) rfl
          obtain ⟨E, P, M⟩ := S.get [1] (by decide) (by intro j hj; simp only [List.mem_cons, List.not_mem_nil, or_false] at hj; subst hj <;> assumption)
          obtain ⟨e1, E1⟩ : g 1 = .slice p l.length cap ∧ E 1 = [] := P 1 (by decide)
          simp only [List.flatMap_cons, List.flatMap_nil, List.append_nil, E1, List.cons_append, List.nil_append] at M
          clear P
          have HR : ∀ j ∈ ql6R 2, D j = true := (by intro j hj; have hj' : j ∈ ([1] : List Nat) := hj; simp only [List.mem_cons, List.not_mem_nil, or_false] at hj'; subst hj' <;> assumption)
          have HW : ∀ j, D j = true → 2 ∉ ql6W j := fun j _ h => by
            unfold ql6W at h
            (repeat' split at h) <;> simp at h
          have hst := ql6S N t m N2 V pj p l.length cap w.heap.size
          refine ⟨⟨#[undef, undef, undef, undef, undef, undef, undef, undef, undef, undef, undef, undef, undef, undef, undef, undef, undef, undef, undef, undef, undef, undef, undef, undef, undef, .slice p l.length cap, undef, undef, undef, undef, undef, undef], []⟩, ?_, ?_⟩
          · intro t ht
            have ht' : t ∈ ([25] : List Nat) := ht
            simp only [List.mem_cons, List.not_mem_nil, or_false] at ht'
            subst ht'
            exact e1.symm
          · skip
            have C := M.ruleAll; simp only [Go.Proofs.YteonahoboligdaaDoor.ruleAll] at C
            refine yield_walk (ops := #[]) rfl rfl (show 26 < 32 by decide) ?_
            go_wp2_with (first | (go_at_call 24; fail))
            refine (HS.out _ M.below).mono ?_
            rintro e w1 ⟨rfl, rfl⟩
            go_wp2
            exact S.val (i := 2) hst (by decide) hi0 HR HW (Below.refl _ _) ⟨updG_at .., rfl⟩
        · simp only [List.getElem?_cons_succ, List.getElem?_cons_zero, Option.some.injEq] at hi
          subst hi
          have d0 : D 0 = true := hpre _ (Array.mem_of_getElem? (i := 0) rfl) rfl
          have d2 : D 2 = true := hpre _ (Array.mem_of_getElem? (i := 1) rfl) rfl
          have d1 : D 1 = true := S.anc 2 d2 1 (show 1 ∈ ql6R 2 by decide)
          obtain ⟨E, P, M⟩ := S.get [0, 2] (by decide) (by intro j hj; simp only [List.mem_cons, List.not_mem_nil, or_false] at hj; rcases hj with rfl | rfl <;> assumption)
          obtain ⟨e0, E0⟩ : g 0 = .agg (sqs (N : Int) t) ∧ E 0 = [] := P 0 (by decide)
          obtain ⟨e2, E2⟩ : g 2 = .int .i64 (m : Int) ∧ E 2 = [] := P 2 (by decide)
          simp only [List.flatMap_cons, List.flatMap_nil, List.append_nil, E0, E2, List.cons_append, List.nil_append] at M
          clear P
          have HR : ∀ j ∈ ql6R 3, D j = true := (by intro j hj; have hj' : j ∈ ([0, 1, 2] : List Nat) := hj; simp only [List.mem_cons, List.not_mem_nil, or_false] at hj'; rcases hj' with rfl | rfl | rfl <;> assumption)
          have HW : ∀ j, D j = true → 3 ∉ ql6W j := fun j _ h => by
            unfold ql6W at h
            (repeat' split at h) <;> simp at h
          have hst := ql6S N t m N2 V pj p l.length cap w.heap.size
          refine ⟨⟨#[undef, undef, undef, undef, undef, undef, undef, undef, undef, undef, undef, undef, undef, undef, undef, undef, undef, undef, undef, undef, undef, undef, undef, undef, .agg (sqs (N : Int) t), undef, .int .i64 (m : Int), undef, undef, undef, undef, undef], []⟩, ?_, ?_⟩
          · intro t ht
            have ht' : t ∈ ([24, 26] : List Nat) := ht
            simp only [List.mem_cons, List.not_mem_nil, or_false] at ht'
            rcases ht' with rfl | rfl
            · exact e0.symm
            · exact e2.symm
          · skip
            have C := M.ruleAll; simp only [Go.Proofs.YteonahoboligdaaDoor.ruleAll] at C
            refine yield_walk (ops := #[]) rfl rfl (show 27 < 32 by decide) ?_
            go_wp2_with (first | (go_at_call 31; fail))
            refine (HQU.out _ M.below).mono ?_
            rintro e w1 ⟨vr, rfl, M'⟩
            go_wp2
            exact S.add (i := 3) hst (by decide) hi0 HR HW (M'.weakRow S.base.size) (new_row1 M') ⟨vr, updG_at .., rfl⟩
        · simp only [List.getElem?_cons_succ, List.getElem?_cons_zero, Option.some.injEq] at hi
          subst hi
          have d3 : D 3 = true := hpre _ (Array.mem_of_getElem? (i := 0) rfl) rfl
          have d0 : D 0 = true := S.anc 3 d3 0 (show 0 ∈ ql6R 3 by decide)
          have d1 : D 1 = true := S.anc 3 d3 1 (show 1 ∈ ql6R 3 by decide)
          have d2 : D 2 = true := S.anc 3 d3 2 (show 2 ∈ ql6R 3 by decide)
          obtain ⟨E, P, M⟩ := S.get [3] (by decide) (by intro j hj; simp only [List.mem_cons, List.not_mem_nil, or_false] at hj; subst hj <;> assumption)
          obtain ⟨vr, e3, E3⟩ : ∃ vr, g 3 = .tuple #[.agg (sqs (N2 : Int) V), vr] ∧ E 3 = [.row w.heap.size vr N (i64N pj) 2 1] := P 3 (by decide)
          simp only [List.flatMap_cons, List.flatMap_nil, List.append_nil, E3, List.cons_append, List.nil_append] at M
          clear P
          have HR : ∀ j ∈ ql6R 4, D j = true := (by intro j hj; have hj' : j ∈ ([0, 1, 2, 3] : List Nat) := hj; simp only [List.mem_cons, List.not_mem_nil, or_false] at hj'; rcases hj' with rfl | rfl | rfl | rfl <;> assumption)
          have HW : ∀ j, D j = true → 4 ∉ ql6W j := fun j _ h => by
            unfold ql6W at h
            (repeat' split at h) <;> simp at h
          have hst := ql6S N t m N2 V pj p l.length cap w.heap.size
          refine ⟨⟨#[undef, undef, undef, undef, undef, undef, undef, undef, undef, undef, undef, undef, undef, undef, undef, undef, undef, undef, undef, undef, undef, undef, undef, undef, undef, undef, undef, .tuple #[.agg (sqs (N2 : Int) V), vr], undef, undef, undef, undef], []⟩, ?_, ?_⟩
          · intro t ht
            have ht' : t ∈ ([27] : List Nat) := ht
            simp only [List.mem_cons, List.not_mem_nil, or_false] at ht'
            subst ht'
            exact e3.symm
          · skip
            have C := M.ruleAll; simp only [Go.Proofs.YteonahoboligdaaDoor.ruleAll] at C
            refine yield_walk (ops := #[]) rfl rfl (show 23 < 32 by decide) ?_
            go_wp2
            exact S.val (i := 4) hst (by decide) hi0 HR HW (Below.refl _ _) ⟨vr, (updG_ne (by decide)).trans e3, updG_at .., rfl⟩
        · simp only [List.getElem?_cons_succ, List.getElem?_cons_zero, Option.some.injEq] at hi
          subst hi
          have d4 : D 4 = true := hpre _ (Array.mem_of_getElem? (i := 0) rfl) rfl
          have d0 : D 0 = true := S.anc 4 d4 0 (show 0 ∈ ql6R 4 by decide)
          have d1 : D 1 = true := S.anc 4 d4 1 (show 1 ∈ ql6R 4 by decide)
          have d2 : D 2 = true := S.anc 4 d4 2 (show 2 ∈ ql6R 4 by decide)
          have d3 : D 3 = true := S.anc 4 d4 3 (show 3 ∈ ql6R 4 by decide)
          obtain ⟨E, P, M⟩ := S.get [4] (by decide) (by intro j hj; simp only [List.mem_cons, List.not_mem_nil, or_false] at hj; subst hj <;> assumption)
          obtain ⟨vr, er4, e4, E4⟩ : ∃ vr, g 3 = .tuple #[.agg (sqs (N2 : Int) V), vr] ∧ g 4 = .tuple #[.agg (sqs (N2 : Int) V), vr] ∧ E 4 = [] := P 4 (by decide)
          simp only [List.flatMap_cons, List.flatMap_nil, List.append_nil, E4, List.cons_append, List.nil_append] at M
          clear P
          have HR : ∀ j ∈ ql6R 5, D j = true := (by intro j hj; have hj' : j ∈ ([0, 1, 2, 3, 4] : List Nat) := hj; simp only [List.mem_cons, List.not_mem_nil, or_false] at hj'; rcases hj' with rfl | rfl | rfl | rfl | rfl <;> assumption)
          have HW : ∀ j, D j = true → 5 ∉ ql6W j := fun j _ h => by
            unfold ql6W at h
            (repeat' split at h) <;> simp at h
          have hst := ql6S N t m N2 V pj p l.length cap w.heap.size
          refine ⟨⟨#[undef, undef, undef, undef, undef, undef, undef, undef, undef, undef, undef, undef, undef, undef, undef, undef, undef, undef, undef, undef, undef, undef, undef, .tuple #[.agg (sqs (N2 : Int) V), vr], undef, undef, undef, undef, undef, undef, undef, undef], []⟩, ?_, ?_⟩
          · intro t ht
            have ht' : t ∈ ([23] : List Nat) := ht
            simp only [List.mem_cons, List.not_mem_nil, or_false] at ht'
            subst ht'
            exact e4.symm
          · skip
            have C := M.ruleAll; simp only [Go.Proofs.YteonahoboligdaaDoor.ruleAll] at C
            refine yield_walk (ops := #[]) rfl rfl (show 28 < 32 by decide) ?_
            go_wp2
            exact S.val (i := 5) hst (by decide) hi0 HR HW (Below.refl _ _) ⟨updG_at .., rfl⟩
        · simp only [List.getElem?_cons_succ, List.getElem?_cons_zero, Option.some.injEq] at hi
          subst hi
          have d4 : D 4 = true := hpre _ (Array.mem_of_getElem? (i := 0) rfl) rfl
          have d0 : D 0 = true := S.anc 4 d4 0 (show 0 ∈ ql6R 4 by decide)
          have d1 : D 1 = true := S.anc 4 d4 1 (show 1 ∈ ql6R 4 by decide)
          have d2 : D 2 = true := S.anc 4 d4 2 (show 2 ∈ ql6R 4 by decide)
          have d3 : D 3 = true := S.anc 4 d4 3 (show 3 ∈ ql6R 4 by decide)
          obtain ⟨E, P, M⟩ := S.get [4] (by decide) (by intro j hj; simp only [List.mem_cons, List.not_mem_nil, or_false] at hj; subst hj <;> assumption)
          obtain ⟨vr, er4, e4, E4⟩ : ∃ vr, g 3 = .tuple #[.agg (sqs (N2 : Int) V), vr] ∧ g 4 = .tuple #[.agg (sqs (N2 : Int) V), vr] ∧ E 4 = [] := P 4 (by decide)
          simp only [List.flatMap_cons, List.flatMap_nil, List.append_nil, E4, List.cons_append, List.nil_append] at M
          clear P
          have HR : ∀ j ∈ ql6R 6, D j = true := (by intro j hj; have hj' : j ∈ ([0, 1, 2, 3, 4] : List Nat) := hj; simp only [List.mem_cons, List.not_mem_nil, or_false] at hj'; rcases hj' with rfl | rfl | rfl | rfl | rfl <;> assumption)
          have HW : ∀ j, D j = true → 6 ∉ ql6W j := fun j _ h => by
            unfold ql6W at h
            (repeat' split at h) <;> simp at h
          have hst := ql6S N t m N2 V pj p l.length cap w.heap.size
          refine ⟨⟨#[undef, undef, undef, undef, undef, undef, undef, undef, undef, undef, undef, undef, undef, undef, undef, undef, undef, undef, undef, undef, undef, undef, undef, .tuple #[.agg (sqs (N2 : Int) V), vr], undef, undef, undef, undef, undef, undef, undef, undef], []⟩, ?_, ?_⟩
          · intro t ht
            have ht' : t ∈ ([23] : List Nat) := ht
            simp only [List.mem_cons, List.not_mem_nil, or_false] at ht'
            subst ht'
            exact e4.symm
          · skip
            have C := M.ruleAll; simp only [Go.Proofs.YteonahoboligdaaDoor.ruleAll] at C
            refine yield_walk (ops := #[]) rfl rfl (show 29 < 32 by decide) ?_
            go_wp2
            exact S.val (i := 6) hst (by decide) hi0 HR HW (Below.refl _ _) ⟨vr, (updG_ne (by decide)).trans er4, updG_at .., rfl⟩
        · simp only [List.getElem?_cons_succ, List.getElem?_cons_zero, Option.some.injEq] at hi
          subst hi
          have M := S.base
          have HR : ∀ j ∈ ql6R 7, D j = true := (fun _ h => by cases h)
          have HW : ∀ j, D j = true → 7 ∉ ql6W j := fun j _ h => by
            unfold ql6W at h
            (repeat' split at h) <;> simp at h
          have hst := ql6S N t m N2 V pj p l.length cap w.heap.size
          refine ⟨⟨#[undef, undef, undef, undef, undef, undef, undef, undef, undef, undef, undef, undef, undef, undef, undef, undef, undef, undef, undef, undef, undef, undef, undef, undef, undef, undef, undef, undef, undef, undef, undef, undef], []⟩, ?_, ?_⟩
          · intro t ht
            have ht' : t ∈ ([] : List Nat) := ht
            cases ht'
          · skip
            clear M
            have M := Mm.start no w2
            have C := M.ruleAll; simp only [Go.Proofs.YteonahoboligdaaDoor.ruleAll] at C
            refine yield_walk (ops := #[]) rfl rfl (show 8 < 32 by decide) ?_
            go_wp2_with (first | ((with_reducible apply wpM_alloc' M 32 (sqs 0 fun _ _ => 0)); rfl; exact ⟨rfl, _, zero_sqs _, rfl⟩; clear M; (try clear C); intro b8 w9 h_b8 M; have C := M.ruleAll; simp only [Go.Proofs.YteonahoboligdaaDoor.ruleAll] at C))
            exact S.add (i := 7) hst (by decide) hi0 HR HW M (new_box h_b8) ⟨b8, updG_at .., Nat.le_trans S.base.size h_b8, by rw [S.not_yet hi0 (show 7 ∈ ql6R 8 by decide) (by decide)]; rfl⟩
        · simp only [List.getElem?_cons_succ, List.getElem?_cons_zero, Option.some.injEq] at hi
          subst hi
          have d7 : D 7 = true := hpre _ (Array.mem_of_getElem? (i := 0) rfl) rfl
          have d5 : D 5 = true := hpre _ (Array.mem_of_getElem? (i := 1) rfl) rfl
          have d3 : D 3 = true := hpre _ (Array.mem_of_getElem? (i := 2) rfl) rfl
          have d0 : D 0 = true := hpre _ (Array.mem_of_getElem? (i := 3) rfl) rfl
          have d1 : D 1 = true := hpre _ (Array.mem_of_getElem? (i := 4) rfl) rfl
          have d2 : D 2 = true := hpre _ (Array.mem_of_getElem? (i := 5) rfl) rfl
          have d4 : D 4 = true := hpre _ (Array.mem_of_getElem? (i := 7) rfl) rfl
          obtain ⟨E, P, M⟩ := S.get [5] (by decide) (by intro j hj; simp only [List.mem_cons, List.not_mem_nil, or_false] at hj; subst hj <;> assumption)
          obtain ⟨e5, E5⟩ : g 5 = .agg (sqs (N2 : Int) V) ∧ E 5 = [] := P 5 (by decide)
          simp only [List.flatMap_cons, List.flatMap_nil, List.append_nil, E5, List.cons_append, List.nil_append] at M
          clear P
          have HR : ∀ j ∈ ql6R 8, D j = true := (by intro j hj; have hj' : j ∈ ([0, 1, 2, 3, 4, 5, 7] : List Nat) := hj; simp only [List.mem_cons, List.not_mem_nil, or_false] at hj'; rcases hj' with rfl | rfl | rfl | rfl | rfl | rfl | rfl <;> assumption)
          have HW : ∀ j, D j = true → j ≠ 7 → 8 ∉ ql6W j := fun j _ hne h => by
            unfold ql6W at h
            (repeat' split at h) <;> first | contradiction | simp at h
          have hst := ql6S N t m N2 V pj p l.length cap w.heap.size
          try clear M
          obtain ⟨E', X, P, M, FIN⟩ := S.write (i := 8) (t := 7) hst (by decide) hi0 HR HW d7
          obtain ⟨b8, e7, hb8, rfl⟩ : ∃ b8, g 7 = .pointer (some ⟨b8, 0, none⟩) ∧ w.heap.size ≤ b8 ∧ E' = [.box b8 (bif D 8 then sqs (N2 : Int) V else sqs 0 fun _ _ => 0) 32] := P
          simp only [List.cons_append, List.nil_append] at M FIN
          refine ⟨⟨#[undef, undef, undef, undef, undef, undef, undef, undef, .pointer (some ⟨b8, 0, none⟩), undef, undef, undef, undef, undef, undef, undef, undef, undef, undef, undef, undef, undef, undef, undef, undef, undef, undef, undef, .agg (sqs (N2 : Int) V), undef, undef, undef], []⟩, ?_, ?_⟩
          · intro t ht
            have ht' : t ∈ ([8, 28] : List Nat) := ht
            simp only [List.mem_cons, List.not_mem_nil, or_false] at ht'
            rcases ht' with rfl | rfl
            · exact e7.symm
            · exact e5.symm
          · skip
            have C := M.ruleAll; simp only [Go.Proofs.YteonahoboligdaaDoor.ruleAll] at C
            simp only [hi0, cond_false] at M FIN
            clear C
            have C := M.ruleAll; simp only [Go.Proofs.YteonahoboligdaaDoor.ruleAll] at C
            refine yield_store (ops := #[]) (by exact rfl) (by exact rfl) ?_
            go_wp2_with (first | ((with_reducible apply wpM_sta' M 0 32 (sqs (N2 : Int) V)); rfl; rfl; rfl; rfl; (first | exact .inl (by assumption) | exact .inr rfl | exact .inr (by assumption)); exact ⟨rfl, inf_sqs.trans (congrArg some (sqs_size ..).symm), flat_sqs _ _⟩; (simp only [entCells, List.getElem?_cons_zero, List.getElem?_cons_succ, sqs_size, sqs_size]); clear M; (try clear C); intro w9 M; simp only [List.set_cons_zero, List.set_cons_succ, entBlk, entT, List.getElem?_cons_zero, List.getElem?_cons_succ] at M; have C := M.ruleAll; simp only [Go.Proofs.YteonahoboligdaaDoor.ruleAll] at C))
            exact FIN _ _ [.box b8 (sqs (N2 : Int) V) 32] M ⟨b8, (updG_ne (by decide)).trans e7, hb8, by rw [updD_at]; rfl⟩ rfl
        · simp only [List.getElem?_cons_succ, List.getElem?_cons_zero, Option.some.injEq] at hi
          subst hi
          have d6 : D 6 = true := hpre _ (Array.mem_of_getElem? (i := 0) rfl) rfl
          have d8 : D 8 = true := hpre _ (Array.mem_of_getElem? (i := 1) rfl) rfl
          have d0 : D 0 = true := hpre _ (Array.mem_of_getElem? (i := 2) rfl) rfl
          have d1 : D 1 = true := hpre _ (Array.mem_of_getElem? (i := 3) rfl) rfl
          have d2 : D 2 = true := hpre _ (Array.mem_of_getElem? (i := 4) rfl) rfl
          have d3 : D 3 = true := hpre _ (Array.mem_of_getElem? (i := 5) rfl) rfl
          have d4 : D 4 = true := hpre _ (Array.mem_of_getElem? (i := 6) rfl) rfl
          have d5 : D 5 = true := hpre _ (Array.mem_of_getElem? (i := 7) rfl) rfl
          have d7 : D 7 = true := hpre _ (Array.mem_of_getElem? (i := 9) rfl) rfl
          obtain ⟨E, P, M⟩ := S.get [6] (by decide) (by intro j hj; simp only [List.mem_cons, List.not_mem_nil, or_false] at hj; subst hj <;> assumption)
          obtain ⟨vr, er6, e6, E6⟩ : ∃ vr, g 3 = .tuple #[.agg (sqs (N2 : Int) V), vr] ∧ g 6 = vr ∧ E 6 = [] := P 6 (by decide)
          simp only [List.flatMap_cons, List.flatMap_nil, List.append_nil, E6, List.cons_append, List.nil_append] at M
          clear P
          have HR : ∀ j ∈ ql6R 9, D j = true := (by intro j hj; have hj' : j ∈ ([0, 1, 2, 3, 4, 5, 6, 7, 8] : List Nat) := hj; simp only [List.mem_cons, List.not_mem_nil, or_false] at hj'; rcases hj' with rfl | rfl | rfl | rfl | rfl | rfl | rfl | rfl | rfl <;> assumption)
          have HW : ∀ j, D j = true → 9 ∉ ql6W j := fun j _ h => by
            unfold ql6W at h
            (repeat' split at h) <;> simp at h
          have hst := ql6S N t m N2 V pj p l.length cap w.heap.size
          refine ⟨⟨#[undef, undef, undef, undef, undef, undef, undef, undef, undef, undef, undef, undef, undef, undef, undef, undef, undef, undef, undef, undef, undef, undef, undef, undef, undef, undef, undef, undef, undef, vr, undef, undef], []⟩, ?_, ?_⟩
          · intro t ht
            have ht' : t ∈ ([29] : List Nat) := ht
            simp only [List.mem_cons, List.not_mem_nil, or_false] at ht'
            subst ht'
            exact e6.symm
          · skip
            have C := M.ruleAll; simp only [Go.Proofs.YteonahoboligdaaDoor.ruleAll] at C
            refine yield_walk (ops := #[]) rfl rfl (show 9 < 32 by decide) ?_
            go_wp2
            exact S.val (i := 9) hst (by decide) hi0 HR HW (Below.refl _ _) ⟨vr, (updG_ne (by decide)).trans er6, updG_at .., rfl⟩
      case hQ_ql6 =>
        clear M
        try clear C
        intro D g w2 hall S
        obtain ⟨E, P, M⟩ := S.get [3, 7] (by decide) (fun k hk => hall k (by simp only [List.mem_cons, List.not_mem_nil, or_false] at hk; show k < 10; omega))
        obtain ⟨vr, e3, E3⟩ : ∃ vr, g 3 = .tuple #[.agg (sqs (N2 : Int) V), vr] ∧ E 3 = [.row w.heap.size vr N (i64N pj) 2 1] := P 3 (by decide)
        obtain ⟨b8, e7, hb8, E7⟩ : ∃ b8, g 7 = .pointer (some ⟨b8, 0, none⟩) ∧ w.heap.size ≤ b8 ∧ E 7 = [.box b8 (bif D 8 then sqs (N2 : Int) V else sqs 0 fun _ _ => 0) 32] := P 7 (by decide)
        simp only [List.flatMap_cons, List.flatMap_nil, List.append_nil, E3, E7, List.cons_append, List.nil_append] at M
        clear P
        obtain ⟨E', P, _⟩ := S.get [0, 1, 2, 3, 4, 5, 6, 7, 8, 9] (by decide) (fun k hk => hall k (by simp only [List.mem_cons, List.not_mem_nil, or_false] at hk; show k < 10; omega))
        have e0 : g 0 = .agg (sqs (N : Int) t) := (P 0 (by decide)).1
        have e1 : g 1 = .slice p l.length cap := (P 1 (by decide)).1
        have e2 : g 2 = .int .i64 (m : Int) := (P 2 (by decide)).1
        obtain ⟨z4_vr, er4, e4, -⟩ : ∃ vr, g 3 = .tuple #[.agg (sqs (N2 : Int) V), vr] ∧ g 4 = .tuple #[.agg (sqs (N2 : Int) V), vr] ∧ E' 4 = [] := P 4 (by decide)
        have hq4 := e3.symm.trans er4
        simp only [Value.tuple.injEq, Array.mk.injEq, List.cons.injEq, and_true, true_and, Value.agg.injEq] at hq4
        obtain rfl := hq4
        have e5 : g 5 = .agg (sqs (N2 : Int) V) := (P 5 (by decide)).1
        obtain ⟨z6_vr, er6, e6, -⟩ : ∃ vr, g 3 = .tuple #[.agg (sqs (N2 : Int) V), vr] ∧ g 6 = vr ∧ E' 6 = [] := P 6 (by decide)
        have hq6 := e3.symm.trans er6
        simp only [Value.tuple.injEq, Array.mk.injEq, List.cons.injEq, and_true, true_and, Value.agg.injEq] at hq6
        obtain rfl := hq6
        obtain ⟨z9_vr, er9, e9, -⟩ : ∃ vr, g 3 = .tuple #[.agg (sqs (N2 : Int) V), vr] ∧ g 9 = vr ∧ E' 9 = [] := P 9 (by decide)
        have hq9 := e3.symm.trans er9
        simp only [Value.tuple.injEq, Array.mk.injEq, List.cons.injEq, and_true, true_and, Value.agg.injEq] at hq9
        obtain rfl := hq9
        simp only [fullAct, e0, e1, e2, e3, e4, e5, e6, e7, e9, Act.put, List.setIfInBounds_toArray, List.set_cons_succ, List.set_cons_zero]
        simp only [hall 8 (by decide), cond_true] at M
        clear P S hall e0 e1 e2 e3 e4 e5 e6 e7 e9
        try clear E'
        try clear E
        obtain ⟨pv, cv, hvr⟩ := own_form (M.row 0 rfl)
        subst hvr
        have C := M.ruleAll; simp only [Go.Proofs.YteonahoboligdaaDoor.ruleAll] at C
        go_wp2_with (first | ((with_reducible apply wpM_lda' M 1 32 0 (sqs (N2 : Int) V)); rfl; rfl; rfl; exact ⟨rfl, inf_sqs.trans (congrArg some (sqs_size ..).symm), _, und_sqs, rfl⟩; exact whole_of rfl) | ((with_reducible apply wpM_sta' M 2 32 (sqs (N2 : Int) V)); rfl; rfl; rfl; rfl; (first | exact .inl (by assumption) | exact .inr rfl | exact .inr (by assumption)); exact ⟨rfl, inf_sqs.trans (congrArg some (sqs_size ..).symm), flat_sqs _ _⟩; (simp only [entCells, List.getElem?_cons_zero, List.getElem?_cons_succ, sqs_size, sqs_size]); clear M; (try clear C); intro w9 M; simp only [List.set_cons_zero, List.set_cons_succ, entBlk, entT, List.getElem?_cons_zero, List.getElem?_cons_succ] at M; have C := M.ruleAll; simp only [Go.Proofs.YteonahoboligdaaDoor.ruleAll] at C))
        have HM7 := Hid2.mk (show Mm no w _ [.row w.heap.size (.slice pv N cv) N (i64N pj) 2 1] from M.sub [0] (by decide))
        refine bodyPost_ret (v := .tuple #[.agg (sqs (N2 : Int) V), .slice pv N cv, .int .i64 0]) (by exact results_part3 rfl _ _ _ _ (sqs (N2 : Int) V) _ rfl und_sqs rfl inf_sqs (cells_of_blk0 (M.box 2 rfl)) _ _ rfl rfl) rfl ?_
        exact ⟨_, rfl, by rw [HLN.out]; exact HM7.out⟩
  · have hcc := ls_cases n t xs
    rw [show qlRes n t xs = ⟨0, fun _ _ => 0, [], lsCode n t xs⟩ from if_neg hc]
    generalize lsCode n t xs = c at *
    have hn0 : (c == 0) = false := beq_eq_false_iff_ne.2 hc
    have hn1 : (c != 0) = true := by rw [bne, hn0]; rfl
    clear hby hr hg
    go_enter Tryd.func15, Tryd.ntmps15
    go_wp2_with (first | ((with_reducible apply wpM_box' M 32 (sqs n t)); rfl; exact ⟨rfl, rfl⟩; clear M; (try clear C); intro bq w9 h_bq M; have C := M.ruleAll; simp only [Go.Proofs.YteonahoboligdaaDoor.ruleAll] at C) | ((with_reducible apply wpM_alloc' M 32 (sqs 0 fun _ _ => 0)); rfl; exact ⟨rfl, _, zero_sqs _, rfl⟩; clear M; (try clear C); intro bo w9 h_bo M; have C := M.ruleAll; simp only [Go.Proofs.YteonahoboligdaaDoor.ruleAll] at C) | ((with_reducible apply wpM_lda' M 1 32 0 (sqs n t)); rfl; rfl; rfl; exact ⟨rfl, inf_sqs.trans (congrArg some (sqs_size ..).symm), _, und_sqs, rfl⟩; exact whole_of rfl) | (go_at_call 22; ((with_reducible refine (H1.out _ M.below).mono ?_); rintro e w1 ⟨rfl, hb⟩; have hsz := M.size; (try (have G9 := G.later hb; clear G; have G := G9; clear G9)); have M9 := M.later hb; clear M; (try clear C); have M := M9; clear M9; have C := M.ruleAll; simp only [Go.Proofs.YteonahoboligdaaDoor.ruleAll] at C)) | (refine wpList_build 32 _ rfl rfl [] rfl _ (build_sqz _) ?_) | ((with_reducible apply wpM_sta' M 0 32 (sqs 0 fun _ _ => 0)); rfl; rfl; rfl; rfl; (first | exact .inl (by assumption) | exact .inr rfl | exact .inr (by assumption)); exact ⟨rfl, inf_sqs.trans (congrArg some (sqs_size ..).symm), flat_sqs _ _⟩; (simp only [entCells, List.getElem?_cons_zero, List.getElem?_cons_succ, sqs_size, sqs_size]); clear M; (try clear C); intro w9 M; simp only [List.set_cons_zero, List.set_cons_succ, entBlk, entT, List.getElem?_cons_zero, List.getElem?_cons_succ] at M; have C := M.ruleAll; simp only [Go.Proofs.YteonahoboligdaaDoor.ruleAll] at C))
    refine bodyPost_ret (v := .tuple #[.agg (sqs 0 fun _ _ => 0), .slice none 0 0, .int .i64 c]) (by exact results_part3 rfl _ _ _ _ (sqs 0 fun _ _ => 0) _ rfl und_sqs rfl inf_sqs (cells_of_blk0 (M.box 0 rfl)) _ _ rfl rfl) rfl ?_
    exact FqPost.nil M.below c
end Go.Proofs.YteonahoboligdaaDoor

