/- Left cosets of a subloop, as both sides find them. Plain Lean. -/
import Derived.Test.YteonahoboligdaaDoorG15
import Derived.Test.YteonahoboligdaaDoorG21
import Derived.Test.YteonahoboligdaaDoorG8
import Derived.Shelf.Lay
import Derived.Shelf.Small.Bits
import Derived.Test.YteonahoboligdaaDoorI4
namespace Go.Proofs.YteonahoboligdaaDoor
set_option linter.unusedSimpArgs false
set_option linter.unusedVariables false

/-- The least bit, from j on. -/
def loA (m : Nat) : Nat → Nat → Nat
  | j, 0 => j
  | j, f + 1 => if m.testBit j = true then j else loA m (j + 1) f
def loM (m : Nat) : Nat := loA m 0 10
theorem loA_le {m x : Nat} (h : m.testBit x = true) : ∀ {f j : Nat}, j ≤ x → x < j + f → loA m j f ≤ x ∧ m.testBit (loA m j f) = true
  | 0, j, h1, h2 => by omega
  | f + 1, j, h1, h2 => by
    rw [loA]
    split
    · rename_i h3; exact ⟨h1, h3⟩
    · rename_i h3
      by_cases e : j = x
      · subst e; exact absurd h h3
      · exact loA_le h (by omega) (by omega)
theorem loM_le {m x : Nat} (hx : x < 10) (h : m.testBit x = true) : loM m ≤ x ∧ m.testBit (loM m) = true := loA_le h (Nat.zero_le _) (by omega)
theorem and_zero {a b : Nat} (h : a &&& b = 0) {x : Nat} (h1 : a.testBit x = true) : b.testBit x = false := by
  have h2 := congrArg (fun v => v.testBit x) h
  simp only [Nat.testBit_and, h1, Nat.zero_testBit, Bool.true_and] at h2
  exact h2
theorem and_zero_of {a b : Nat} (h : ∀ x, a.testBit x = true → b.testBit x = true → False) : a &&& b = 0 := mask_ext fun x => by
  rw [Nat.testBit_and, Nat.zero_testBit, Bool.and_eq_true]
  exact ⟨fun h2 => (h x h2.1 h2.2).elim, fun h => by cases h⟩
theorem meet_of {a b : Nat} (h : a &&& b ≠ 0) : ∃ x, a.testBit x = true ∧ b.testBit x = true := by
  by_cases e : ∃ x, a.testBit x = true ∧ b.testBit x = true
  · exact e
  · exact absurd (and_zero_of fun x h1 h2 => e ⟨x, h1, h2⟩) h

/-- The left coset of an element, as bits. -/
noncomputable def csM (n : Nat) (t : Nat → Nat → Nat) (s x : Nat) : Nat := mkP (fun z => z < n ∧ s.testBit (lq t x z) = true) 10
theorem csM_lt (n : Nat) (t : Nat → Nat → Nat) (s x : Nat) : csM n t s x < 1024 := mkP_lt _ 10
section
variable {n : Nat} {t : Nat → Nat → Nat} (hl : Loo n t) {s : Nat}
include hl
theorem csM_bit (x z : Nat) : (csM n t s x).testBit z = true ↔ z < n ∧ s.testBit (lq t x z) = true := by
  unfold csM
  rw [mkP_bit]
  exact ⟨fun h => h.2, fun h => ⟨by have := h.1; have := hl.sq.hi; omega, h⟩⟩
theorem loo_back {x y : Nat} (hx : x < n) (hy : y < n) : lq t x (t x y) = y := lq_row hl.sq (by omega) (by omega)
theorem csM_self (h0 : s.testBit 0 = true) {x : Nat} (hx : x < n) : (csM n t s x).testBit x = true := (csM_bit hl x x).2 ⟨hx, by
  have h := loo_back hl hx hl.pos
  rw [hl.zr x hx] at h
  rw [h]; exact h0⟩
theorem csM_mem (hs : ∀ i, s.testBit i = true → i < n) {x z : Nat} (hx : x < n) : (csM n t s x).testBit z = true ↔ ∃ i, s.testBit i = true ∧ t x i = z := by
  rw [csM_bit hl]
  constructor
  · rintro ⟨hz, h⟩
    exact ⟨_, h, (hl.lq hx hz).2⟩
  · rintro ⟨i, hi, rfl⟩
    exact ⟨hl.lt hx (hs i hi), by rw [loo_back hl hx (hs i hi)]; exact hi⟩
theorem csM_n {x z : Nat} (h : (csM n t s x).testBit z = true) : z < n := ((csM_bit hl x z).1 h).1
end

/-- The different sets among the first k, if no two of them meet. -/
def cosTo (C : Nat → Nat) : Nat → Option (List Nat)
  | 0 => some []
  | k + 1 => match cosTo C k with
    | none => none
    | some out => if C k ∈ out then some out else if ∃ o ∈ out, C k &&& o ≠ 0 then none else some (out ++ [C k])
structure Cos (C : Nat → Nat) (k : Nat) (out : List Nat) : Prop where
  is : cosTo C k = some out
  sub : ∀ o ∈ out, ∃ x, x < k ∧ o = C x
  all : ∀ x, x < k → C x ∈ out
  dis : out.Pairwise fun a b => a &&& b = 0
  srt : out.Pairwise fun a b => loM a < loM b
  len : out.length ≤ k
theorem Cos.start (C : Nat → Nat) : Cos C 0 [] := ⟨rfl, (fun _ h => by cases h), (fun _ h => by omega), List.Pairwise.nil, List.Pairwise.nil, Nat.le_refl _⟩
theorem cosTo_none {C : Nat → Nat} {k : Nat} (h : cosTo C k = none) : ∀ {m : Nat}, k ≤ m → cosTo C m = none
  | 0, hm => by obtain rfl : k = 0 := by omega
                exact h
  | m + 1, hm => by
    by_cases e : k = m + 1
    · subst e; exact h
    · rw [cosTo, cosTo_none h (m := m) (by omega)]
section
variable {C : Nat → Nat} {n : Nat} (hC : ∀ x, x < n → (C x).testBit x = true) (hn : n ≤ 10) {k : Nat} {out : List Nat}
theorem Cos.known (V : Cos C k out) (h : C k ∈ out) : Cos C (k + 1) out :=
  ⟨by rw [cosTo, V.is]; exact if_pos h, fun o ho => by obtain ⟨x, hx, e⟩ := V.sub o ho; exact ⟨x, by omega, e⟩, fun x hx => by
    by_cases e : x = k
    · subst e; exact h
    · exact V.all x (by omega), V.dis, V.srt, by have := V.len; omega⟩
theorem Cos.meets (V : Cos C k out) (h : C k ∉ out) {o : Nat} (ho : o ∈ out) (h2 : C k &&& o ≠ 0) : cosTo C (k + 1) = none := by
  rw [cosTo, V.is]
  show (if C k ∈ out then some out else if ∃ o ∈ out, C k &&& o ≠ 0 then none else some (out ++ [C k])) = none
  rw [if_neg h, if_pos ⟨o, ho, h2⟩]
include hC hn in
theorem Cos.add (V : Cos C k out) (hk : k < n) (h : ∀ o ∈ out, C k &&& o = 0) : Cos C (k + 1) (out ++ [C k]) := by
  have hck := hC k hk
  have hno : C k ∉ out := fun hm => by
    have := and_zero (h _ hm) hck
    rw [hck] at this; cases this
  have hsym : ∀ o ∈ out, o &&& C k = 0 := fun o ho => by rw [Nat.and_comm]; exact h o ho
  refine ⟨?_, fun o ho => ?_, fun x hx => ?_, ?_, ?_, by rw [List.length_append, List.length_singleton]; have := V.len; omega⟩
  · rw [cosTo, V.is]
    show (if C k ∈ out then some out else if ∃ o ∈ out, C k &&& o ≠ 0 then none else some (out ++ [C k])) = _
    rw [if_neg hno, if_neg fun ⟨o, ho, h2⟩ => h2 (h o ho)]
  · rcases List.mem_append.1 ho with ho | ho
    · obtain ⟨x, hx, e⟩ := V.sub o ho; exact ⟨x, by omega, e⟩
    · exact ⟨k, by omega, List.mem_singleton.1 ho⟩
  · by_cases e : x = k
    · subst e; exact List.mem_append_right _ (List.mem_singleton.2 rfl)
    · exact List.mem_append_left _ (V.all x (by omega))
  · exact List.pairwise_append.2 ⟨V.dis, List.pairwise_singleton _ _, fun a ha b hb => by rw [List.mem_singleton.1 hb]; exact hsym a ha⟩
  · refine List.pairwise_append.2 ⟨V.srt, List.pairwise_singleton _ _, fun a ha b hb => ?_⟩
    rw [List.mem_singleton.1 hb]
    obtain ⟨x, hx, rfl⟩ := V.sub a ha
    have h1 := (loM_le (by omega) (hC x (by omega))).1
    obtain ⟨h2, h3⟩ := loM_le (by omega) hck
    rcases Nat.lt_or_ge (loM (C k)) k with h4 | h4
    · have h5 := and_zero (h _ (V.all _ h4)) h3
      rw [hC _ (by omega)] at h5; cases h5
    · omega
/-- A known set meets no other one. -/
theorem Cos.two (V : Cos C k out) {a b : Nat} (ha : a ∈ out) (hb : b ∈ out) (h : a ≠ b) : a &&& b = 0 := by
  have := V.dis
  rw [List.pairwise_iff_getElem] at this
  obtain ⟨i, hi, rfl⟩ := List.mem_iff_getElem.1 ha
  obtain ⟨j, hj, rfl⟩ := List.mem_iff_getElem.1 hb
  rcases Nat.lt_trichotomy i j with h1 | rfl | h1
  · exact this i j hi hj h1
  · exact absurd rfl h
  · rw [Nat.and_comm]; exact this j i hj hi h1
theorem Cos.fail (V : Cos C k out) (hk : k < n) {o : Nat} (ho : o ∈ out) (h1 : C k ≠ o) (h2 : C k &&& o ≠ 0) : cosTo C n = none := by
  refine cosTo_none (V.meets (fun hm => h2 (V.two hm ho h1)) ho h2) (by omega)
end
end Go.Proofs.YteonahoboligdaaDoor

/- The least bit of a set, and the sort of sets by their least bits: contracts. -/
namespace Go.Proofs
open Go.Shelf
shelf_lay Lays.n125 Nm 125 at Tryd as Tryd.bitsLen
end Go.Proofs

namespace Go.Proofs.YteonahoboligdaaDoor
set_option linter.unusedSimpArgs false
set_option linter.unusedVariables false
open Go Go.RowKit

/-- The package's table of the places of single bits. -/
def dbL : List Nat := [0, 1, 56, 2, 57, 49, 28, 3, 61, 58, 42, 50, 38, 29, 17, 4, 62, 47, 59, 36, 45, 43, 51, 22, 53, 39, 33, 30, 24, 18, 12, 5, 63, 55, 48, 27, 60, 41, 37, 16, 46, 35, 44, 21, 52, 32, 23, 11, 54, 26, 40, 15, 34, 20, 31, 10, 25, 14, 19, 9, 13, 8, 7, 6]
def glbT (w : World) : Prop := ∀ k, k < 64 → w.cell? ⟨1, k, none⟩ = some (.int .u8 (dbL.getD k 0 : Nat))
theorem glbT.later {w w' : World} (h : glbT w) (hb : Below w.heap.size w w') : glbT w' := fun k hk => by
  have hlt : 1 < w.heap.size := World.block_lt_of_cell? w ⟨1, k, none⟩ (h k hk)
  rw [hb.cell (p := ⟨1, k, none⟩) hlt]; exact h k hk

/-- The place in the table. -/
def dbX (m : Nat) : Int := IntKind.u64.wrap (bits BinOp.and IntKind.u64 (m : Int) (IntKind.u64.wrap (-(m : Int))) * 285870213051353865) / 288230376151711744
theorem dbX_all : ∀ m, m < 1024 → 0 < m → (0 ≤ dbX m ∧ dbX m < 64) ∧ dbL.getD (dbX m).toNat 0 = loM m := by decide +kernel
theorem dbX_at {m : Nat} (h0 : 0 < m) (hm : m < 1024) : ∃ k : Nat, k < 64 ∧ dbX m = (k : Int) ∧ dbL.getD k 0 = loM m := by
  obtain ⟨⟨h1, h2⟩, h3⟩ := dbX_all m hm h0
  exact ⟨(dbX m).toNat, by omega, by omega, h3⟩
theorem loA_hi (m : Nat) : ∀ f j, loA m j f ≤ j + f
  | 0, j => Nat.le_refl _
  | f + 1, j => by
    rw [loA]
    split
    · omega
    · have := loA_hi m f (j + 1); omega
theorem loM_hi (m : Nat) : loM m ≤ 10 := loA_hi m 10 0

set_option maxRecDepth 100000 in
set_option maxHeartbeats 1000000 in
theorem tz64_any (m : Nat) (h0 : 0 < m) (hm : m < 1024) (w : World) (hg : glbT w) : Calls Tryd.prog 70 #[.int .u64 (m : Int)] w fun e w' => e = .returned (.int .i64 (loM m : Nat)) ∧ w = w' := by
  have hm' : (m : Int) < 1024 := by omega
  have hz : ((m : Int) == 0) = false := by simp; omega
  obtain ⟨k, hk, hx, hv⟩ := dbX_at h0 hm
  have hc := hg k hk
  have hl := loM_hi m
  rw [hv] at hc
  generalize loM m = r at *
  unfold dbX at hx
  have hk' : (k : Int) < 64 := by omega
  have hl' : (r : Int) < 11 := by omega
  clear hg hv
  go_enter Tryd.func70, Tryd.ntmps70
  go_wp2
  go_ret
  exact ⟨rfl, rfl⟩
set_option maxRecDepth 100000 in
set_option maxHeartbeats 1000000 in
theorem tz_any (m : Nat) (h0 : 0 < m) (hm : m < 1024) (w : World) (hg : glbT w) : Calls Tryd.prog 47 #[.int .u64 (m : Int)] w fun e w' => e = .returned (.int .i64 (loM m : Nat)) ∧ w = w' := by
  have hm' : (m : Int) < 1024 := by omega
  have H := tz64_any m h0 hm w hg
  go_enter Tryd.func47, Tryd.ntmps47
  go_wp2_with (first | (go_at_call 70; ((with_reducible refine H.mono ?_); rintro e w1 ⟨rfl, rfl⟩)))
  go_ret
  exact ⟨rfl, rfl⟩
set_option maxRecDepth 100000 in
set_option maxHeartbeats 1000000 in
theorem cosetsFn_any (a b : Nat) (ha : 0 < a) (hb : 0 < b) (ha2 : a < 1024) (hb2 : b < 1024) (w : World) (hg : glbT w) : Calls Tryd.prog 46 #[.int .i64 (a : Int), .int .i64 (b : Int)] w fun e w' => e = .returned (.int .i64 ((loM a : Int) - (loM b : Int))) ∧ w = w' := by
  have ha' : (a : Int) < 1024 := by omega
  have hb' : (b : Int) < 1024 := by omega
  have H1 := tz_any a ha ha2 w hg
  have H2 := tz_any b hb hb2 w hg
  have l1 := loM_hi a
  have l2 := loM_hi b
  generalize loM a = x at *
  generalize loM b = y at *
  have l1' : (x : Int) < 11 := by omega
  have l2' : (y : Int) < 11 := by omega
  go_enter Tryd.func46, Tryd.ntmps46
  go_wp2_with (first | (go_at_call 47; (first | ((with_reducible refine H1.mono ?_); rintro e w1 ⟨rfl, rfl⟩) | ((with_reducible refine H2.mono ?_); rintro e w1 ⟨rfl, rfl⟩))))
  go_ret
  exact ⟨rfl, rfl⟩

/-! ### A row of sets that is in order stays as it is -/
set_option maxRecDepth 100000 in
set_option maxHeartbeats 4000000 in
theorem insSort_any (l : List Nat) (hlen : l.length ≤ 10) (hl : ∀ m ∈ l, 0 < m ∧ m < 1024) (hs : l.Pairwise fun a b => loM a < loM b) (w : World) (hg : glbT w) (g cap : Nat) (hr : rds w g l.length (i64F l)) :
    Calls Tryd.prog 77 #[.slice (some ⟨g, 0, none⟩) l.length cap, .int .i64 0, .int .i64 (l.length : Int), .func (.func 46) #[] #[]] w fun e w' => e = .returned (.tuple #[]) ∧ Below w.heap.size w w' := by
  have M := (Mm.start no w).add (x := .rd g l.length (i64F l)) hr fun _ h => by cases h
  have HG := Hid2.mk (fun w1 (hb : Below w.heap.size w w1) => hg.later hb)
  have HCM := Hid2.mk (show ∀ (i x y : Nat), l[i]? = some x → l[i + 1]? = some y → ∃ d : Int, -20 < d ∧ d < 20 ∧ decide (d < 0) = false ∧ ∀ w1, glbT w1 → Calls Tryd.prog 46 #[.int .i64 (y : Int), .int .i64 (x : Int)] w1 fun e w' => e = .returned (.int .i64 d) ∧ w1 = w' from fun i x y hx hy => by
    have hxy : loM x < loM y := by
      rw [List.pairwise_iff_getElem] at hs
      obtain ⟨h1, rfl⟩ := List.getElem?_eq_some_iff.1 hx
      obtain ⟨h2, rfl⟩ := List.getElem?_eq_some_iff.1 hy
      exact hs i (i + 1) h1 h2 (by omega)
    have hxl := hl x (List.mem_of_getElem? hx)
    have hyl := hl y (List.mem_of_getElem? hy)
    have := loM_hi y
    exact ⟨(loM y : Int) - (loM x : Int), by omega, by omega, decide_eq_false (by omega), fun w1 hg1 => cosetsFn_any y x hyl.1 hxl.1 hyl.2 hxl.2 w1 hg1⟩)
  have HL := Hid2.mk (fun m (hm : m ∈ l) => (hl m hm).2)
  clear hr hg hs hl
  have C := M.ruleAll; simp only [Go.Proofs.YteonahoboligdaaDoor.ruleAll] at C
  go_enter Tryd.func77, Tryd.ntmps77
  go_wp2
  go_loopw [8, 9] (fun i _ wr => ∃ k : Nat, 1 ≤ k ∧ i = .int .i64 (k : Int) ∧ k ≤ l.length + 1 ∧ Mm no w wr [.rd g l.length (i64F l)]) (fun i _ _ => l.length + 1 - (intOf i).toNat)
  case atStart => exact ⟨1, by omega, rfl, by omega, M⟩
  case round =>
    obtain ⟨k, hk1, rfl, hk, M9⟩ := hrel
    clear M; (try clear C)
    have M := M9
    clear M9
    have C := M.ruleAll; simp only [Go.Proofs.YteonahoboligdaaDoor.ruleAll] at C
    by_cases hlt : k < l.length
    · have hlt' : (k : Int) < (l.length : Int) := by omega
      have dlt : decide ((k : Int) < (l.length : Int)) = true := decide_eq_true hlt'
      obtain ⟨j, rfl⟩ : ∃ j, k = j + 1 := ⟨k - 1, by omega⟩
      have e1 := List.getElem?_eq_getElem (l := l) (show j < l.length by omega)
      have e2 := List.getElem?_eq_getElem hlt
      have h1 := HL.out _ (List.getElem_mem (l := l) (show j < l.length by omega))
      have h2 := HL.out _ (List.getElem_mem hlt)
      obtain ⟨d, hd19, hd20, hd0, hcall⟩ := HCM.out j _ _ e1 e2
      have HCALL := Hid2.mk (fun w1 (hb : Below w.heap.size w w1) => hcall w1 (HG.out w1 hb))
      generalize l[j]'(by omega) = x at *
      generalize l[j + 1] = y at *
      have c1 := i64F_at e1
      have c2 := i64F_at e2
      have h1' : (x : Int) < 1024 := by omega
      have h2' : (y : Int) < 1024 := by omega
      have hjp : (0 : Int) < (j : Int) + 1 := by omega
      have hw1 : wrap64 (j : Int) = (j : Int) := wrap_small _ (by omega) (by omega)
      have hjl : j < l.length := by omega
      have hjl' : (j : Int) < (l.length : Int) := by omega
      clear e1 e2 hcall
      go_wp2
      go_loopw [9] (fun i wr => i = .int .i64 ((j : Int) + 1) ∧ Mm no w wr [.rd g l.length (i64F l)]) (fun _ _ => 0)
      case atStart => exact ⟨by go_num, M⟩
      case round =>
        obtain ⟨rfl, M9⟩ := hrel
        clear M; (try clear C)
        have M := M9
        clear M9
        clear dlt
        have C := M.ruleAll; simp only [Go.Proofs.YteonahoboligdaaDoor.ruleAll] at C
        go_wp2
        apply wp_region_mm M 15 (by kernel_rfl) (by kernel_rfl); (simp only [List.take_succ_cons, List.take_zero]; repeat (first | exact wpText_nil | (apply wpText_cons; (intro w2 M; have C := M.ruleAll; simp only [Go.Proofs.YteonahoboligdaaDoor.ruleAll] at C; go_wp2_with (first | ((with_reducible refine (HCALL.out _ M.below).mono ?_); rintro e w1 ⟨rfl, rfl⟩)); exact ⟨rfl, rfl, M⟩); rfl))); (clear M; (try clear C); intro w2 M; simp only [List.drop_succ_cons, List.drop_zero]; have C := M.ruleAll; simp only [Go.Proofs.YteonahoboligdaaDoor.ruleAll] at C)
        go_wp2
        go_roundw
        case rel => exact ⟨j + 2, by omega, by go_num, by omega, M⟩
        case measure => simp [intOf]; omega
    · have hge : ¬ ((k : Int) < (l.length : Int)) := by omega
      go_wp2
      go_end0
      exact ⟨rfl, M.below⟩
set_option maxRecDepth 100000 in
set_option maxHeartbeats 4000000 in
theorem pdq_any (l : List Nat) (hlen : l.length ≤ 10) (hl : ∀ m ∈ l, 0 < m ∧ m < 1024) (hs : l.Pairwise fun a b => loM a < loM b) (w : World) (hg : glbT w) (g cap : Nat) (hr : rds w g l.length (i64F l)) (lim : Int) :
    Calls Tryd.prog 67 #[.slice (some ⟨g, 0, none⟩) l.length cap, .int .i64 0, .int .i64 (l.length : Int), .int .i64 lim, .func (.func 46) #[] #[]] w fun e w' => e = .returned (.tuple #[]) ∧ Below w.heap.size w w' := by
  have H := Hid2.mk (insSort_any l hlen hl hs w hg g cap hr)
  clear hr hg hs hl
  go_enter Tryd.func67, Tryd.ntmps67
  go_wp2
  go_loopw [1, 2, 3, 10, 11, 12, 13, 14, 15, 16, 17, 18, 19, 20] (fun a b _ _ _ _ _ _ _ _ _ _ _ _ wr => a = .int .i64 0 ∧ b = .int .i64 (l.length : Int) ∧ wr = w) (fun _ _ _ _ _ _ _ _ _ _ _ _ _ _ _ => 0)
  case atStart => exact ⟨rfl, rfl, rfl⟩
  case round =>
    obtain ⟨rfl, rfl, rfl⟩ := hrel
    go_wp2_with (first | (go_at_call 77; ((with_reducible refine H.out.mono ?_); rintro e w1 ⟨rfl, hb⟩)))
    refine bodyPost_ret (results_none rfl _ _ _) rfl ?_
    exact ⟨rfl, hb⟩
set_option maxRecDepth 100000 in
set_option maxHeartbeats 1000000 in
theorem sortF_in (l : List Nat) (hlen : l.length ≤ 10) (hl : ∀ m ∈ l, 0 < m ∧ m < 1024) (hs : l.Pairwise fun a b => loM a < loM b) (w : World) (hg : glbT w) (g cap : Nat) (hr : rds w g l.length (i64F l)) :
    Calls Tryd.prog 45 #[.slice (some ⟨g, 0, none⟩) l.length cap, .func (.func 46) #[] #[]] w fun e w' => e = .returned (.tuple #[]) ∧ Below w.heap.size w w' := by
  have H := Hid2.mk (fun lim => pdq_any l hlen hl hs w hg g cap hr lim)
  have hlen' : (l.length : Int) ≤ 10 := by omega
  have HB : Hid2 (Calls Tryd.prog 68 #[.int .u64 (l.length : Int)] w fun e w' => ∃ v : Int, e = .returned (.int .i64 v) ∧ w' = w) := ⟨(show Calls Tryd.prog 68 _ _ _ from Any.bits_Len Tryd.bitsLen (l.length : Int) w (by omega) (by omega)).mono fun e w' ⟨h1, h2⟩ => ⟨_, h1, h2⟩⟩
  clear hr hg hs hl
  go_enter Tryd.func45, Tryd.ntmps45
  go_wp2_with (first | (go_at_call 68; ((with_reducible refine HB.out.mono ?_); rintro e w1 ⟨v, rfl, rfl⟩)) | (go_at_call 67; ((with_reducible refine (H.out _).mono ?_); rintro e w1 ⟨rfl, hb⟩)))
  go_end0
  exact ⟨rfl, hb⟩
end Go.Proofs.YteonahoboligdaaDoor

/- Left cosets, for the program: contracts. -/
namespace Go.Proofs.YteonahoboligdaaDoor
set_option linter.unusedSimpArgs false
set_option linter.unusedVariables false
open Go Go.RowKit

theorem csM_those (n : Nat) (hn : n ≤ 10) (t : Nat → Nat → Nat) (s x : Nat) : mkP (fun z => s.testBit (lq t x z) = true) n = csM n t s x := mask_ext fun i => by
  unfold csM
  rw [mkP_bit, mkP_bit]
  exact ⟨fun h => ⟨by omega, h⟩, fun h => h.2⟩
theorem mkP_lt10 (p : Nat → Prop) {k : Nat} (hk : k ≤ 10) : mkP p k < 1024 := Nat.lt_of_lt_of_le (mkP_lt p k) (Nat.pow_le_pow_right (n := 2) (by omega) hk)

set_option maxRecDepth 100000 in
set_option maxHeartbeats 2000000 in
theorem those_any (n : Nat) (t : Nat → Nat → Nat) (p : Nat → Bool) (f : Nat) (fa cp : Array Value) (w : World) (h0 : 1 ≤ n) (h1 : n ≤ 10) (hen : ∀ (args : Array Value) (w : World), (callFunc f args).run Tryd.prog w = .ok (.enter f args) w)
    (hf : ∀ x, x < n → ∀ w1, Below w.heap.size w w1 → Calls Tryd.prog f (fa.push (.int .u8 (x : Int)) ++ cp) w1 fun e w' => e = .returned (.bool (p x)) ∧ Below w1.heap.size w1 w') :
    Calls Tryd.prog 65 #[.agg (sqs (n : Int) t), .func (.func f) fa cp] w fun e w' => e = .returned (.int .i64 (mkP (fun z => p z = true) n : Nat)) ∧ Below w.heap.size w w' := by
  have M := Mm.start no w
  have HF := Hid2.mk hf
  have h1' : (1 : Int) ≤ n := by omega
  have h2' : (n : Int) ≤ 10 := by omega
  have HM0 := Hid2.mk (show mkP (fun z => p z = true) 0 = 0 from rfl)
  have HMT := Hid2.mk (fun k (h : p k = true) => show mkP (fun z => p z = true) (k + 1) = mkP (fun z => p z = true) k ||| 2 ^ k from if_pos h)
  have HMF := Hid2.mk (fun k (h : ¬ p k = true) => show mkP (fun z => p z = true) (k + 1) = mkP (fun z => p z = true) k from if_neg h)
  have HLT := Hid2.mk (fun k (hk : k ≤ 10) => mkP_lt10 (fun z => p z = true) hk)
  generalize mkP (fun z => p z = true) = F at *
  clear hf
  go_enter Tryd.func65, Tryd.ntmps65
  go_wp2_with (first | ((with_reducible apply wpM_box' M 32 (sqs (n : Int) t)); rfl; exact ⟨rfl, rfl⟩; clear M; (try clear C); intro bq w9 h_bq M; have C := M.ruleAll; simp only [Go.Proofs.YteonahoboligdaaDoor.ruleAll] at C) | ((with_reducible apply wpM_lda' M 0 32 0 (sqs (n : Int) t)); rfl; rfl; rfl; exact ⟨rfl, inf_sqs.trans (congrArg some (sqs_size ..).symm), _, und_sqs, rfl⟩; exact whole_of rfl) | (go_at_call 43; ((with_reducible refine (elements_any _ _ _ (by omega) (by omega)).mono ?_); rintro e w1 ⟨g1, cap_g1, rfl, hb, hg, hr⟩; have hsz := M.size; have M9 := M.gain hb (x := .rd g1 n (fun j => .int .u8 (j : Int))) hr (fun b h => by cases h; exact hg); clear M; (try clear C); have M := M9; clear M9; (try simp only [List.set_cons_zero, List.set_cons_succ] at M); have C := M.ruleAll; simp only [Go.Proofs.YteonahoboligdaaDoor.ruleAll] at C; clear hb hg hr)))
  go_loopw [5, 7, 11] (fun o _ i wr => ∃ k : Nat, k ≤ n ∧ o = .int .i64 (F k : Nat) ∧ i = .int .i64 (k : Int) ∧ Mm no w wr [.rd g1 n (fun j => .int .u8 (j : Int)), .box bq (sqs (n : Int) t) 32]) (fun _ _ i _ => n - (intOf i).toNat)
  case atStart => exact ⟨0, by omega, by rw [HM0.out]; rfl, rfl, M⟩
  case round =>
    obtain ⟨k, hk, rfl, rfl, M9⟩ := hrel
    clear M; (try clear C)
    have M := M9
    clear M9
    have C := M.ruleAll; simp only [Go.Proofs.YteonahoboligdaaDoor.ruleAll] at C
    have hF := HLT.out k (by omega)
    by_cases hlt : k < n
    · have hlt' : (k : Int) < (n : Int) := by omega
      have hk10 : (k : Int) < 10 := by omega
      have dlt : decide ((k : Int) < (n : Int)) = true := decide_eq_true hlt'
      have HF1 := Hid2.mk (fun w1 hb => HF.out k hlt w1 hb)
      have HNT := Hid2.mk (HMT.out k)
      have HNF := Hid2.mk (HMF.out k)
      have HOR := Hid2.mk (bits_or_pow (F k) k hF (by omega))
      generalize F k = m at *
      have hm' : (m : Int) < 1024 := by omega
      cases hp : p k with
      | true =>
        rw [hp] at HF1
        have HN := Hid2.mk (HNT.out hp)
        clear hp HNT HNF
        go_wp2_with (first | ((with_reducible refine (HF1.out _ M.below).mono ?_); rintro e w1 ⟨rfl, hb⟩; have M9 := M.later hb; clear M; (try clear C); have M := M9; clear M9 hb; have C := M.ruleAll; simp only [Go.Proofs.YteonahoboligdaaDoor.ruleAll] at C))
        go_roundw
        case rel => exact ⟨k + 1, by omega, by rw [HN.out]; exact congrArg (Value.int .i64) HOR.out, by go_num, M⟩
        case measure => simp [intOf]; omega
      | false =>
        rw [hp] at HF1
        have HN := Hid2.mk (HNF.out (by rw [hp]; decide))
        clear hp HNT HNF
        go_wp2_with (first | ((with_reducible refine (HF1.out _ M.below).mono ?_); rintro e w1 ⟨rfl, hb⟩; have M9 := M.later hb; clear M; (try clear C); have M := M9; clear M9 hb; have C := M.ruleAll; simp only [Go.Proofs.YteonahoboligdaaDoor.ruleAll] at C))
        go_roundw
        case rel => exact ⟨k + 1, by omega, by rw [HN.out], by go_num, M⟩
        case measure => simp [intOf]; omega
    · obtain rfl : k = n := by omega
      have hge : ¬ ((k : Int) < (k : Int)) := by omega
      go_wp2
      go_ret
      exact ⟨rfl, M.below⟩

set_option maxRecDepth 100000 in
set_option maxHeartbeats 2000000 in
theorem cosetFn_any (n : Nat) (t : Nat → Nat → Nat) (hs : IsSq (n : Int) t) (s x z bs bq bx : Nat) (hsl : s < 1024) (hx : x < n) (hz : z < n) (w : World) (M0 : Mm no w w [.box bs #[.int .i64 (s : Int)] 49, .box bx #[.int .u8 (x : Int)] 5, .box bq (sqs (n : Int) t) 32]) :
    Calls Tryd.prog 66 #[.int .u8 (z : Int), .pointer (some ⟨bs, 0, none⟩), .pointer (some ⟨bq, 0, none⟩), .pointer (some ⟨bx, 0, none⟩)] w fun e w' => e = .returned (.bool (s.testBit (lq t x z))) ∧ Below w.heap.size w w' := by
  have M := M0
  have hn := hs.hi
  have hl := (lq_lt hs (x := x) (z := z) (by omega) (by omega)).1
  have H1 := Hid2.mk (fun w1 => left_any (n : Int) t hs x z (by omega) (by omega) w1)
  have H2 := Hid2.mk (fun w1 => has_any s (lq t x z) hsl (by omega) w1)
  generalize lq t x z = r at *
  have hx' : (x : Int) < 10 := by omega
  have hz' : (z : Int) < 10 := by omega
  have hr' : (r : Int) < 10 := by omega
  have hs' : (s : Int) < 1024 := by omega
  clear M0 hs
  have C := M.ruleAll; simp only [Go.Proofs.YteonahoboligdaaDoor.ruleAll] at C
  go_enter Tryd.func66, Tryd.ntmps66
  go_wp2
  apply wp_region_mm M 5 (by kernel_rfl) (by kernel_rfl); (simp only [List.take_succ_cons, List.take_zero]; repeat (first | exact wpText_nil | (apply wpText_cons; (intro w2 M; have C := M.ruleAll; simp only [Go.Proofs.YteonahoboligdaaDoor.ruleAll] at C; go_wp2_with (first | ((with_reducible apply wpM_lda' M 2 32 0 (sqs (n : Int) t)); rfl; rfl; rfl; exact ⟨rfl, inf_sqs.trans (congrArg some (sqs_size ..).symm), _, und_sqs, rfl⟩; exact whole_of rfl) | (go_at_call 63; ((with_reducible refine (H1.out _).mono ?_); rintro e w1 ⟨rfl, hb⟩; have hsz := M.size; (try (have G9 := G.later hb; clear G; have G := G9; clear G9)); have M9 := M.later hb; clear M; (try clear C); have M := M9; clear M9; have C := M.ruleAll; simp only [Go.Proofs.YteonahoboligdaaDoor.ruleAll] at C))); exact ⟨rfl, rfl, M⟩); rfl))); (clear M; (try clear C); intro w2 M; simp only [List.drop_succ_cons, List.drop_zero]; have C := M.ruleAll; simp only [Go.Proofs.YteonahoboligdaaDoor.ruleAll] at C)
  go_wp2_with (first | (go_at_call 62; ((with_reducible refine (H2.out _).mono ?_); rintro e w1 ⟨rfl, rfl⟩)))
  go_ret
  exact ⟨rfl, M.below⟩

set_option maxRecDepth 100000 in
set_option maxHeartbeats 1000000 in
theorem coset_any (n : Nat) (t : Nat → Nat → Nat) (hs : IsSq (n : Int) t) (s x : Nat) (hsl : s < 1024) (hx : x < n) (w : World) :
    Calls Tryd.prog 44 #[.agg (sqs (n : Int) t), .int .u8 (x : Int), .int .i64 (s : Int)] w fun e w' => e = .returned (.int .i64 (csM n t s x : Nat)) ∧ Below w.heap.size w w' := by
  have M := Mm.start no w
  have h0 : 1 ≤ n := by have := hs.lo; omega
  have hn : n ≤ 10 := by have := hs.hi; omega
  rw [← csM_those n hn t s x]
  have HM := Hid2.mk (fun bs bq bx w1 (M1 : Mm no w1 w1 [.box bs #[.int .i64 (s : Int)] 49, .box bx #[.int .u8 (x : Int)] 5, .box bq (sqs (n : Int) t) 32]) => those_any n t (fun z => s.testBit (lq t x z)) 66 #[] #[.pointer (some ⟨bs, 0, none⟩), .pointer (some ⟨bq, 0, none⟩), .pointer (some ⟨bx, 0, none⟩)] w1 h0 hn (enters_of (P := Tryd.prog) (f := 66) (by exact Tryd.func66) (by kernel_rfl) rfl) (fun z hz w2 hb2 => cosetFn_any n t hs s x z bs bq bx hsl hx hz w2 (M1.later hb2).anew))
  generalize mkP (fun z => s.testBit (lq t x z) = true) n = V at *
  have hx' : (x : Int) < 10 := by omega
  have hs' : (s : Int) < 1024 := by omega
  clear hs
  go_enter Tryd.func44, Tryd.ntmps44
  go_wp2_with (first | ((with_reducible apply wpM_box' M 32 (sqs (n : Int) t)); rfl; exact ⟨rfl, rfl⟩; clear M; (try clear C); intro bq w9 h_bq M; have C := M.ruleAll; simp only [Go.Proofs.YteonahoboligdaaDoor.ruleAll] at C) | ((with_reducible apply wpM_box' M 5 (#[.int .u8 (x : Int)])); rfl; exact ⟨rfl, rfl⟩; clear M; (try clear C); intro bx w9 h_bx M; have C := M.ruleAll; simp only [Go.Proofs.YteonahoboligdaaDoor.ruleAll] at C) | ((with_reducible apply wpM_box' M 49 (#[.int .i64 (s : Int)])); rfl; exact ⟨rfl, rfl⟩; clear M; (try clear C); intro bs w9 h_bs M; have C := M.ruleAll; simp only [Go.Proofs.YteonahoboligdaaDoor.ruleAll] at C) | ((with_reducible apply wpM_lda' M 2 32 0 (sqs (n : Int) t)); rfl; rfl; rfl; exact ⟨rfl, inf_sqs.trans (congrArg some (sqs_size ..).symm), _, und_sqs, rfl⟩; exact whole_of rfl) | (go_at_call 65; ((with_reducible refine (HM.out bs bq bx _ M.anew).mono ?_); rintro e w1 ⟨rfl, hb⟩; have hsz := M.size; (try (have G9 := G.later hb; clear G; have G := G9; clear G9)); have M9 := M.later hb; clear M; (try clear C); have M := M9; clear M9; have C := M.ruleAll; simp only [Go.Proofs.YteonahoboligdaaDoor.ruleAll] at C)))
  go_ret
  exact ⟨rfl, M.below⟩
end Go.Proofs.YteonahoboligdaaDoor

/- The left cosets and CosetsOf of the program: contracts. -/
namespace Go.Proofs.YteonahoboligdaaDoor
set_option linter.unusedSimpArgs false
set_option linter.unusedVariables false
open Go Go.RowKit

theorem bsl_st0 (w : World) : (Instr.buildSlice 51 0 [].toArray).run Tryd.prog w = .ok (.slice (some ⟨w.heap.size, 0, none⟩) 0 0) (w.alloc (.cells #[] 49)) := by kernel_rfl
theorem bsl_st1 (x : Int) (w : World) : (Instr.buildSlice 51 1 [(0, Value.int .i64 x)].toArray).run Tryd.prog w = .ok (.slice (some ⟨w.heap.size, 0, none⟩) 1 1) (w.alloc (.cells #[.int .i64 x] 49)) := by kernel_rfl
theorem inf_elst : (Tryd.prog.info? 49).map (fun i => (i.zero, i.size, i.bytes)) = some (some (.int .i64 0), 1, 8) := by kernel_rfl
/-- What cosets hands back. -/
def CoPost (r : Option (List Nat)) (w : World) (e : Ending) (w' : World) : Prop :=
  (r = none ∧ e = .returned (.tuple #[.slice none 0 0, .bool false]) ∧ Below w.heap.size w w') ∨ ∃ out v, r = some out ∧ e = .returned (.tuple #[v, .bool true]) ∧ Mm no w w' [.row w.heap.size v out.length (i64N out) 49 1]
theorem CoPost.none {r : Option (List Nat)} {w w' : World} (h : r = none) (hb : Below w.heap.size w w') : CoPost r w (.returned (.tuple #[.slice none 0 0, .bool false])) w' := .inl ⟨h, rfl, hb⟩
theorem CoPost.some {r : Option (List Nat)} {out : List Nat} {v : Value} {w w' : World} (h : r = some out) (M : Mm no w w' [.row w.heap.size v out.length (i64N out) 49 1]) : CoPost r w (.returned (.tuple #[v, .bool true])) w' := .inr ⟨out, v, h, rfl, M⟩
/-- Where the search among the known sets stands. -/
def Met (c : Nat) (out : List Nat) (j : Nat) : Prop := ∀ i o, i < j → out[i]? = some o → c = o ∨ c &&& o = 0

set_option maxRecDepth 100000 in
set_option maxHeartbeats 4000000 in
theorem cosets_any (n : Nat) (t : Nat → Nat → Nat) (hl : Loo n t) (s : Nat) (hsl : s < 1024) (h0 : s.testBit 0 = true) (w : World) (hg : glbT w) :
    Calls Tryd.prog 25 #[.agg (sqs (n : Int) t), .int .i64 (s : Int)] w (CoPost (cosTo (csM n t s) n) w) := by
  have M := Mm.start no w
  have hs := hl.sq
  have hn : n ≤ 10 := by have := hs.hi; omega
  have h1 := hl.pos
  have hn' : (n : Int) ≤ 10 := by omega
  have HG := Hid2.mk (fun w1 (hb : Below w.heap.size w w1) => hg.later hb)
  have HCO := Hid2.mk (fun x (hx : x < n) w1 => coset_any n t hs s x hsl hx w1)
  have HSELF := Hid2.mk (fun x (hx : x < n) => csM_self hl h0 hx)
  have HLT := Hid2.mk (fun x => csM_lt n t s x)
  generalize csM n t s = CM at *
  have HKN := Hid2.mk (fun k out (V : Cos CM k out) (h : CM k ∈ out) => V.known h)
  have HAD := Hid2.mk (fun k out (V : Cos CM k out) (hk : k < n) (h : ∀ o ∈ out, CM k &&& o = 0) => V.add HSELF.out hn hk h)
  have HFA := Hid2.mk (fun k out (V : Cos CM k out) (hk : k < n) o (ho : o ∈ out) (h1 : CM k ≠ o) (h2 : CM k &&& o ≠ 0) => V.fail hk ho h1 h2)
  have HRG : Hid2 (∀ k out, k ≤ n → Cos CM k out → ∀ o ∈ out, 0 < o ∧ o < 1024) := ⟨fun k out hk V o ho => by
    obtain ⟨x, hx, rfl⟩ := V.sub o ho
    refine ⟨Nat.pos_of_ne_zero fun e => ?_, HLT.out x⟩
    have := HSELF.out x (by omega)
    rw [e] at this; simp at this⟩
  have HC0 := Hid2.mk (Cos.start CM)
  have HR : Hid2 (∀ out, Cos CM n out → cosTo CM n = some out) := ⟨fun out V => V.is⟩
  have HSO := Hid2.mk (fun l (h1 : l.length ≤ 10) (h2 : ∀ m ∈ l, 0 < m ∧ m < 1024) (h3 : l.Pairwise fun a b => loM a < loM b) w1 (hb : Below w.heap.size w w1) g cap hr => sortF_in l h1 h2 h3 w1 (HG.out w1 hb) g cap hr)
  have HPOS : Hid2 (∀ out, Cos CM n out → 0 < out.length) := ⟨fun out V => List.length_pos_of_mem (V.all 0 h1)⟩
  generalize cosTo CM n = res at *
  clear hg hs hl hsl
  go_enter Tryd.func25, Tryd.ntmps25
  go_wp2_with (first | ((with_reducible apply wpM_box' M 32 (sqs (n : Int) t)); rfl; exact ⟨rfl, rfl⟩; clear M; (try clear C); intro bq w9 h_bq M; have C := M.ruleAll; simp only [Go.Proofs.YteonahoboligdaaDoor.ruleAll] at C) | ((with_reducible apply wpM_bsl' M 51 0 49 ([]) (#[])); rfl; rfl; rfl; exact bsl_st0; clear M; (try clear C); intro bo w9 h_bo M; have C := M.ruleAll; simp only [Go.Proofs.YteonahoboligdaaDoor.ruleAll] at C) | ((with_reducible apply wpM_lda' M 1 32 0 (sqs (n : Int) t)); rfl; rfl; rfl; exact ⟨rfl, inf_sqs.trans (congrArg some (sqs_size ..).symm), _, und_sqs, rfl⟩; exact whole_of rfl) | (go_at_call 43; ((with_reducible refine (elements_any _ _ _ (by omega) (by omega)).mono ?_); rintro e w1 ⟨g1, cap_g1, rfl, hb, hg, hr⟩; have hsz := M.size; have M9 := M.gain hb (x := .rd g1 n (fun j => .int .u8 (j : Int))) hr (fun b h => by cases h; exact hg); clear M; (try clear C); have M := M9; clear M9; (try simp only [List.set_cons_zero, List.set_cons_succ] at M); have C := M.ruleAll; simp only [Go.Proofs.YteonahoboligdaaDoor.ruleAll] at C; clear hb hg hr)))
  have M9 := M.asRow 1 rfl w.heap.size 0 1 h_bo rfl (Nat.zero_le _)
  simp only [List.set_cons_zero, List.set_cons_succ] at M9
  clear M; (try clear C)
  go_loopw [6, 17, 27, 8, 9, 10, 12] (fun o i _ _ _ _ _ wr => ∃ (k : Nat) (v : Value) (out : List Nat), k ≤ n ∧ i = .int .i64 (k : Int) ∧ o = v ∧ Hid2 (Cos CM k out) ∧ Mm no w wr [.rd g1 n (fun j => .int .u8 (j : Int)), .row w.heap.size v out.length (i64N out) 49 1, .box bq (sqs (n : Int) t) 32]) (fun _ i _ _ _ _ _ _ => n - (intOf i).toNat)
  case atStart => exact ⟨0, _, [], by omega, rfl, rfl, HC0, M9⟩
  case round =>
    clear M9 HC0
    obtain ⟨k, v, out, hk, rfl, rfl, HV, M9⟩ := hrel
    obtain ⟨pp, cc, rfl⟩ := own_form (M9.row 1 rfl)
    have M := M9
    clear M9
    have hlen := HV.out.len
    by_cases hlt : k < n
    · have hlt' : (k : Int) < (n : Int) := by omega
      have hk10 : (k : Int) < 10 := by omega
      have dlt : decide ((k : Int) < (n : Int)) = true := decide_eq_true hlt'
      have HC1 := Hid2.mk (HCO.out k hlt)
      have HKN1 := Hid2.mk (HKN.out k out HV.out)
      have HAD1 := Hid2.mk (HAD.out k out HV.out hlt)
      have HFA1 := Hid2.mk (HFA.out k out HV.out hlt)
      have HOL := Hid2.mk (fun o (ho : o ∈ out) => (HRG.out k out (by omega) HV.out o ho).2)
      have hcl := HLT.out k
      generalize CM k = c at *
      have hcl' : (c : Int) < 1024 := by omega
      clear HV
      have C := M.ruleAll; simp only [Go.Proofs.YteonahoboligdaaDoor.ruleAll] at C
      go_wp2_with (first | ((with_reducible apply wpM_lda' M 2 32 0 (sqs (n : Int) t)); rfl; rfl; rfl; exact ⟨rfl, inf_sqs.trans (congrArg some (sqs_size ..).symm), _, und_sqs, rfl⟩; exact whole_of rfl) | (go_at_call 44; ((with_reducible refine (HC1.out _).mono ?_); rintro e w1 ⟨rfl, hb⟩; have hsz := M.size; (try (have G9 := G.later hb; clear G; have G := G9; clear G9)); have M9 := M.later hb; clear M; (try clear C); have M := M9; clear M9; have C := M.ruleAll; simp only [Go.Proofs.YteonahoboligdaaDoor.ruleAll] at C)))
      have M9 := M
      clear M; (try clear C)
      clear dlt
      go_loopw [27, 10, 12] (fun i b _ wr => ∃ j : Nat, j ≤ out.length ∧ i = .int .i64 (j : Int) ∧ b = .bool (decide (c ∈ out.take j)) ∧ Hid2 (Met c out j) ∧ Mm no w wr [.rd g1 n (fun j => .int .u8 (j : Int)), .row w.heap.size (.slice pp out.length cc) out.length (i64N out) 49 1, .box bq (sqs (n : Int) t) 32]) (fun i _ _ _ => out.length - (intOf i).toNat)
      case atStart => exact ⟨0, by omega, rfl, by rw [List.take_zero, decide_eq_false (by simp)], ⟨fun i o h => by omega⟩, M9⟩
      case round =>
        clear M9
        obtain ⟨j, hj, rfl, rfl, HM, M9⟩ := hrel
        have M := M9
        clear M9
        by_cases hjl : j < out.length
        · have hjl' : (j : Int) < (out.length : Int) := by omega
          have e1 := List.getElem?_eq_getElem hjl
          have ho := HOL.out _ (List.getElem_mem hjl)
          have hmem := List.getElem_mem hjl
          obtain ⟨gq, cq, e, -, -, -⟩ := own_rds (M.row 1 rfl) (by omega)
          cases e
          have hd1 := World.ownsRow.cellAt (M.row 1 rfl) j (by omega)
          rw [i64N_get e1] at hd1
          have HMM := Hid2.mk (fun (h : c = out[j] ∨ c &&& out[j] = 0) => show Met c out (j + 1) from fun i o hi hio => by
            by_cases e : i = j
            · subst e; rw [e1] at hio; cases hio; exact h
            · exact HM.out i o (by omega) hio)
          have HTK := Hid2.mk (show out.take (j + 1) = out.take j ++ [out[j]] from List.take_succ_eq_append_getElem hjl)
          have HFA2 := Hid2.mk (HFA1.out _ hmem)
          clear e1 hmem
          generalize out[j] = o at *
          have ho' : (o : Int) < 1024 := by omega
          by_cases hco : c = o
          · subst hco
            have HN := Hid2.mk (HMM.out (.inl rfl))
            have hd : ((c : Int) == (c : Int)) = true := by simp
            have HB := Hid2.mk (show decide (c ∈ out.take (j + 1)) = true by rw [HTK.out]; exact decide_eq_true (List.mem_append_right _ (List.mem_singleton.2 rfl)))
            clear HMM HTK HM
            have C := M.ruleAll; simp only [Go.Proofs.YteonahoboligdaaDoor.ruleAll] at C
            go_wp2
            go_roundw
            case rel => exact ⟨j + 1, by omega, by go_num, by rw [HB.out], HN, M⟩
            case measure => simp [intOf]; omega
          · have hd : ((c : Int) == (o : Int)) = false := neqI hco
            have hand := bits_and_i64_nat c o (by omega) (by omega)
            by_cases hz : c &&& o = 0
            · have HN := Hid2.mk (HMM.out (.inr hz))
              rw [hz] at hand
              have HB := Hid2.mk (show decide (c ∈ out.take (j + 1)) = decide (c ∈ out.take j) by rw [HTK.out]; exact decide_eq_decide.2 ⟨fun h => (List.mem_append.1 h).elim id fun h => absurd (List.mem_singleton.1 h) hco, fun h => List.mem_append_left _ h⟩)
              clear HMM HTK HM hz hco
              have hd2 : (((0 : Nat) : Int) != 0) = false := rfl
              have C := M.ruleAll; simp only [Go.Proofs.YteonahoboligdaaDoor.ruleAll] at C
              go_wp2
              go_roundw
              case rel => exact ⟨j + 1, by omega, by go_num, by rw [HB.out], HN, M⟩
              case measure => simp [intOf]; omega
            · have HN := Hid2.mk (HFA2.out hco hz)
              have hd2 : (((c &&& o : Nat) : Int) != 0) = true := by simp; omega
              clear HMM HTK HM hz hco
              generalize c &&& o = a at *
              have C := M.ruleAll; simp only [Go.Proofs.YteonahoboligdaaDoor.ruleAll] at C
              go_wp2
              go_ret2
              exact CoPost.none HN.out M.below
        · obtain rfl : j = out.length := by omega
          have hge : ¬ ((out.length : Int) < (out.length : Int)) := by omega
          have HA := Hid2.mk (show c ∉ out → ∀ o ∈ out, c &&& o = 0 from fun h o ho => by
            obtain ⟨i, hi⟩ := List.getElem?_of_mem ho
            rcases HM.out i o (List.getElem?_eq_some_iff.1 hi).1 hi with e | e
            · subst e; exact absurd ho h
            · exact e)
          rw [List.take_length]
          by_cases hin : c ∈ out
          · have hd : decide (c ∈ out) = true := decide_eq_true hin
            rw [hd]
            have HN := Hid2.mk (HKN1.out hin)
            clear hin hd
            have C := M.ruleAll; simp only [Go.Proofs.YteonahoboligdaaDoor.ruleAll] at C
            go_wp2
            go_roundw
            case rel => exact ⟨k + 1, _, out, by omega, by go_num, rfl, HN, M⟩
            case measure => simp [intOf]; omega
          · have hd : decide (c ∈ out) = false := decide_eq_false hin
            rw [hd]
            have HN := Hid2.mk (HAD1.out (HA.out hin))
            clear hin hd
            have C := M.ruleAll; simp only [Go.Proofs.YteonahoboligdaaDoor.ruleAll] at C
            go_wp2_with (first | ((with_reducible apply wpM_bsl' M 51 1 49 ([(0, .int .i64 (c : Int))]) (#[.int .i64 (c : Int)])); rfl; rfl; rfl; exact bsl_st1 _; clear M; (try clear C); intro bb w9 h_bb M; have C := M.ruleAll; simp only [Go.Proofs.YteonahoboligdaaDoor.ruleAll] at C) | ((with_reducible apply wpM_app' M 51 2 0 (w.heap.size) (.slice pp out.length cc) (out.length) (i64N out) 49 1 8); rfl; rfl; rfl; rfl; rfl; rfl; rfl; (first | exact .inl (Nat.le_refl _) | exact .inl (by assumption) | exact .inr (by assumption) | exact .inr HDv.out); (first | exact M.size | (have hq := M.size; omega)); exact und_slst; exact inf_elst; rfl; decide; decide; rfl; exact rfl; exact flat_n1 _; omega; clear M; (try clear C); intro v2 w9 far_v2 M; simp only [List.set_cons_zero, List.set_cons_succ, entBlk, entT, List.getElem?_cons_zero, List.getElem?_cons_succ] at M; obtain ⟨pp_v2, cap_v2, rfl⟩ := own_form (M.row 2 rfl); have C := M.ruleAll; simp only [Go.Proofs.YteonahoboligdaaDoor.ruleAll] at C))
            go_roundw
            case rel => exact ⟨k + 1, _, out ++ [c], by omega, by go_num, rfl, HN, (M.drop 0).eq (by rw [i64N_app]; simp only [List.length_append, List.length_singleton]; rfl)⟩
            case measure => simp [intOf]; omega
    · obtain rfl : n = k := by omega
      have hge : ¬ ((n : Int) < (n : Int)) := by omega
      have HRES := Hid2.mk (HR.out out HV.out)
      obtain ⟨g, cap, e, hB, -, hr⟩ := own_rds (M.row 1 rfl) (by have := HPOS.out out HV.out; omega)
      cases e
      rw [Nat.mul_one] at hr
      have hr2 : rds wr g out.length (i64F out) := ⟨hr.lt, fun j hj => by rw [hr.at_ j hj, i64N_at hj]⟩
      have HS := Hid2.mk (HSO.out out (by omega) (HRG.out n out (by omega) HV.out) HV.out.srt _ M.below g cc hr2)
      clear hr hr2
      have C := M.ruleAll; simp only [Go.Proofs.YteonahoboligdaaDoor.ruleAll] at C
      go_wp2_with (first | (go_at_call 45; fail))
      refine HS.out.mono ?_
      rintro e w5 ⟨rfl, hb⟩
      have M9 := M.later hb
      clear M; (try clear C)
      have M := M9
      clear M9 hb
      go_wp2
      go_ret2
      exact CoPost.some HRES.out (M.sub [1] (by decide))
end Go.Proofs.YteonahoboligdaaDoor

