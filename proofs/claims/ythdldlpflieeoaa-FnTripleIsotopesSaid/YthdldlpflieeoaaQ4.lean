/- Texts cut into pieces; the squares of texts; plain. -/
import Derived.Test.YthdldlpflieeoaaQ3
import Derived.Test.YthdldlpflieeoaaQ2
import Derived.Test.YthdldlpflieeoaaQ1
namespace Go.Proofs.Ythdldlpflieeoaa
set_option linter.unusedSimpArgs false
set_option linter.unusedVariables false
open Go Go.RowKit

/-! ### Pieces -/
def pstep (c : Nat) (s : List (List Nat) × List Nat) (x : Nat) : List (List Nat) × List Nat := if x = c then (s.1 ++ [s.2], []) else (s.1, s.2 ++ [x])
/-- The pieces that are complete, and the one under way. -/
def pst (c : Nat) (l : List Nat) : List (List Nat) × List Nat := l.foldl (pstep c) ([], [])
/-- The pieces of a text between the bytes c. -/
def pcs (c : Nat) (l : List Nat) : List (List Nat) := (pst c l).1 ++ [(pst c l).2]
theorem pst_snoc (c : Nat) (l : List Nat) (x : Nat) : pst c (l ++ [x]) = pstep c (pst c l) x := by unfold pst; rw [List.foldl_append]; rfl
theorem pcs_len (c : Nat) (l : List Nat) : (pcs c l).length = (pst c l).1.length + 1 := by unfold pcs; rw [List.length_append]; rfl
theorem pst_len (c : Nat) : ∀ (l : List Nat) (s : List (List Nat) × List Nat), (l.foldl (pstep c) s).1.length ≤ s.1.length + l.length
  | [], s => Nat.le_refl _
  | x :: l, s => by
    rw [List.foldl_cons]
    have h := pst_len c l (pstep c s x)
    have h2 : (pstep c s x).1.length ≤ s.1.length + 1 := by
      unfold pstep
      split
      · simp
      · simp
    rw [List.length_cons]
    omega
theorem pcs_le (c : Nat) (l : List Nat) : (pcs c l).length ≤ l.length + 1 := by
  rw [pcs_len]
  have h := pst_len c l ([], [])
  have e : pst c l = l.foldl (pstep c) ([], []) := rfl
  rw [e]
  simp only [List.length_nil, Nat.zero_add] at h
  omega
theorem pst_front (c : Nat) : ∀ (l : List Nat) (A A' : List (List Nat)) (b : List Nat), l.foldl (pstep c) (A ++ A', b) = (A ++ (l.foldl (pstep c) (A', b)).1, (l.foldl (pstep c) (A', b)).2)
  | [], A, A', b => rfl
  | x :: l, A, A', b => by
    rw [List.foldl_cons, List.foldl_cons]
    by_cases h : x = c
    · have e1 : pstep c (A ++ A', b) x = (A ++ (A' ++ [b]), []) := by unfold pstep; rw [if_pos h, List.append_assoc]
      have e2 : pstep c (A', b) x = (A' ++ [b], []) := by unfold pstep; rw [if_pos h]
      rw [e1, e2, pst_front c l]
    · have e1 : pstep c (A ++ A', b) x = (A ++ A', b ++ [x]) := by unfold pstep; rw [if_neg h]
      have e2 : pstep c (A', b) x = (A', b ++ [x]) := by unfold pstep; rw [if_neg h]
      rw [e1, e2, pst_front c l]
theorem pst_miss (c : Nat) : ∀ (l : List Nat) (A : List (List Nat)) (b : List Nat), c ∉ l → l.foldl (pstep c) (A, b) = (A, b ++ l)
  | [], A, b, _ => by rw [List.append_nil]; rfl
  | x :: l, A, b, h => by
    have h1 : x ≠ c := fun e => h (by rw [e]; exact List.mem_cons_self ..)
    rw [List.foldl_cons]
    have e1 : pstep c (A, b) x = (A, b ++ [x]) := by unfold pstep; rw [if_neg h1]
    rw [e1, pst_miss c l A _ fun e => h (List.mem_cons_of_mem _ e), List.append_assoc]
    rfl
theorem pcs_miss {c : Nat} {l : List Nat} (h : c ∉ l) : pcs c l = [l] := by
  unfold pcs pst
  rw [pst_miss c l [] [] h]
  simp
theorem pcs_hit {c : Nat} {a b : List Nat} (h : c ∉ a) : pcs c (a ++ c :: b) = a :: pcs c b := by
  unfold pcs pst
  rw [List.foldl_append, pst_miss c a [] [] h, List.foldl_cons]
  have e1 : pstep c ([], [] ++ a) c = ([a] ++ [], []) := by unfold pstep; rw [if_pos rfl]; simp
  rw [e1, pst_front]
  simp
/-- The pieces put together. -/
def jn (c : Nat) (P : Nat → List Nat) : Nat → List Nat
  | 0 => []
  | k + 1 => jn c P k ++ (if k = 0 then [] else [c]) ++ P k
theorem jn_congr {c : Nat} {P Q : Nat → List Nat} : ∀ {k : Nat}, (∀ i, i < k → P i = Q i) → jn c P k = jn c Q k
  | 0, _ => rfl
  | k + 1, h => by rw [jn, jn, jn_congr fun i hi => h i (by omega), h k (by omega)]
theorem pst_jn (c : Nat) (P : Nat → List Nat) : ∀ k, (∀ i, i < k + 1 → c ∉ P i) → pst c (jn c P (k + 1)) = ((List.range k).map P, P k)
  | 0, h => by
    have e : jn c P 1 = P 0 := by simp [jn]
    unfold pst
    rw [e, pst_miss c (P 0) [] [] (h 0 (by omega))]
    simp
  | k + 1, h => by
    have ih := pst_jn c P k fun i hi => h i (by omega)
    rw [jn, if_neg (by omega)]
    unfold pst at ih ⊢
    rw [List.foldl_append, List.foldl_append, ih]
    have e : List.foldl (pstep c) ((List.range k).map P, P k) [c] = ((List.range k).map P ++ [P k], []) := by
      show pstep c _ c = _
      unfold pstep; rw [if_pos rfl]
    rw [e, pst_miss c (P (k + 1)) _ _ (h (k + 1) (by omega)), List.range_succ, List.map_append]
    simp
theorem pcs_jn {c : Nat} {P : Nat → List Nat} {n : Nat} (hn : 0 < n) (h : ∀ i, i < n → c ∉ P i) : pcs c (jn c P n) = (List.range n).map P := by
  obtain ⟨k, rfl⟩ : ∃ k, n = k + 1 := ⟨n - 1, by omega⟩
  unfold pcs
  rw [pst_jn c P k h, List.range_succ, List.map_append]
  rfl
theorem jn_snoc (c : Nat) (A : List (List Nat)) (b : List Nat) : jn c (fun i => (A ++ [b]).getD i []) (A.length + 1) = jn c (fun i => A.getD i []) A.length ++ (if A.length = 0 then [] else [c]) ++ b := by
  rw [jn]
  congr 1
  · congr 1
    refine jn_congr fun i hi => ?_
    rw [List.getD_eq_getElem?_getD, List.getD_eq_getElem?_getD, List.getElem?_append_left hi]
  · rw [List.getD_eq_getElem?_getD, List.getElem?_append_right (Nat.le_refl _), Nat.sub_self]; rfl
/-- A text is its pieces put together. -/
theorem jn_pcs (c : Nat) (l : List Nat) : jn c (fun i => (pcs c l).getD i []) (pcs c l).length = l := by
  have key : ∀ (l : List Nat) (A : List (List Nat)) (b : List Nat), jn c (fun i => ((l.foldl (pstep c) (A, b)).1 ++ [(l.foldl (pstep c) (A, b)).2]).getD i []) ((l.foldl (pstep c) (A, b)).1.length + 1) = jn c (fun i => (A ++ [b]).getD i []) (A.length + 1) ++ l := by
    intro l
    induction l with
    | nil => intro A b; rw [List.append_nil]; rfl
    | cons x l ih =>
      intro A b
      rw [List.foldl_cons]
      by_cases h : x = c
      · have e1 : pstep c (A, b) x = (A ++ [b], []) := by unfold pstep; rw [if_pos h]
        rw [e1, ih, jn_snoc c (A ++ [b]) [], List.append_nil, if_neg (by simp), h, List.length_append]
        simp
      · have e1 : pstep c (A, b) x = (A, b ++ [x]) := by unfold pstep; rw [if_neg h]
        rw [e1, ih, jn_snoc, jn_snoc]
        simp
  have h := key l [] []
  rw [pcs_len]
  have e : pst c l = l.foldl (pstep c) ([], []) := rfl
  unfold pcs
  rw [e, h]
  simp [jn]

/-! ### Squares of texts -/
theorem sqT_jn (n : Nat) (t : Nat → Nat → Nat) : ∀ k, sqT n t k = jn 47 (fun x => rwT t x n) k
  | 0 => rfl
  | k + 1 => by rw [sqT, jn, sqT_jn n t k]
theorem rwT_mem {t : Nat → Nat → Nat} {x b : Nat} : ∀ {k : Nat}, b ∈ rwT t x k → 48 ≤ b
  | 0, h => by cases h
  | k + 1, h => by
    rw [rwT, List.mem_append, List.mem_singleton] at h
    rcases h with h | h
    · exact rwT_mem h
    · omega
theorem rwT_get {t : Nat → Nat → Nat} {x : Nat} : ∀ {k y : Nat}, y < k → (rwT t x k)[y]? = some (48 + t x y)
  | k + 1, y, h => by
    rw [rwT]
    by_cases e : y = k
    · subst e
      rw [List.getElem?_append_right (by rw [rwT_len]; exact Nat.le_refl _), rwT_len, Nat.sub_self]; rfl
    · rw [List.getElem?_append_left (by rw [rwT_len]; omega), rwT_get (by omega)]
theorem pcs_sqT {n : Nat} (t : Nat → Nat → Nat) (hn : 0 < n) : pcs 47 (sqT n t n) = (List.range n).map fun x => rwT t x n := by
  rw [sqT_jn]
  exact pcs_jn hn fun i _ h => by have := rwT_mem h; omega
/-- A text is that of a square. -/
structure Rd (l : List Nat) (q : Sqr) : Prop where
  sq : IsSq q.n q.t
  txt : l = sqT q.n.toNat q.t q.n.toNat
theorem Rd.pos {l : List Nat} {q : Sqr} (h : Rd l q) : ∃ n : Nat, q.n = n ∧ 1 ≤ n ∧ n ≤ 10 := ⟨q.n.toNat, by have := h.sq.lo; omega, by have := h.sq.lo; omega, by have := h.sq.hi; omega⟩
theorem Rd.rows {l : List Nat} {q : Sqr} (h : Rd l q) : pcs 47 l = (List.range q.n.toNat).map fun x => rwT q.t x q.n.toNat := by
  have hp := h.sq.lo
  conv => lhs; rw [h.txt]
  exact pcs_sqT q.t (by omega)
theorem Rd.uniq {l : List Nat} {q r : Sqr} (h : Rd l q) (k : Rd l r) : sqs q.n q.t = sqs r.n r.t := by
  have e := h.rows.symm.trans k.rows
  have el := congrArg List.length e
  simp only [List.length_map, List.length_range] at el
  obtain ⟨n, hn, n1, n2⟩ := h.pos
  obtain ⟨m, hm, m1, m2⟩ := k.pos
  obtain rfl : n = m := by omega
  refine sqs_ext (by rw [hn, hm]) fun x y hx hy => ?_
  by_cases hc : x < n ∧ y < n
  · have e1 : ((List.range q.n.toNat).map fun x => rwT q.t x q.n.toNat)[x]? = some (rwT q.t x q.n.toNat) := by rw [List.getElem?_map, List.getElem?_range (by omega)]; rfl
    have e2 : ((List.range r.n.toNat).map fun x => rwT r.t x r.n.toNat)[x]? = some (rwT r.t x r.n.toNat) := by rw [List.getElem?_map, List.getElem?_range (by omega)]; rfl
    rw [e, e2] at e1
    have e3 := Option.some.inj e1
    have g1 := rwT_get (t := q.t) (x := x) (k := q.n.toNat) (y := y) (by omega)
    have g2 := rwT_get (t := r.t) (x := x) (k := r.n.toNat) (y := y) (by omega)
    rw [← e3, g2] at g1
    have := Option.some.inj g1
    omega
  · have z1 : q.t x y = 0 := by
      by_cases hxn : x < n
      · exact (h.sq.rows.row x hx (by rw [hn]; omega)).zero y hy (by rw [hn]; omega)
      · exact h.sq.rows.zero x y hx hy (by rw [hn]; omega)
    have z2 : r.t x y = 0 := by
      by_cases hxn : x < n
      · exact (k.sq.rows.row x hx (by rw [hm]; omega)).zero y hy (by rw [hm]; omega)
      · exact k.sq.rows.zero x y hx hy (by rw [hm]; omega)
    rw [z1, z2]
noncomputable def rdB (l : List Nat) : Bool := @decide (∃ q, Rd l q) (Classical.propDecidable _)
noncomputable def rdQ (l : List Nat) : Sqr := @dite _ (∃ q, Rd l q) (Classical.propDecidable _) (fun h => Classical.choose h) fun _ => ⟨0, fun _ _ => 0⟩
theorem rdB_yes {l : List Nat} {q : Sqr} (h : Rd l q) : rdB l = true := by unfold rdB; exact @decide_eq_true _ (Classical.propDecidable _) ⟨q, h⟩
theorem rdB_no {l : List Nat} (h : ∀ q, ¬ Rd l q) : rdB l = false := by unfold rdB; exact @decide_eq_false _ (Classical.propDecidable _) fun ⟨q, hq⟩ => h q hq
theorem rdQ_of {l : List Nat} (h : rdB l = true) : Rd l (rdQ l) := by
  unfold rdB at h
  have h1 := @of_decide_eq_true _ (Classical.propDecidable _) h
  unfold rdQ
  rw [dif_pos h1]
  exact Classical.choose_spec h1
theorem rdQ_eq {l : List Nat} {q : Sqr} (h : Rd l q) : sqs (rdQ l).n (rdQ l).t = sqs q.n q.t := (rdQ_of (rdB_yes h)).uniq h
/-- The table that rows tell. -/
def tbR (L : List (List Nat)) (n : Nat) : Nat → Nat → Nat := fun x y => if x < n ∧ y < n then (L.getD x []).getD y 0 - 48 else 0
theorem rd_rows {l : List Nat} {n : Nat} {t : Nat → Nat → Nat} (hs : IsSq (n : Int) t) (h : pcs 47 l = (List.range n).map fun x => rwT t x n) : Rd l ⟨(n : Int), t⟩ := by
  refine ⟨hs, ?_⟩
  have e := jn_pcs 47 l
  rw [h, List.length_map, List.length_range] at e
  rw [← e]
  simp only [Int.toNat_natCast]
  rw [sqT_jn]
  refine jn_congr fun i hi => ?_
  rw [List.getD_eq_getElem?_getD, List.getElem?_map, List.getElem?_range hi]
  rfl
/-- What is known when all rows of a text have the right length and digits alone. -/
theorem rows_full {l : List Nat} {n : Nat} (hl : (pcs 47 l).length = n) (hr : ∀ x, x < n → ((pcs 47 l).getD x []).length = n) (hd : ∀ x y, x < n → y < n → 48 ≤ ((pcs 47 l).getD x []).getD y 0) : pcs 47 l = (List.range n).map fun x => rwT (tbR (pcs 47 l) n) x n := by
  refine List.ext_getElem? fun x => ?_
  by_cases hx : x < n
  · rw [List.getElem?_map, List.getElem?_range hx]
    have e1 : (pcs 47 l)[x]? = some ((pcs 47 l).getD x []) := by rw [List.getD_eq_getElem?_getD, List.getElem?_eq_getElem (by omega)]; rfl
    rw [e1]
    refine congrArg some (List.ext_getElem? fun y => ?_)
    by_cases hy : y < n
    · have hlen := hr x hx
      have hdd := hd x y hx hy
      rw [rwT_get hy]
      have e2 : ((pcs 47 l).getD x [])[y]? = some (((pcs 47 l).getD x []).getD y 0) := by rw [List.getD_eq_getElem?_getD (l := (pcs 47 l).getD x []), List.getElem?_eq_getElem (by omega)]; rfl
      rw [e2]
      unfold tbR
      rw [if_pos ⟨hx, hy⟩]
      congr 1; omega
    · rw [List.getElem?_eq_none (by rw [hr x hx]; omega), List.getElem?_eq_none (by rw [rwT_len]; omega)]
  · rw [List.getElem?_eq_none (by omega), List.getElem?_eq_none (by rw [List.length_map, List.length_range]; omega)]
theorem Rd.full {l : List Nat} {q : Sqr} (h : Rd l q) : (pcs 47 l).length = q.n.toNat ∧ (∀ x, x < q.n.toNat → ((pcs 47 l).getD x []).length = q.n.toNat) ∧ (∀ x y, x < q.n.toNat → y < q.n.toNat → ((pcs 47 l).getD x []).getD y 0 = 48 + q.t x y) := by
  have e := h.rows
  have hg : ∀ x, x < q.n.toNat → (pcs 47 l).getD x [] = rwT q.t x q.n.toNat := fun x hx => by
    rw [e, List.getD_eq_getElem?_getD, List.getElem?_map, List.getElem?_range hx]; rfl
  refine ⟨by rw [e]; simp, fun x hx => by rw [hg x hx, rwT_len], fun x y hx hy => ?_⟩
  rw [hg x hx, List.getD_eq_getElem?_getD, rwT_get hy]; rfl
theorem Rd.dig {l : List Nat} {q : Sqr} (h : Rd l q) {x y : Nat} (hx : x < q.n.toNat) (hy : y < q.n.toNat) : q.t x y < 10 := by
  obtain ⟨n, hn, n1, n2⟩ := h.pos
  have := (Lat.of_sq (N := n) (by rw [← hn]; exact h.sq)).lt x y (by omega) (by omega)
  omega
theorem IsPm.congrJ {n : Int} {p p' : Nat → Nat} (h : IsPm n p) (e : ∀ i, i < 10 → p i = p' i) : IsPm n p' :=
  ⟨h.lo, h.hi, fun i hi hn => by rw [← e i hi]; exact h.zero i hi hn, fun i hi hn => by rw [← e i hi]; exact h.lt i hi hn, fun i j hi hj hn => by rw [← e i hi, ← e j (by omega)]; exact h.inj i j hi hj hn⟩
theorem IsRw.congrJ {n : Int} {t t' : Nat → Nat → Nat} (h : IsRw n t) (e : ∀ x y, x < 10 → y < 10 → t x y = t' x y) : IsRw n t' :=
  ⟨fun x hx hn => (h.row x hx hn).congrJ fun i hi => e x i hx hi, fun x y hx hy hn => by rw [← e x y hx hy]; exact h.zero x y hx hy hn⟩
theorem IsSq.congrJ {n : Int} {t t' : Nat → Nat → Nat} (h : IsSq n t) (e : ∀ x y, x < 10 → y < 10 → t x y = t' x y) : IsSq n t' :=
  ⟨h.lo, h.hi, h.rows.congrJ e, h.cols.congrJ fun x y hx hy => e y x hy hx⟩
/-- A square of the rows' table: the text is that of a square just if this is one. -/
theorem rd_tbR {l : List Nat} {n : Nat} (h10 : n ≤ 10) (hl : (pcs 47 l).length = n) (hr : ∀ x, x < n → ((pcs 47 l).getD x []).length = n) (hd : ∀ x y, x < n → y < n → 48 ≤ ((pcs 47 l).getD x []).getD y 0) : rdB l = isSq (n : Int) (tbR (pcs 47 l) n) ∧ (rdB l = true → sqs (n : Int) (tbR (pcs 47 l) n) = sqs (rdQ l).n (rdQ l).t) := by
  have hf := rows_full hl hr hd
  cases hs : isSq (n : Int) (tbR (pcs 47 l) n) with
  | true =>
    have R := rd_rows (isSq_true.1 hs) hf
    exact ⟨rdB_yes R, fun _ => (rdQ_eq R).symm⟩
  | false =>
    have hno : ∀ q, ¬ Rd l q := fun q R => by
      obtain ⟨m, hm, m1, m2⟩ := R.pos
      obtain ⟨f1, f2, f3⟩ := R.full
      have hmn : q.n.toNat = n := by omega
      have e : sqs q.n q.t = sqs (n : Int) (tbR (pcs 47 l) n) := sqs_ext (by omega) fun x y hx hy => by
        unfold tbR
        by_cases hc : x < n ∧ y < n
        · rw [if_pos hc, f3 x y (by omega) (by omega)]; omega
        · rw [if_neg hc]
          by_cases hxn : x < n
          · exact (R.sq.rows.row x hx (by omega)).zero y hy (by omega)
          · exact R.sq.rows.zero x y hx hy (by omega)
      have ht : ∀ x y, x < 10 → y < 10 → q.t x y = tbR (pcs 47 l) n x y := fun x y hx hy => by
        have h1 := sqs_get (n := q.n) (t := q.t) hx hy
        have h2 := sqs_get (n := (n : Int)) (t := tbR (pcs 47 l) n) hx hy
        rw [e, h2] at h1
        have := Option.some.inj h1
        simp only [Value.int.injEq, true_and] at this
        omega
      have hsq : IsSq (n : Int) (tbR (pcs 47 l) n) := by
        have hqn : q.n = (n : Int) := by omega
        have s := R.sq
        rw [hqn] at s
        exact IsSq.congrJ s ht
      rw [isSq_true.2 hsq] at hs; cases hs
    exact ⟨rdB_no hno, fun h => by rw [rdB_no hno] at h; cases h⟩
end Go.Proofs.Ythdldlpflieeoaa

/- Rows that calls hand back, and rows that are read. -/
namespace Go.Proofs.Ythdldlpflieeoaa
set_option linter.unusedSimpArgs false
set_option linter.unusedVariables false
open Go Go.RowKit

theorem ownsRow_weak {w : World} {B B' e size : Nat} {v : Value} {n : Nat} {xs : List Value} (h : w.ownsRow B e size v n xs) (hB : B' ≤ B) : w.ownsRow B' e size v n xs := by
  refine ⟨h.1, ?_⟩
  rcases h.2 with h | ⟨g, cap, cur, h1, h2, h3⟩
  · exact .inl h
  · exact .inr ⟨g, cap, cur, h1, by omega, h3⟩
theorem place_row {w : World} {B : Nat} {v : Value} {n : Nat} {xs : List Value} {e size : Nat} (h : w.ownsRow B e size v n xs) : ∀ b, (Ent.row B v n xs e size).place b → B ≤ b := fun b hb => (World.ownsRow.lt h b hb).1
/-- A call hands back a row in new memory. -/
theorem Mm.joinRow {D : Nat → Prop} {w0 w w' : World} {L : List Ent} {v : Value} {n : Nat} {xs : List Value} {e size : Nat} (M : Mm D w0 w L) (M' : Mm no w w' [.row w.heap.size v n xs e size]) : Mm D w0 w' (.row w0.heap.size v n xs e size :: L) := by
  have h := M'.row 0 rfl
  exact M.gain M'.below (x := .row w0.heap.size v n xs e size) (ownsRow_weak h M.size) fun b hb => place_row h b hb
/-- A call hands back a row in new memory and writes to a block that is known. -/
theorem Mm.callw {D : Nat → Prop} {w0 w w' : World} {L : List Ent} {v : Value} {n : Nat} {xs : List Value} {e size b t : Nat} {cs cs' : Array Value} (M : Mm D w0 w L) (i : Nat) (hi : L[i]? = some (.box b cs t)) (hb : w0.heap.size ≤ b ∨ D b)
    (M' : Mm (fun k => k = b) w w' [.row w.heap.size v n xs e size, .box b cs' t]) : Mm D w0 w' (.row w0.heap.size v n xs e size :: L.set i (.box b cs' t)) := by
  have h := M'.row 0 rfl
  refine (M.wrote i hi hb M'.kept.grown (M'.box 1 rfl)).add (x := .row w0.heap.size v n xs e size) (ownsRow_weak h M.size) fun y hy c h1 h2 => ?_
  have hlo := place_row h c h1
  have hlt : c < w.heap.size := by
    rcases List.mem_or_eq_of_mem_set hy with h3 | h3
    · exact Ent.lt (M.mem h3) h2
    · subst h3
      cases h2
      exact (M.box i hi).lt
  omega
/-- A row that is not empty is read from now on. -/
theorem Mm.rowRd {D : Nat → Prop} {w0 w : World} {L : List Ent} (M : Mm D w0 w L) (i : Nat) {B n e : Nat} {v : Value} {xs : List Value} (hi : L[i]? = some (.row B v n xs e 1)) (hn : 0 < n) (f : Nat → Value) (hf : ∀ j, j < n → xs.getD j undef = f j) :
    ∃ g cap, v = .slice (some ⟨g, 0, none⟩) n cap ∧ Mm D w0 w (L.set i (.rd g n f)) := by
  obtain ⟨g, cap, rfl, _, ho, hr⟩ := own_rds (M.row i hi) (by omega)
  rw [Nat.mul_one] at hr
  refine ⟨g, cap, rfl, M.set i hi (.refl no w) (fun _ h => h.elim) (fun _ _ h => h.elim) (y := .rd g n f) (show rds w g n f from ⟨hr.lt, fun j hj => by rw [hr.at_ j hj, hf j hj]⟩) fun k h => .inl ?_⟩
  cases h; exact ho
def i64F (l : List Nat) : Nat → Value := fun j => .int .i64 (l.getD j 0 : Nat)
theorem i64F_at {l : List Nat} {i x : Nat} (h : l[i]? = some x) : i64F l i = .int .i64 (x : Int) := by unfold i64F; rw [List.getD_eq_getElem?_getD, h]; rfl
end Go.Proofs.Ythdldlpflieeoaa

/- A text cut at a byte, for the reference: contract. -/
namespace Go.Proofs.Ythdldlpflieeoaa
set_option linter.unusedSimpArgs false
set_option linter.unusedVariables false
open Go Go.RowKit

theorem str_extract (l : List Nat) {a k : Nat} : (str l).extract a k = str ((l.take k).drop a) := by
  show (ByteArray.mk (l.map UInt8.ofNat).toArray).extract a k = ByteArray.mk (((l.take k).drop a).map UInt8.ofNat).toArray
  rw [ByteArray.extract_mk, List.map_drop, List.map_take, List.drop_take]
theorem sl_str (l : List Nat) {a k : Nat} (h1 : a ≤ k) (h2 : k ≤ l.length) (w : World) : (Instr.slice 9 (.string (str l)) (some (.int .i64 (a : Int))) (some (.int .i64 (k : Int))) none).run Try.prog w = .ok (.string (str ((l.take k).drop a))) w := by
  rw [run_slice_string w 9 (str l) .i64 .i64 (a : Int) (k : Int) und_str (by omega) (by omega) (by rw [str_size]; omega), ← str_extract]
  rfl
/-- Texts as cells. -/
def txL (L : List (List Nat)) : List Value := L.map fun p => .string (str p)
theorem txL_snoc (L : List (List Nat)) (p : List Nat) : txL (L ++ [p]) = txL L ++ [.string (str p)] := by simp [txL]
def SpPost (L : List (List Nat)) (w : World) (e : Ending) (w' : World) : Prop := ∃ p d, e = .returned (.slice p L.length d) ∧ Mm no w w' [.row w.heap.size (.slice p L.length d) L.length (txL L) 9 1]
theorem rowBaseP {D : Nat → Prop} {w0 w : World} {L : List Ent} {b : Nat} {e : Nat} (M : Mm D w0 w (.box b #[] e :: L)) (h : w0.heap.size ≤ b) : Mm D w0 w (.row w0.heap.size (.slice (some ⟨b, 0, none⟩) 0 0) 0 [] e 1 :: L) := M.asRow 0 rfl w0.heap.size 0 1 h rfl (Nat.zero_le _)

set_option maxRecDepth 100000 in
set_option maxHeartbeats 2000000 in
theorem l01Split_any (l : List Nat) (hb : Byts l) (hl : l.length ≤ 1048576) (c : Nat) (hc : c < 256) (w : World) :
    Calls Try.prog 282 #[.string (str l), .int .u8 (c : Int)] w (SpPost (pcs c l) w) := by
  have M := Mm.start no w
  have hsz := str_size l
  have HX := Hid2.mk (fun k (hk : k < l.length) w1 => ix_str hb k hk w1)
  have HS := Hid2.mk (fun a k (h1 : a ≤ k) (h2 : k ≤ l.length) w1 => sl_str l h1 h2 w1)
  have hc' : (c : Int) < 256 := by omega
  generalize hs : str l = s at *
  have HSS := Hid2.mk hs
  clear hb hs
  go_enter Try.func282, Try.ntmps282
  go_wp2_with (first | (((with_reducible apply wpM_bsl' M 226 0 9 ([]) (#[])); rfl; rfl; rfl; exact bsl_J0; clear M; (try clear C); intro bo w9 h_bo M; have C := M.ruleAll; simp only [Go.Proofs.Ythdldlpflieeoaa.ruleAll] at C); have M9 := rowBaseP M h_bo; clear M; (try clear C); have M := M9; clear M9; have C := M.ruleAll; simp only [Go.Proofs.Ythdldlpflieeoaa.ruleAll] at C))
  go_loopw [7, 5, 6] (fun i v at_ wr => ∃ (k a : Nat) (A : List (List Nat)) (pp : Option Addr) (d : Nat), k ≤ l.length ∧ a ≤ k ∧ i = .int .i64 (k : Int) ∧ at_ = .int .i64 (a : Int) ∧ v = .slice pp A.length d ∧ A.length ≤ k ∧ pst c (l.take k) = (A, (l.take k).drop a) ∧ Mm no w wr [.row w.heap.size (.slice pp A.length d) A.length (txL A) 9 1]) (fun i _ _ _ => l.length - (intOf i).toNat)
  case atStart => exact ⟨0, 0, [], some ⟨bo, 0, none⟩, 0, by omega, by omega, rfl, rfl, rfl, Nat.le_refl _, rfl, M⟩
  case round =>
    obtain ⟨k, a, A, pp, dd, hk, ha, rfl, rfl, rfl, hAk, hp, M9⟩ := hrel
    clear M; (try clear C)
    have M := M9
    clear M9
    have HP := Hid2.mk hp
    clear hp
    by_cases hlt : k < l.length
    · have hlt' : (k : Int) < (l.length : Int) := by omega
      have hix := HX.out k hlt
      have hg : l.getD k 0 = l[k] := by rw [List.getD_eq_getElem?_getD, List.getElem?_eq_getElem hlt]; rfl
      have ht : l.take (k + 1) = l.take k ++ [l[k]] := List.take_succ_eq_append_getElem hlt
      rw [hg] at hix
      have hstep : pst c (l.take (k + 1)) = pstep c (A, (l.take k).drop a) l[k] := by rw [ht, pst_snoc, HP.out]
      have hdr : (l.take (k + 1)).drop a = (l.take k).drop a ++ [l[k]] := by rw [ht, List.drop_append_of_le_length (by rw [List.length_take, Nat.min_eq_left (by omega)]; exact ha)]
      by_cases hx : l[k] = c
      · have hxe : ((l[k] : Int) == (c : Int)) = true := by rw [hx]; simp
        have HST := Hid2.mk (show pst c (l.take (k + 1)) = (A ++ [(l.take k).drop a], (l.take (k + 1)).drop (k + 1)) by
          rw [hstep]; unfold pstep; rw [if_pos hx]
          rw [List.drop_of_length_le (List.length_take_le ..)])
        have hsl := HS.out a k ha hk
        have hex : s.extract a k = str ((l.take k).drop a) := by rw [← HSS.out]; exact str_extract l
        generalize (l.take k).drop a = cur at hsl HST hex
        generalize l[k] = x at hix hxe
        clear hg ht hstep hdr hx HX HS
        have C := M.ruleAll; simp only [Go.Proofs.Ythdldlpflieeoaa.ruleAll] at C
        go_wp2_with (first | ((with_reducible apply wpM_bsl' M 226 1 9 ([(0, .string (str cur))]) (#[.string (str cur)])); rfl; rfl; rfl; exact bsl_J1 _; clear M; (try clear C); intro bx w9 h_bx M; have C := M.ruleAll; simp only [Go.Proofs.Ythdldlpflieeoaa.ruleAll] at C) | ((with_reducible apply wpM_app' M 226 1 0 (w.heap.size) (.slice pp A.length dd) (A.length) (txL A) 9 1 16); rfl; rfl; rfl; rfl; rfl; rfl; rfl; (first | exact .inl (Nat.le_refl _) | exact .inl (by assumption) | exact .inr (by assumption) | exact .inr HDv.out); (first | exact M.size | (have hq := M.size; omega)); exact und_slJ; exact inf_elJ; rfl; decide; decide; rfl; exact rfl; exact flat_J1 _; omega; clear M; (try clear C); intro v3 w9 far_v3 M; simp only [List.set_cons_zero, List.set_cons_succ, entBlk, entT, List.getElem?_cons_zero, List.getElem?_cons_succ] at M; obtain ⟨pp_v3, cap_v3, rfl⟩ := own_form (M.row 1 rfl); have C := M.ruleAll; simp only [Go.Proofs.Ythdldlpflieeoaa.ruleAll] at C))
        go_roundw
        case rel => exact ⟨k + 1, k + 1, A ++ [cur], pp_v3, cap_v3, by omega, by omega, by go_num, by go_num, by rw [List.length_append]; rfl, by rw [List.length_append]; simp only [List.length_cons, List.length_nil]; omega, HST.out, by
          rw [txL_snoc, List.length_append]
          exact (M.sub [1] (by decide)).eq rfl⟩
        case measure => simp [intOf]; omega
      · have hxe : ((l[k] : Int) == (c : Int)) = false := by rw [beq_eq_false_iff_ne]; omega
        have HST := Hid2.mk (show pst c (l.take (k + 1)) = (A, (l.take (k + 1)).drop a) by rw [hstep, hdr]; unfold pstep; rw [if_neg hx])
        generalize l[k] = x at hix hxe
        clear hg ht hstep hdr hx HX HS
        have C := M.ruleAll; simp only [Go.Proofs.Ythdldlpflieeoaa.ruleAll] at C
        go_wp2
        go_roundw
        case rel => exact ⟨k + 1, a, A, pp, dd, by omega, by omega, by go_num, rfl, rfl, by omega, HST.out, M⟩
        case measure => simp [intOf]; omega
    · obtain rfl : k = l.length := by omega
      have hge : ¬ ((l.length : Int) < (l.length : Int)) := by omega
      have hp := HP.out
      rw [List.take_length] at hp
      have HR := Hid2.mk (show pcs c l = A ++ [l.drop a] by unfold pcs; rw [hp])
      have hsl0 := HS.out a l.length ha (Nat.le_refl _)
      rw [List.take_length] at hsl0
      have hex : s.extract a l.length = str (l.drop a) := by
        rw [← HSS.out, str_extract, List.take_length]
      generalize hcur : l.drop a = cur at hsl0 HR hex
      have hsl : ∀ w1, (Instr.slice 9 (.string s) (some (.int .i64 (a : Int))) none none).run Try.prog w1 = .ok (.string (str cur)) w1 := fun w1 => by
        rw [run_slice_string_l w1 9 s und_str .i64 (a : Int) (by omega) (by omega), ← HSS.out, ← hcur]
        have e := str_extract l (a := a) (k := l.length)
        rw [List.take_length] at e
        rw [str_size, ← e]
        rfl
      clear hp hsl0 hcur HX HS
      have C := M.ruleAll; simp only [Go.Proofs.Ythdldlpflieeoaa.ruleAll] at C
      go_wp2_with (first | ((with_reducible apply wpM_bsl' M 226 1 9 ([(0, .string (str cur))]) (#[.string (str cur)])); rfl; rfl; rfl; exact bsl_J1 _; clear M; (try clear C); intro bx w9 h_bx M; have C := M.ruleAll; simp only [Go.Proofs.Ythdldlpflieeoaa.ruleAll] at C) | ((with_reducible apply wpM_app' M 226 1 0 (w.heap.size) (.slice pp A.length dd) (A.length) (txL A) 9 1 16); rfl; rfl; rfl; rfl; rfl; rfl; rfl; (first | exact .inl (Nat.le_refl _) | exact .inl (by assumption) | exact .inr (by assumption) | exact .inr HDv.out); (first | exact M.size | (have hq := M.size; omega)); exact und_slJ; exact inf_elJ; rfl; decide; decide; rfl; exact rfl; exact flat_J1 _; omega; clear M; (try clear C); intro v3 w9 far_v3 M; simp only [List.set_cons_zero, List.set_cons_succ, entBlk, entT, List.getElem?_cons_zero, List.getElem?_cons_succ] at M; obtain ⟨pp_v3, cap_v3, rfl⟩ := own_form (M.row 1 rfl); have C := M.ruleAll; simp only [Go.Proofs.Ythdldlpflieeoaa.ruleAll] at C))
      go_ret
      unfold SpPost
      rw [HR.out, txL_snoc, List.length_append]
      exact ⟨pp_v3, cap_v3, rfl, (M.sub [1] (by decide)).eq rfl⟩
end Go.Proofs.Ythdldlpflieeoaa

/- The reference's checks of squares and loops, and what lays a square: contracts. -/
namespace Go.Proofs.Ythdldlpflieeoaa
set_option linter.unusedSimpArgs false
set_option linter.unusedVariables false
open Go.RowKit

/-! ### '==' on ten bytes -/
theorem inf_u8' : (Try.prog.info? 5).isSome = true := by kernel_rfl
theorem inf_u8 : ∃ i, Try.prog.info? 5 = some i := Option.isSome_iff_exists.1 inf_u8'
theorem und_u8 : Try.prog.underlying 5 = some (.int .u8) := by kernel_rfl

/-- Two rows of ten bytes are the same. -/
def eqb (f g : Nat → Nat) : Bool := decide (∀ i ∈ List.range 10, f i = g i)
theorem eqb_true {f g : Nat → Nat} : eqb f g = true ↔ ∀ i, i < 10 → f i = g i := by simp [eqb]

theorem part_u8 (f : Nat → Nat) (i : Nat) (hi : i < 10) (w : World) : (part 5 (bys f) (i * Try.prog.cellsOf 5)).run Try.prog w = .ok (.int .u8 (f i)) w := by
  have hc : Try.prog.cellsOf 5 = 1 := by kernel_rfl
  have ha : (isAgg 5).run Try.prog w = .ok false w := by
    unfold isAgg
    rw [Sem.run_bind, run_underlying und_u8 w]
    rfl
  rw [hc, Nat.mul_one]
  unfold part
  rw [Sem.run_bind, ha]
  simp [bys_get hi]

theorem eqItems_bys (d : Nat) (f g : Nat → Nat) (w : World) : ∀ l : List Nat, (∀ i ∈ l, i < 10) →
    (Op.eqItems (d + 1) 5 (Try.prog.cellsOf 5) (bys f) (bys g) l).run Try.prog w = .ok (decide (∀ i ∈ l, f i = g i)) w
  | [], _ => by simp [Op.eqItems]
  | i :: l, h => by
    have ih := eqItems_bys d f g w l fun j hj => h j (List.mem_cons_of_mem _ hj)
    simp only [Op.eqItems, Sem.run_bind, part_u8 f i (h i List.mem_cons_self) w, part_u8 g i (h i List.mem_cons_self) w, Result.andThen_ok, run_equalIn_int w d 5 .u8 .u8 _ _ und_u8]
    by_cases e : f i = g i
    · have e' : ((f i : Int) == (g i : Int)) = true := by simp [e]
      rw [e']
      simp only [Bool.not_true, Bool.false_eq_true, if_false, ih]
      simp [e]
    · have e' : ((f i : Int) == (g i : Int)) = false := by simp; omega
      rw [e']
      simp [e]

theorem equal_bys (d : Nat) (T : Nat) (hu : Try.prog.underlying T = some (.array 10 5)) (f g : Nat → Nat) (w : World) : (Op.equalIn (d + 2) T (.agg (bys f)) (.agg (bys g))).run Try.prog w = .ok (eqb f g) w := by
  obtain ⟨i, hi⟩ := inf_u8
  rw [run_equalIn_array w (d + 1) (bys f) (bys g) hu hi, eqItems_bys d f g w _ (by simp)]
  rfl
theorem neq_bys (f g : Nat → Nat) (w : World) : (binOp .neq 24 (.agg (bys f)) (.agg (bys g))).run Try.prog w = .ok (.bool (!eqb f g)) w := by
  rw [run_neq_struct, equal_bys 9998 _ und_bys f g w]; rfl
theorem eql_bys (f g : Nat → Nat) (w : World) : (binOp .eql 24 (.agg (bys f)) (.agg (bys g))).run Try.prog w = .ok (.bool (eqb f g)) w := by
  rw [run_eql_struct, equal_bys 9998 _ und_bys f g w]; rfl
theorem egt_bys : Try.prog.eqGuardType Try.prog.depth 24 = false := by kernel_rfl
theorem build_bys (w : World) : (Instr.build 24 #[]).run Try.prog w = .ok (.agg (bys fun _ => 0)) w := by kernel_rfl

set_option maxRecDepth 100000 in
set_option maxHeartbeats 1000000 in
theorem l01Rows_any (n : Int) (t : Nat → Nat → Nat) (w : World) (hby : Byt2 t) (hn0 : 1 ≤ n) (hn1 : n ≤ 10) :
    Calls Try.prog 250 #[.agg (tbs t), .int .i64 n] w fun e w' => e = .returned (.bool (isRw n t)) ∧ Below w.heap.size w w' := by
  go_enter Try.func250, Try.ntmps250
  go_wp2
  go_loopw [4, 5] (fun _ i wr => ∃ k : Nat, k ≤ 10 ∧ i = .int .i64 k ∧ Below w.heap.size w wr ∧ blk wr w.heap.size (tbs t) 35 ∧
    (∀ x, x < k → (x : Int) < n → IsPm n (t x)) ∧ (∀ x y, x < k → y < 10 → n ≤ (x : Int) → t x y = 0)) (fun _ i _ => (10 - intOf i).toNat)
  case atStart =>
    exact ⟨0, by omega, rfl, (Below.refl _ _).alloc (by simp) _, blk_new _ _ _ _ rfl, fun _ h => absurd h (by omega), fun _ _ h => absurd h (by omega)⟩
  case round =>
    obtain ⟨k, hk, rfl, hB, b1, hr, hz⟩ := hrel
    have HR := Hid2.mk hr
    have HZ := Hid2.mk hz
    clear hr hz
    by_cases hlt : k < 10
    · by_cases hkn : (k : Int) < n
      · cases hp : isPm n (t k) with
        | true =>
          go_wp2_with (first | (refine wpList_load_part_g 24 _ rfl rfl _ _ rfl (bys (t k)) _ und_bys rfl inf_bys (cells_of_blk b1 _ _ (tbs_row hlt)) ?_) | (go_at_call 136; ((with_reducible refine (l01Perm_any _ _ _ (hby.row hlt)).mono ?_); rintro e w1 ⟨rfl, hb⟩)))
          go_roundw
          case rel =>
            refine ⟨k + 1, by omega, by go_num, below_self hB hb, b1.later hb, fun x hx hxn => ?_, fun x y hx hy hxn => ?_⟩
            · by_cases h : x = k
              · subst h; exact isPm_true.1 hp
              · exact HR.out x (by omega) hxn
            · exact HZ.out x y (by omega) hy hxn
          case measure => simp [intOf]; omega
        | false =>
          have hF : isRw n t = false := isRw_false.2 fun h => by have := isPm_true.2 (h.row k hlt hkn); rw [hp] at this; cases this
          go_wp2_with (first | (refine wpList_load_part_g 24 _ rfl rfl _ _ rfl (bys (t k)) _ und_bys rfl inf_bys (cells_of_blk b1 _ _ (tbs_row hlt)) ?_) | (go_at_call 136; ((with_reducible refine (l01Perm_any _ _ _ (hby.row hlt)).mono ?_); rintro e w1 ⟨rfl, hb⟩)))
          go_ret
          exact ⟨by first | rfl | exact ret_b hF, below_self hB hb⟩
      · cases hp : eqb (t k) (fun _ => 0) with
        | true =>
          go_wp2_with (first | (refine wpList_load_part_g 24 _ rfl rfl _ _ rfl (bys (t k)) _ und_bys rfl inf_bys (cells_of_blk b1 _ _ (tbs_row hlt)) ?_) | (refine wpList_agg_g .neq 24 _ _ _ rfl rfl (bys (t k)) (bys fun _ => 0) rfl rfl egt_bys _ ((neq_bys _ _ _).trans (by rw [hp])) ?_))
          go_roundw
          case rel =>
            refine ⟨k + 1, by omega, by go_num, hB, b1, fun x hx hxn => HR.out x (by omega) hxn, fun x y hx hy hxn => ?_⟩
            by_cases h : x = k
            · subst h; exact eqb_true.1 hp y hy
            · exact HZ.out x y (by omega) hy hxn
          case measure => simp [intOf]; omega
        | false =>
          have hF : isRw n t = false := isRw_false.2 fun h => by
            have : eqb (t k) (fun _ => 0) = true := eqb_true.2 fun y hy => h.zero k y hlt hy (by omega)
            rw [hp] at this; cases this
          go_wp2_with (first | (refine wpList_load_part_g 24 _ rfl rfl _ _ rfl (bys (t k)) _ und_bys rfl inf_bys (cells_of_blk b1 _ _ (tbs_row hlt)) ?_) | (refine wpList_agg_g .neq 24 _ _ _ rfl rfl (bys (t k)) (bys fun _ => 0) rfl rfl egt_bys _ ((neq_bys _ _ _).trans (by rw [hp])) ?_))
          go_ret
          exact ⟨by first | rfl | exact ret_b hF, hB⟩
    · obtain rfl : k = 10 := by omega
      have hT : isRw n t = true := isRw_true.2 ⟨HR.out, HZ.out⟩
      go_wp2
      go_ret
      exact ⟨by first | rfl | exact ret_b hT, hB⟩

set_option maxRecDepth 100000 in
set_option maxHeartbeats 1000000 in
theorem l01Is_any (n : Int) (t : Nat → Nat → Nat) (w : World) (hby : Byt2 t) :
    Calls Try.prog 147 #[.agg (sqs n t)] w fun e w' => e = .returned (.bool (isSq n t)) ∧ Below w.heap.size w w' := by
  have b1 := blk_new w (sqs n t) 37 w.heap.size rfl
  have hB : Below w.heap.size w (w.alloc (.cells (sqs n t) 37)) := (Below.refl _ _).alloc (by simp) _
  by_cases hn : 1 ≤ n ∧ n ≤ 10
  · obtain ⟨hn1, hn2⟩ := hn
    cases hr : isRw n t with
    | false =>
      have hF : isSq n t = false := isSq_false.2 fun h => by have := isRw_true.2 h.rows; rw [hr] at this; cases this
      go_enter Try.func147, Try.ntmps147
      go_wp2
      apply wp_region_text (fun w' => Below w.heap.size w w' ∧ blk w' w.heap.size (sqs n t) 37) (by kernel_rfl) (by kernel_rfl) (⟨hB.drew, b1.drew⟩); (repeat (first | exact wpText_nil | (apply wpText_cons; (intro w2 hS; obtain ⟨hB2, b2⟩ := hS; have c0 := b2.cell 0 _ (sqs_order n t); go_wp2_with (first | (go_at_call 152; ((with_reducible refine (l01In_b _ _ _ true (by simp; omega) _).mono ?_); rintro e w1 ⟨rfl, rfl⟩)) | (refine wpList_load_part_g 35 _ rfl rfl _ _ rfl (tbs t) _ und_tbl rfl inf_tbl (cells_of_blk b2 _ _ sqs_tbs) ?_) | (go_at_call 250; ((with_reducible refine (l01Rows_any n t _ hby hn1 hn2).mono ?_); rintro e w1 ⟨rfl, hb⟩))); (first | exact ⟨rfl, rfl, hB2, b2⟩ | exact ⟨rfl, rfl, below_self hB2 hb, b2.later hb⟩)); rfl)))
      intro w' hS
      go_wp2
      go_ret
      exact ⟨by first | rfl | exact ret_b hF, hS.1⟩
    | true =>
      cases hr2 : isRw n (fun x y => t y x) with
      | false =>
        have hF : isSq n t = false := isSq_false.2 fun h => by have := isRw_true.2 h.cols; rw [hr2] at this; cases this
        go_enter Try.func147, Try.ntmps147
        go_wp2
        apply wp_region_text (fun w' => Below w.heap.size w w' ∧ blk w' w.heap.size (sqs n t) 37) (by kernel_rfl) (by kernel_rfl) (⟨hB.drew, b1.drew⟩); (repeat (first | exact wpText_nil | (apply wpText_cons; (intro w2 hS; obtain ⟨hB2, b2⟩ := hS; have c0 := b2.cell 0 _ (sqs_order n t); go_wp2_with (first | (go_at_call 152; ((with_reducible refine (l01In_b _ _ _ true (by simp; omega) _).mono ?_); rintro e w1 ⟨rfl, rfl⟩)) | (refine wpList_load_part_g 35 _ rfl rfl _ _ rfl (tbs t) _ und_tbl rfl inf_tbl (cells_of_blk b2 _ _ sqs_tbs) ?_) | (go_at_call 250; ((with_reducible refine (l01Rows_any n t _ hby hn1 hn2).mono ?_); rintro e w1 ⟨rfl, hb⟩)) | (go_at_call 250; ((with_reducible refine (l01Rows_any n (fun x y => t y x) _ hby.turn hn1 hn2).mono ?_); rintro e w1 ⟨rfl, hb⟩)) | (go_at_call 251; ((with_reducible refine (l01Turned_any _ _).mono ?_); rintro e w1 ⟨rfl, hb⟩))); (first | exact ⟨rfl, rfl, hB2, b2⟩ | exact ⟨rfl, rfl, below_self hB2 hb, b2.later hb⟩)); rfl)))
        intro w' hS
        go_wp2
        go_ret
        exact ⟨by first | rfl | exact ret_b hF, hS.1⟩
      | true =>
        have hT : isSq n t = true := isSq_true.2 ⟨hn1, hn2, isRw_true.1 hr, isRw_true.1 hr2⟩
        go_enter Try.func147, Try.ntmps147
        go_wp2
        apply wp_region_text (fun w' => Below w.heap.size w w' ∧ blk w' w.heap.size (sqs n t) 37) (by kernel_rfl) (by kernel_rfl) (⟨hB.drew, b1.drew⟩); (repeat (first | exact wpText_nil | (apply wpText_cons; (intro w2 hS; obtain ⟨hB2, b2⟩ := hS; have c0 := b2.cell 0 _ (sqs_order n t); go_wp2_with (first | (go_at_call 152; ((with_reducible refine (l01In_b _ _ _ true (by simp; omega) _).mono ?_); rintro e w1 ⟨rfl, rfl⟩)) | (refine wpList_load_part_g 35 _ rfl rfl _ _ rfl (tbs t) _ und_tbl rfl inf_tbl (cells_of_blk b2 _ _ sqs_tbs) ?_) | (go_at_call 250; ((with_reducible refine (l01Rows_any n t _ hby hn1 hn2).mono ?_); rintro e w1 ⟨rfl, hb⟩)) | (go_at_call 250; ((with_reducible refine (l01Rows_any n (fun x y => t y x) _ hby.turn hn1 hn2).mono ?_); rintro e w1 ⟨rfl, hb⟩)) | (go_at_call 251; ((with_reducible refine (l01Turned_any _ _).mono ?_); rintro e w1 ⟨rfl, hb⟩))); (first | exact ⟨rfl, rfl, hB2, b2⟩ | exact ⟨rfl, rfl, below_self hB2 hb, b2.later hb⟩)); rfl)))
        intro w' hS
        go_wp2
        go_ret
        exact ⟨by first | rfl | exact ret_b hT, hS.1⟩
  · have hF : isSq n t = false := isSq_false.2 fun h => hn ⟨h.lo, h.hi⟩
    go_enter Try.func147, Try.ntmps147
    go_wp2
    apply wp_region_text (fun w' => Below w.heap.size w w' ∧ blk w' w.heap.size (sqs n t) 37) (by kernel_rfl) (by kernel_rfl) (⟨hB.drew, b1.drew⟩); (repeat (first | exact wpText_nil | (apply wpText_cons; (intro w2 hS; obtain ⟨hB2, b2⟩ := hS; have c0 := b2.cell 0 _ (sqs_order n t); go_wp2_with (first | (go_at_call 152; ((with_reducible refine (l01In_b _ _ _ false (by simp; omega) _).mono ?_); rintro e w1 ⟨rfl, rfl⟩))); (first | exact ⟨rfl, rfl, hB2, b2⟩)); rfl)))
    intro w' hS
    go_wp2
    go_ret
    exact ⟨by first | rfl | exact ret_b hF, hS.1⟩

end Go.Proofs.Ythdldlpflieeoaa

/- Two results, of which the first is a struct in a cell of its own. -/
namespace Go.Proofs.Ythdldlpflieeoaa
set_option linter.unusedSimpArgs false
set_option linter.unusedVariables false
open Go Go.RowKit

theorem results_part2 {P : Program} {fn : Func} {p q : Tmp} {ty : TypeId} (h : fn.results = #[.cell p ty, .tmp q]) (tmps : Array Value) (w : World) (b off : Nat) (part : Array Value) (d : TypeDesc)
    (hp : tmps.getD p undef = .pointer (some ⟨b, off, none⟩)) (hu : P.underlying ty = some d) (hd : (match d with | .struct _ | .array _ _ => true | _ => false) = true) (hi : (P.info? ty).map (·.size) = some part.size)
    (hc : ∀ j v, part[j]? = some v → w.cell? ⟨b, off + j, none⟩ = some v) (v : Value) (hv : tmps.getD q undef = v) :
    (results fn tmps).run P w = .ok (.tuple #[.agg part, v]) w := by
  have hp' : tmps[p]?.getD undef = .pointer (some ⟨b, off, none⟩) := by simpa using hp
  have hv' : tmps[q]?.getD undef = v := by simpa using hv
  simp [results, h, hp', hv', asAddr, run_load_part w b off ty part d hu hd hi hc]
end Go.Proofs.Ythdldlpflieeoaa

/- Cells of a part of an isomorphism; two results of which the first is a struct. -/
namespace Go.Proofs.Ythdldlpflieeoaa
set_option linter.unusedSimpArgs false
set_option linter.unusedVariables false
open Go Go.RowKit

def pms (m : PM) : Array Value := tab 21 fun i => .int .i64 (if i < 10 then m.to i else if i < 20 then m.used (i - 10) else m.size)
theorem pms_size (m : PM) : (pms m).size = 21 := tab_size _ _
theorem flat_pms (m : PM) : flat (pms m) := flat_tab fun _ _ => rfl
theorem pms_to (m : PM) {i : Nat} (h : i < 10) : (pms m)[i]? = some (.int .i64 (m.to i)) := by
  unfold pms; rw [tab_get (by omega), if_pos h]
theorem pms_used (m : PM) {i : Nat} (h : i < 10) : (pms m)[10 + i]? = some (.int .i64 (m.used i)) := by
  unfold pms; rw [tab_get (by omega), if_neg (by omega), if_pos (by omega), Nat.add_sub_cancel_left]
theorem pms_sz (m : PM) : (pms m)[20]? = some (.int .i64 m.size) := by
  unfold pms; rw [tab_get (by omega)]; rfl
theorem pms_set_to (m : PM) {x : Nat} (v : Int) (hx : x < 10) : (pms m).setIfInBounds x (.int .i64 v) = pms { m with to := fun i => if i = x then v else m.to i } := by
  unfold pms; rw [tab_set]
  refine tab_ext fun j hj => ?_
  dsimp only
  by_cases e : j = x
  · subst e; rw [if_pos rfl, if_pos hx, if_pos rfl]
  · rw [if_neg e, if_neg e]
theorem pms_set_used (m : PM) {y : Nat} (v : Int) (hy : y < 10) : (pms m).setIfInBounds (10 + y) (.int .i64 v) = pms { m with used := fun i => if i = y then v else m.used i } := by
  unfold pms; rw [tab_set]
  refine tab_ext fun j hj => ?_
  dsimp only
  by_cases e : j = 10 + y
  · subst e; rw [if_pos rfl, if_neg (by omega), if_pos (by omega), if_pos (by omega)]
  · rw [if_neg e]
    by_cases h : j < 10
    · rw [if_pos h, if_pos h]
    · rw [if_neg h, if_neg h]
      by_cases h2 : j < 20
      · rw [if_pos h2, if_pos h2, if_neg (by omega)]
      · rw [if_neg h2, if_neg h2]
theorem pms_set_sz (m : PM) (v : Int) : (pms m).setIfInBounds 20 (.int .i64 v) = pms { m with size := v } := by
  unfold pms; rw [tab_set]
  refine tab_ext fun j hj => ?_
  dsimp only
  by_cases e : j = 20
  · subst e; rfl
  · rw [if_neg e, if_pos (show j < 20 by omega), if_pos (show j < 20 by omega)]
theorem pms_add (m : PM) {x y : Nat} (hx : x < 10) (hy : y < 10) : (((pms m).setIfInBounds x (.int .i64 (y : Int))).setIfInBounds (10 + y) (.int .i64 1)).setIfInBounds 20 (.int .i64 (m.size + 1)) = pms (m.add x y) := by
  rw [pms_set_to m _ hx, pms_set_used _ _ hy, pms_set_sz]; rfl

theorem zero_l2m (w : World) : (zeroValue 199).run Try.prog w = .ok (.agg (pms ⟨fun _ => 0, fun _ => 0, 0⟩)) w := by kernel_rfl
theorem build_l2m (w : World) : (Instr.build 199 #[]).run Try.prog w = .ok (.agg (pms ⟨fun _ => 0, fun _ => 0, 0⟩)) w := by kernel_rfl
theorem und_l2m : Try.prog.underlying 199 = some (.struct (Try.prog.fieldsOf 199)) := by kernel_rfl
theorem inf_l2m : (Try.prog.info? 199).map (·.size) = some 21 := by kernel_rfl

theorem ret_two {a b : Array Value} {c d : Bool} (h : a = b) (k : c = d) : Ending.returned (.tuple #[.agg a, .bool c]) = Ending.returned (.tuple #[.agg b, .bool d]) := by rw [h, k]
end Go.Proofs.Ythdldlpflieeoaa

/- The square of a text, for the reference: contract. -/
namespace Go.Proofs.Ythdldlpflieeoaa
set_option linter.unusedSimpArgs false
set_option linter.unusedVariables false
open Go Go.RowKit

theorem pst_byt (c : Nat) : ∀ (l : List Nat) (s : List (List Nat) × List Nat), (∀ p ∈ s.1, Byts p) → Byts s.2 → Byts l → (∀ p ∈ (l.foldl (pstep c) s).1, Byts p) ∧ Byts (l.foldl (pstep c) s).2
  | [], s, h1, h2, _ => ⟨h1, h2⟩
  | x :: l, s, h1, h2, h3 => by
    rw [List.foldl_cons]
    have hx : x < 256 := h3 x (List.mem_cons_self ..)
    refine pst_byt c l _ ?_ ?_ fun y hy => h3 y (List.mem_cons_of_mem _ hy)
    · unfold pstep
      split
      · intro p hp
        rcases List.mem_append.1 hp with h | h
        · exact h1 p h
        · rw [List.mem_singleton.1 h]; exact h2
      · exact h1
    · unfold pstep
      split
      · intro y hy; cases hy
      · intro y hy
        rcases List.mem_append.1 hy with h | h
        · exact h2 y h
        · rw [List.mem_singleton.1 h]; exact hx
theorem pcs_byt {c : Nat} {l : List Nat} (h : Byts l) : ∀ p ∈ pcs c l, Byts p := fun p hp => by
  have hk := pst_byt c l ([], []) (fun p hp => by cases hp) (fun y hy => by cases hy) h
  unfold pcs at hp
  rcases List.mem_append.1 hp with h1 | h1
  · exact hk.1 p h1
  · rw [List.mem_singleton.1 h1]; exact hk.2
theorem pcs_getD_byt {c : Nat} {l : List Nat} (h : Byts l) (i : Nat) : Byts ((pcs c l).getD i []) := by
  rw [List.getD_eq_getElem?_getD]
  cases e : (pcs c l)[i]? with
  | none => intro y hy; cases hy
  | some p => exact pcs_byt h p (List.mem_of_getElem? e)
theorem byts_getD {p : List Nat} (h : Byts p) (j : Nat) : p.getD j 0 < 256 := by
  rw [List.getD_eq_getElem?_getD]
  cases e : p[j]? with
  | none => decide
  | some x => exact h x (List.mem_of_getElem? e)
def txF (L : List (List Nat)) (j : Nat) : Value := .string (str (L.getD j []))
theorem txL_get (L : List (List Nat)) {j : Nat} (hj : j < L.length) : (txL L).getD j undef = txF L j := by
  unfold txL txF
  rw [List.getD_eq_getElem?_getD, List.getElem?_map, List.getD_eq_getElem?_getD, List.getElem?_eq_getElem hj]; rfl
/-- The table as far as a place. -/
def tbP (L : List (List Nat)) (n x y : Nat) : Nat → Nat → Nat := fun i j => if i < x ∨ (i = x ∧ j < y) then tbR L n i j else 0
theorem tbP_row (L : List (List Nat)) (n x : Nat) : sqs (n : Int) (tbP L n x n) = sqs (n : Int) (tbP L n (x + 1) 0) := sqs_ext rfl fun i j _ _ => by
  unfold tbP
  by_cases h1 : i < x
  · rw [if_pos (.inl h1), if_pos (.inl (by omega))]
  · by_cases h2 : i = x
    · rw [if_pos (show i < x + 1 ∨ _ from .inl (by omega))]
      by_cases h3 : j < n
      · rw [if_pos (.inr ⟨h2, h3⟩)]
      · rw [if_neg (by omega)]
        unfold tbR
        rw [if_neg (by omega)]
    · rw [if_neg (by omega), if_neg (by omega)]
theorem tbP_all (L : List (List Nat)) (n : Nat) : sqs (n : Int) (tbP L n n 0) = sqs (n : Int) (tbR L n) := sqs_ext rfl fun i j _ _ => by
  unfold tbP
  by_cases h1 : i < n
  · rw [if_pos (.inl h1)]
  · rw [if_neg (by omega)]
    unfold tbR
    rw [if_neg (by omega)]
theorem tbP_0 (L : List (List Nat)) (n : Nat) : sqs (n : Int) (tbP L n 0 0) = sqs (n : Int) fun _ _ => 0 := sqs_ext rfl fun i j _ _ => by unfold tbP; rw [if_neg (by omega)]
theorem tbP_set {L : List (List Nat)} {n x y : Nat} (hx : x < n) (hy : y < n) (h10 : n ≤ 10) (hb : 48 ≤ (L.getD x []).getD y 0) : (sqs (n : Int) (tbP L n x y)).setIfInBounds (1 + x * 10 + y) (.int .u8 (((L.getD x []).getD y 0 : Nat) - 48 : Int)) = sqs (n : Int) (tbP L n x (y + 1)) := by
  have e : (((L.getD x []).getD y 0 : Nat) - 48 : Int) = (((L.getD x []).getD y 0 - 48 : Nat) : Int) := by omega
  rw [e, sqs_set (by omega) (by omega)]
  refine sqs_ext rfl fun i j _ _ => ?_
  unfold tbP
  by_cases h : i = x ∧ j = y
  · rw [if_pos h, if_pos (.inr ⟨h.1, by omega⟩)]
    unfold tbR
    rw [if_pos (by omega), h.1, h.2]
  · rw [if_neg h]
    by_cases h1 : i < x ∨ (i = x ∧ j < y)
    · rw [if_pos h1, if_pos (by omega)]
    · rw [if_neg h1, if_neg (by omega)]
theorem tbR_byt {L : List (List Nat)} (h : ∀ i, Byts (L.getD i [])) (n : Nat) : Byt2 (tbR L n) := ⟨fun x y _ _ => by
  unfold tbR
  split
  · have := byts_getD (h x) y; omega
  · decide⟩
theorem rd_no_len {l : List Nat} (h : 10 < (pcs 47 l).length) : rdB l = false := rdB_no fun q R => by
  obtain ⟨n, hn, n1, n2⟩ := R.pos
  have := R.full.1
  omega
theorem rd_no_row {l : List Nat} {n x : Nat} (hn : (pcs 47 l).length = n) (hx : x < n) (h : ((pcs 47 l).getD x []).length ≠ n) : rdB l = false := rdB_no fun q R => by
  have h1 := R.full.1
  have h2 := R.full.2.1 x (by omega)
  omega
theorem rd_no_dig {l : List Nat} {n x y : Nat} (hn : (pcs 47 l).length = n) (hx : x < n) (hy : y < n) (h : ((pcs 47 l).getD x []).getD y 0 < 48 ∨ 57 < ((pcs 47 l).getD x []).getD y 0) : rdB l = false := rdB_no fun q R => by
  have h1 := R.full.1
  have h2 := R.full.2.2 x y (by omega) (by omega)
  have h3 := R.dig (x := x) (y := y) (by omega) (by omega)
  omega
/-- What is handed back. -/
def RdPost (l : List Nat) (w : World) (e : Ending) (w' : World) : Prop := ∃ (m : Int) (u : Nat → Nat → Nat), e = .returned (.tuple #[.agg (sqs m u), .bool (rdB l)]) ∧ (rdB l = true → sqs m u = sqs (rdQ l).n (rdQ l).t) ∧ Below w.heap.size w w'
theorem RdPost.no {l : List Nat} {w w' : World} (h : rdB l = false) (hb : Below w.heap.size w w') : RdPost l w (.returned (.tuple #[.agg (sqs 0 fun _ _ => 0), .bool false])) w' := ⟨0, fun _ _ => 0, by rw [h], (fun h' => by rw [h] at h'; cases h'), hb⟩
theorem build_sqP (n : Int) (w : World) : (Instr.build 37 #[(0, .int .i64 n)]).run Try.prog w = .ok (.agg (sqs n fun _ _ => 0)) w := by kernel_rfl
theorem build_sq0P (w : World) : (Instr.build 37 #[]).run Try.prog w = .ok (.agg (sqs 0 fun _ _ => 0)) w := by kernel_rfl

set_option maxRecDepth 100000 in
set_option maxHeartbeats 4000000 in
theorem l01Read_any (l : List Nat) (hb : Byts l) (hl : l.length ≤ 1048576) (w : World) : Calls Try.prog 247 #[.string (str l)] w (RdPost l w) := by
  have M := Mm.start no w
  have HS := Hid2.mk (fun w1 => l01Split_any l hb hl 47 (by decide) w1)
  have HB := Hid2.mk (fun i => pcs_getD_byt (c := 47) hb i)
  have hpos : 0 < (pcs 47 l).length := by rw [pcs_len]; omega
  have hle := pcs_le 47 l
  have H1 := Hid2.mk (@rd_no_len l)
  have H2 := Hid2.mk (@rd_no_row l)
  have H3 := Hid2.mk (@rd_no_dig l)
  have H4 := Hid2.mk (fun n h10 hn hr hd => @rd_tbR l n h10 hn hr hd)
  generalize pcs 47 l = L at HS HB hpos hle H1 H2 H3 H4
  have hz := zero_sqs
  generalize str l = s at HS
  clear hb
  go_enter Try.func247, Try.ntmps247
  go_wp2_with (first | ((fail_if_success have := h_b2); ((with_reducible apply wpM_alloc' M 37 (sqs 0 fun _ _ => 0)); rfl; exact ⟨rfl, _, zero_sqs _, rfl⟩; clear M; (try clear C); intro b2 w9 h_b2 M; have C := M.ruleAll; simp only [Go.Proofs.Ythdldlpflieeoaa.ruleAll] at C)) | (go_at_call 282; fail))
  refine (HS.out _).mono ?_
  rintro e w1 ⟨pp, dd, rfl, M'⟩
  have M9 := M.joinRow M'
  obtain ⟨g, cap, hv, M8⟩ := M9.rowRd 0 rfl hpos (txF L) (fun j hj => txL_get L hj)
  obtain ⟨rfl, rfl⟩ : pp = some ⟨g, 0, none⟩ ∧ dd = cap := by cases hv; exact ⟨rfl, rfl⟩
  simp only [List.set_cons_zero] at M8
  clear M; (try clear C)
  have M : Mm no w w1 [.rd g L.length (txF L), .box b2 (sqs 0 fun _ _ => 0) 37] := M8
  clear M8 M9 M' HS hv
  have C := M.ruleAll; simp only [Go.Proofs.Ythdldlpflieeoaa.ruleAll] at C
  by_cases h10 : 10 < L.length
  · have h10' : (10 : Int) < (L.length : Int) := by omega
    have hno := H1.out h10
    have HNO := Hid2.mk hno
    clear hno
    go_wp2_with (first | (refine wpList_build 37 _ rfl rfl [] rfl _ (build_sq0P _) ?_) | ((with_reducible apply wpM_sta' M 1 37 (sqs 0 fun _ _ => 0)); rfl; rfl; rfl; rfl; (first | exact .inl (by assumption) | exact .inr rfl | exact .inr (by assumption)); exact ⟨rfl, inf_sqs.trans (congrArg some (sqs_size ..).symm), flat_sqs _ _⟩; (simp only [entCells, List.getElem?_cons_zero, List.getElem?_cons_succ, sqs_size, sqs_size]); clear M; (try clear C); intro w9 M; simp only [List.set_cons_zero, List.set_cons_succ, entBlk, entT, List.getElem?_cons_zero, List.getElem?_cons_succ] at M; have C := M.ruleAll; simp only [Go.Proofs.Ythdldlpflieeoaa.ruleAll] at C))
    refine bodyPost_ret (v := .tuple #[.agg (sqs 0 fun _ _ => 0), .bool false]) (by exact results_part2 rfl _ _ _ _ (sqs 0 fun _ _ => 0) _ rfl und_sqs rfl inf_sqs (cells_of_blk0 (M.box 1 rfl)) _ rfl) rfl ?_
    exact RdPost.no HNO.out M.below
  have h10' : ¬ (10 : Int) < (L.length : Int) := by omega
  have h10n : L.length ≤ 10 := by omega
  obtain ⟨n, hn⟩ : ∃ n, n = L.length := ⟨_, rfl⟩
  rw [← hn] at M h10' h10n hpos C ⊢
  have HN := Hid2.mk hn.symm
  clear hn h10 hle
  go_wp2_with (first | (refine wpList_build 37 _ rfl rfl [(0, .int .i64 (n : Int))] rfl _ (build_sqP _ _) ?_) | ((fail_if_success have := h_b6); ((with_reducible apply wpM_alloc' M 37 (sqs 0 fun _ _ => 0)); rfl; exact ⟨rfl, _, zero_sqs _, rfl⟩; clear M; (try clear C); intro b6 w9 h_b6 M; have C := M.ruleAll; simp only [Go.Proofs.Ythdldlpflieeoaa.ruleAll] at C)) | ((with_reducible apply wpM_sta' M 0 37 (sqs (n : Int) fun _ _ => 0)); rfl; rfl; rfl; rfl; (first | exact .inl (by assumption) | exact .inr rfl | exact .inr (by assumption)); exact ⟨rfl, inf_sqs.trans (congrArg some (sqs_size ..).symm), flat_sqs _ _⟩; (simp only [entCells, List.getElem?_cons_zero, List.getElem?_cons_succ, sqs_size, sqs_size]); clear M; (try clear C); intro w9 M; simp only [List.set_cons_zero, List.set_cons_succ, entBlk, entT, List.getElem?_cons_zero, List.getElem?_cons_succ] at M; have C := M.ruleAll; simp only [Go.Proofs.Ythdldlpflieeoaa.ruleAll] at C))
  have M9 : Mm no w _ [.box b6 (sqs (n : Int) (tbP L n 0 0)) 37, .rd g n (txF L), .box b2 (sqs 0 fun _ _ => 0) 37] := M.eq (by rw [tbP_0])
  clear M; (try clear C)
  have M := M9
  clear M9 H1
  go_loopw [7] (fun i wr => ∃ x : Nat, x ≤ n ∧ i = .int .i64 (x : Int) ∧ (∀ i, i < x → (L.getD i []).length = n ∧ ∀ j, j < n → 48 ≤ (L.getD i []).getD j 0) ∧ Mm no w wr [.box b6 (sqs (n : Int) (tbP L n x 0)) 37, .rd g n (txF L), .box b2 (sqs 0 fun _ _ => 0) 37]) (fun i _ => n - (intOf i).toNat)
  case atStart => exact ⟨0, by omega, rfl, fun i h => by omega, M⟩
  case round =>
    obtain ⟨x, hxn, rfl, hall, M9⟩ := hrel
    clear M; (try clear C)
    have M := M9
    clear M9
    have HALL := Hid2.mk hall
    clear hall
    have C := M.ruleAll; simp only [Go.Proofs.Ythdldlpflieeoaa.ruleAll] at C
    by_cases hx : x < n
    · have hx' : (x : Int) < (n : Int) := by omega
      have hx10 : (x : Int) < 10 := by omega
      have dlt : decide ((x : Int) < (n : Int)) = true := decide_eq_true hx'
      have hfx : txF L x = .string (str (L.getD x [])) := rfl
      have hsz := str_size (L.getD x [])
      have HIX := Hid2.mk (fun y (hy : y < (L.getD x []).length) w1 => ix_str (HB.out x) y hy w1)
      have HBY := Hid2.mk (fun y => byts_getD (HB.out x) y)
      have HROW := Hid2.mk (tbP_row L n x)
      have HSET := Hid2.mk (fun y (hy : y < n) hb => @tbP_set L n x y hx hy h10n hb)
      have H2x := Hid2.mk (fun h => @H2.out n x HN.out hx h)
      have H3x := Hid2.mk (fun y hy h => @H3.out n x y HN.out hx hy h)
      generalize hrow : L.getD x [] = row at hfx hsz HIX HBY HSET H2x H3x
      have HRW := Hid2.mk hrow
      clear hrow
      generalize str row = sx at hfx hsz HIX
      by_cases hlen : row.length = n
      · have hlen1 : ((row.length : Int) != (n : Int)) = false := by rw [hlen]; simp
        have hlen2 : (row.length : Int) = (n : Int) := by rw [hlen]
        go_wp2
        obtain ⟨wo, rfl⟩ : ∃ wo : World, wo = wr := ⟨_, rfl⟩
        go_loopw [8] (fun j wr => ∃ y : Nat, y ≤ n ∧ j = .int .i64 (y : Int) ∧ (∀ j, j < y → 48 ≤ row.getD j 0) ∧ Mm no w wr [.box b6 (sqs (n : Int) (tbP L n x y)) 37, .rd g n (txF L), .box b2 (sqs 0 fun _ _ => 0) 37]) (fun j _ => n - (intOf j).toNat)
        case atStart => exact ⟨0, by omega, rfl, fun j h => by omega, M⟩
        case round =>
          obtain ⟨y, hyn, rfl, hdig, M9⟩ := hrel
          clear M; (try clear C)
          have M := M9
          clear M9
          have HDIG := Hid2.mk hdig
          clear hdig
          have C := M.ruleAll; simp only [Go.Proofs.Ythdldlpflieeoaa.ruleAll] at C
          by_cases hy : y < n
          · have hy' : (y : Int) < (n : Int) := by omega
            have hy10 : (y : Int) < 10 := by omega
            have hyl : (y : Int) < (row.length : Int) := by omega
            have hix := HIX.out y (by omega)
            have hb256 := HBY.out y
            have HSETy := Hid2.mk (fun hb => HSET.out y hy hb)
            have H3y := Hid2.mk (fun h => H3x.out y hy h)
            have HD2 := Hid2.mk (fun j (hj : j < y + 1) (hbb : 48 ≤ row.getD y 0) => (show 48 ≤ row.getD j 0 from by
              rcases Nat.lt_or_eq_of_le (Nat.lt_succ_iff.1 hj) with h | h
              · exact HDIG.out j h
              · rw [h]; exact hbb))
            generalize row.getD y 0 = b at hix hb256 HSETy H3y HD2
            have hbi : (b : Int) < 256 := by omega
            by_cases hb1 : b < 48
            · have hb1' : (b : Int) < 48 := by omega
              have HNO := Hid2.mk (H3y.out (.inl hb1))
              go_wp2_with (first | (refine wpList_build 37 _ rfl rfl [] rfl _ (build_sq0P _) ?_) | ((with_reducible apply wpM_sta' M 2 37 (sqs 0 fun _ _ => 0)); rfl; rfl; rfl; rfl; (first | exact .inl (by assumption) | exact .inr rfl | exact .inr (by assumption)); exact ⟨rfl, inf_sqs.trans (congrArg some (sqs_size ..).symm), flat_sqs _ _⟩; (simp only [entCells, List.getElem?_cons_zero, List.getElem?_cons_succ, sqs_size, sqs_size]); clear M; (try clear C); intro w9 M; simp only [List.set_cons_zero, List.set_cons_succ, entBlk, entT, List.getElem?_cons_zero, List.getElem?_cons_succ] at M; have C := M.ruleAll; simp only [Go.Proofs.Ythdldlpflieeoaa.ruleAll] at C))
              refine bodyPost_ret (v := .tuple #[.agg (sqs 0 fun _ _ => 0), .bool false]) (by exact results_part2 rfl _ _ _ _ (sqs 0 fun _ _ => 0) _ rfl und_sqs rfl inf_sqs (cells_of_blk0 (M.box 2 rfl)) _ rfl) rfl ?_
              exact RdPost.no HNO.out M.below
            · have hb1' : ¬ (b : Int) < 48 := by omega
              by_cases hb2 : 57 < b
              · have hb2' : (57 : Int) < (b : Int) := by omega
                have HNO := Hid2.mk (H3y.out (.inr hb2))
                go_wp2_with (first | (refine wpList_build 37 _ rfl rfl [] rfl _ (build_sq0P _) ?_) | ((with_reducible apply wpM_sta' M 2 37 (sqs 0 fun _ _ => 0)); rfl; rfl; rfl; rfl; (first | exact .inl (by assumption) | exact .inr rfl | exact .inr (by assumption)); exact ⟨rfl, inf_sqs.trans (congrArg some (sqs_size ..).symm), flat_sqs _ _⟩; (simp only [entCells, List.getElem?_cons_zero, List.getElem?_cons_succ, sqs_size, sqs_size]); clear M; (try clear C); intro w9 M; simp only [List.set_cons_zero, List.set_cons_succ, entBlk, entT, List.getElem?_cons_zero, List.getElem?_cons_succ] at M; have C := M.ruleAll; simp only [Go.Proofs.Ythdldlpflieeoaa.ruleAll] at C))
                refine bodyPost_ret (v := .tuple #[.agg (sqs 0 fun _ _ => 0), .bool false]) (by exact results_part2 rfl _ _ _ _ (sqs 0 fun _ _ => 0) _ rfl und_sqs rfl inf_sqs (cells_of_blk0 (M.box 2 rfl)) _ rfl) rfl ?_
                exact RdPost.no HNO.out M.below
              · have hb2' : ¬ (57 : Int) < (b : Int) := by omega
                have HST := Hid2.mk (HSETy.out (by omega))
                go_wp2
                apply wp_region_mm M 12 (by kernel_rfl) (by kernel_rfl); (simp only [List.take_succ_cons, List.take_zero]; repeat (first | exact wpText_nil | (apply wpText_cons; (intro w2 M; have C := M.ruleAll; simp only [Go.Proofs.Ythdldlpflieeoaa.ruleAll] at C; go_wp2; exact ⟨rfl, rfl, M⟩); rfl))); (clear M; (try clear C); intro w2 M; simp only [List.drop_succ_cons, List.drop_zero]; have C := M.ruleAll; simp only [Go.Proofs.Ythdldlpflieeoaa.ruleAll] at C)
                go_wp2_with (first | ((with_reducible apply wpM_st' M 0 5 (1 + x * 10 + y) (sqs (n : Int) (tbP L n x (y + 1)))); rfl; rfl; rfl; (first | exact .inl (by assumption) | exact .inr rfl | exact .inr (by assumption)); exact ⟨rfl, rfl, by kernel_rfl⟩; (exact Nat.lt_of_lt_of_eq (by omega) (sqs_size _ _).symm); exact HST.out; clear M; (try clear C); intro w9 M; simp only [List.set_cons_zero, List.set_cons_succ, entBlk, entT, List.getElem?_cons_zero, List.getElem?_cons_succ] at M; have C := M.ruleAll; simp only [Go.Proofs.Ythdldlpflieeoaa.ruleAll] at C))
                go_roundw
                case rel => exact ⟨y + 1, by omega, by go_num, fun j hj => HD2.out j hj (by omega), M⟩
                case measure => simp [intOf]; omega
          · obtain rfl : y = n := by omega
            have hge : ¬ ((y : Int) < (y : Int)) := by omega
            go_wp2
            go_roundw
            case rel => exact ⟨x + 1, by omega, by go_num, fun i hi => by
              rcases Nat.lt_or_eq_of_le (Nat.lt_succ_iff.1 hi) with h | h
              · exact HALL.out i h
              · rw [h, HRW.out]; exact ⟨hlen, HDIG.out⟩, by rw [← HROW.out]; exact M⟩
            case measure => simp [intOf]; omega
      · have hlen1 : ((row.length : Int) != (n : Int)) = true := by simp; omega
        have hlen2 : ¬ (row.length : Int) = (n : Int) := by omega
        have HNO := Hid2.mk (H2x.out hlen)
        go_wp2_with (first | (refine wpList_build 37 _ rfl rfl [] rfl _ (build_sq0P _) ?_) | ((with_reducible apply wpM_sta' M 2 37 (sqs 0 fun _ _ => 0)); rfl; rfl; rfl; rfl; (first | exact .inl (by assumption) | exact .inr rfl | exact .inr (by assumption)); exact ⟨rfl, inf_sqs.trans (congrArg some (sqs_size ..).symm), flat_sqs _ _⟩; (simp only [entCells, List.getElem?_cons_zero, List.getElem?_cons_succ, sqs_size, sqs_size]); clear M; (try clear C); intro w9 M; simp only [List.set_cons_zero, List.set_cons_succ, entBlk, entT, List.getElem?_cons_zero, List.getElem?_cons_succ] at M; have C := M.ruleAll; simp only [Go.Proofs.Ythdldlpflieeoaa.ruleAll] at C))
        refine bodyPost_ret (v := .tuple #[.agg (sqs 0 fun _ _ => 0), .bool false]) (by exact results_part2 rfl _ _ _ _ (sqs 0 fun _ _ => 0) _ rfl und_sqs rfl inf_sqs (cells_of_blk0 (M.box 2 rfl)) _ rfl) rfl ?_
        exact RdPost.no HNO.out M.below
    · obtain rfl : x = n := by omega
      have hge : ¬ ((x : Int) < (x : Int)) := by omega
      have hF := H4.out x h10n HN.out (fun i hi => (HALL.out i hi).1) fun i j hi hj => (HALL.out i hi).2 j hj
      have hI := fun w1 => l01Is_any (x : Int) (tbR L x) w1 (tbR_byt HB.out x)
      have M9 : Mm no w _ [.box b6 (sqs (x : Int) (tbR L x)) 37, .rd g x (txF L), .box b2 (sqs 0 fun _ _ => 0) 37] := M.eq (by rw [tbP_all])
      rw [← hF.1] at hI
      have HF := Hid2.mk hF.2
      clear M; (try clear C)
      have M := M9
      clear M9 hF
      generalize tbR L x = T at M hI HF
      generalize hrb : rdB l = r at hI HF
      have HRB := Hid2.mk hrb
      clear hrb
      have C := M.ruleAll; simp only [Go.Proofs.Ythdldlpflieeoaa.ruleAll] at C
      go_wp2
      apply wp_region_mm M 3 (by kernel_rfl) (by kernel_rfl); (simp only [List.take_succ_cons, List.take_zero]; repeat (first | exact wpText_nil | (apply wpText_cons; (intro w2 M; have C := M.ruleAll; simp only [Go.Proofs.Ythdldlpflieeoaa.ruleAll] at C; go_wp2_with (first | ((with_reducible apply wpM_lda' M 0 37 0 (sqs (x : Int) T)); rfl; rfl; rfl; exact ⟨rfl, inf_sqs.trans (congrArg some (sqs_size ..).symm), _, und_sqs, rfl⟩; exact whole_of rfl) | (go_at_call 147; ((with_reducible refine (hI _).mono ?_); rintro e w1 ⟨rfl, hb⟩; have hsz := M.size; (try (have G9 := G.later hb; clear G; have G := G9; clear G9)); have M9 := M.later hb; clear M; (try clear C); have M := M9; clear M9; have C := M.ruleAll; simp only [Go.Proofs.Ythdldlpflieeoaa.ruleAll] at C))); exact ⟨rfl, rfl, M⟩); rfl))); (clear M; (try clear C); intro w2 M; simp only [List.drop_succ_cons, List.drop_zero]; have C := M.ruleAll; simp only [Go.Proofs.Ythdldlpflieeoaa.ruleAll] at C)
      go_wp2_with (first | ((with_reducible apply wpM_sta' M 2 37 (sqs (x : Int) T)); rfl; rfl; rfl; rfl; (first | exact .inl (by assumption) | exact .inr rfl | exact .inr (by assumption)); exact ⟨rfl, inf_sqs.trans (congrArg some (sqs_size ..).symm), flat_sqs _ _⟩; (simp only [entCells, List.getElem?_cons_zero, List.getElem?_cons_succ, sqs_size, sqs_size]); clear M; (try clear C); intro w9 M; simp only [List.set_cons_zero, List.set_cons_succ, entBlk, entT, List.getElem?_cons_zero, List.getElem?_cons_succ] at M; have C := M.ruleAll; simp only [Go.Proofs.Ythdldlpflieeoaa.ruleAll] at C))
      refine bodyPost_ret (v := .tuple #[.agg (sqs (x : Int) T), .bool r]) (by exact results_part2 rfl _ _ _ _ (sqs (x : Int) T) _ rfl und_sqs rfl inf_sqs (cells_of_blk0 (M.box 2 rfl)) _ rfl) rfl ?_
      exact ⟨x, T, by rw [HRB.out], by rw [HRB.out]; exact HF.out, M.below⟩
end Go.Proofs.Ythdldlpflieeoaa

/- Squares that are drawn: contracts. -/
namespace Go.Proofs.Ythdldlpflieeoaa
set_option linter.unusedSimpArgs false
set_option linter.unusedVariables false
open Go Go.RowKit

theorem fm_self {α : Type} : ∀ L : List α, (List.range L.length).filterMap (L[·]?) = L
  | [] => rfl
  | a :: L => by
    rw [List.length_cons, List.range_succ_eq_map, List.filterMap_cons, List.filterMap_map]
    simp only [List.getElem?_cons_zero]
    congr 1
    exact fm_self L
theorem Mm.pulls {D : Nat → Prop} {w0 w : World} {L xs : List Ent} (M : Mm D w0 w L) (is : List Nat) (hn : is.Nodup) (hl : ∀ i ∈ is, (L[i]?).isSome = true) (h : is.filterMap (L[·]?) = xs) : ∃ X, Mm D w0 w (xs ++ X) ∧ ∀ w', Mm D w0 w' (xs ++ X) → Mm D w0 w' L := by
  have e := fm_self L
  obtain ⟨Y, hY⟩ := pull_list (K := is) (l := List.range L.length) hn fun k hk => by
    have := hl k hk
    rw [List.mem_range]
    rcases Nat.lt_or_ge k L.length with h | h
    · exact h
    · rw [List.getElem?_eq_none h] at this; cases this
  have hp : L.Perm (xs ++ Y.filterMap (L[·]?)) := by
    have h1 := hY.filterMap (L[·]?)
    rw [e, List.filterMap_append, h] at h1
    exact h1
  exact ⟨_, M.perm hp, fun w' M' => M'.perm hp.symm⟩
theorem pick_at {l : List Nat} (hb : Byts l) (hl : l.length ≤ 4096) {b c : Nat} {p : Option Addr} {xs : List Int} {n g cap : Nat} {w0 w : World} {L : List Ent} (M : Mm no w0 w L) (i j k : Nat) (hbb : w0.heap.size ≤ b) (hn : ([i, j, k] : List Nat).Nodup)
    (h : ([i, j, k] : List Nat).filterMap (L[·]?) = [Ent.sv b p l.length c, Ent.cd l.length p (cdF l), .box g (i64V xs) 2]) (hs : (([i, j, k] : List Nat).all fun m => (L[m]?).isSome) = true) (hx : xs.length = n) (h0 : 0 < n) (h1 : n ≤ 100) :
    Calls Try.prog 145 #[.pointer (some ⟨b, 0, none⟩), .slice (some ⟨g, 0, none⟩) n cap] w fun e w' => ∃ z, e = .returned (.int .i64 z) ∧ z ∈ xs ∧ Mm no w0 w' L := by
  subst hx
  obtain ⟨X, M1, hX⟩ := M.pulls [i, j, k] hn (List.all_eq_true.1 hs) h
  refine (pick_any l hb hl b c p xs h0 h1 g cap w0 w X hbb M1).mono ?_
  rintro e w' ⟨z, hz, rfl, M'⟩
  exact ⟨z, rfl, hz, hX w' M'⟩
theorem SqV.pos {N : Nat} {v : Value} (h : SqV N v) : 1 ≤ N ∧ N ≤ 10 := by
  obtain ⟨t, _, h⟩ := h
  have := h.lo
  have := h.hi
  omega
theorem SqV.cyc {N : Nat} (h0 : 1 ≤ N) (h1 : N ≤ 10) : SqV N (.agg (sqs (N : Int) (cutT (fun x y => (x + y) % N) N))) := ⟨cyT N, rfl, cyT_sq h0 h1⟩
theorem SqV.elm {k N : Nat} (hk : k < 4) (h : N = 2 ^ k) : SqV N (.agg (sqs (N : Int) (cutT (fun x y => x ^^^ y) N))) := ⟨elT N, rfl, by rw [h]; exact elT_sq hk⟩
theorem SqV.mov {N : Nat} {t : Nat → Nat → Nat} {f g h : Nat → Nat} (hs : IsSq (N : Int) t) (hf : Pm N f) (hg : Pm N g) (hh : Pm N h) : SqV N (.agg (sqs (N : Int) (isoW N t f g h (N * N)))) := ⟨_, rfl, sq_moved hs hf hg hh⟩
theorem clTo_pm {N : Nat} {t : Nat → Nat → Nat} (h : Lat N t) {b : Nat} (hb : b < N) : Pm N (clTo t b N) := by
  have hc := h.col hb
  have e : ∀ i, i < N → clTo t b N i = t i b := fun i hi => by unfold clTo; rw [if_pos hi]
  refine ⟨fun i hi => ?_, fun i j hi hj he => ?_⟩
  · rw [e i hi]; exact hc.lt i hi
  · rw [e i hi, e j hj] at he; exact hc.inj i j hi hj he
set_option maxRecDepth 100000 in
set_option maxHeartbeats 2000000 in
theorem l01Ordered_any (N : Nat) (t : Nat → Nat → Nat) (hs : IsSq (N : Int) t) (w : World) : Calls Try.prog 285 #[.agg (sqs (N : Int) t)] w fun e w' => ∃ v, e = .returned v ∧ SqV N v ∧ Below w.heap.size w w' := by
  have M := Mm.start no w
  have h0 : 1 ≤ N := by have := hs.lo; omega
  have h1 : N ≤ 10 := by have := hs.hi; omega
  have hid := pm_idTo N
  have hr := (Lat.of_sq hs).row (a := 0) (by omega)
  have hs1 := sq_moved hs hid hr hid
  have HSM := Hid2.mk (fun w1 => l01Same_any (N : Int) w1 (by omega) (by omega))
  have hrw : ∀ w1, Calls Try.prog 258 #[.agg (sqs (N : Int) t), .int .u8 0] w1 fun e w' => e = .returned (.agg (bys (t 0))) ∧ Below w1.heap.size w1 w' := fun w1 => l01Row_any (N : Int) t 0 w1 (by omega)
  have HRW := Hid2.mk hrw
  have HM1 := Hid2.mk (fun w1 => l01Moved_any N t (idTo N) (t 0) (idTo N) h0 h1 (fun i hi => by have := hid.lt i hi; omega) (fun i hi => by have := hr.lt i hi; omega) (fun x y hx hy => by have := (Lat.of_sq hs).lt x y hx hy; omega) w1)
  have so0 := sqs_order (N : Int) t
  generalize isoW N t (idTo N) (t 0) (idTo N) (N * N) = t1 at hs1 HM1
  have hc := clTo_pm (Lat.of_sq hs1) (b := 0) (by omega)
  have hcl : ∀ w1, Calls Try.prog 257 #[.agg (sqs (N : Int) t1), .int .u8 0] w1 fun e w' => e = .returned (.agg (bys (clTo t1 0 N))) ∧ Below w1.heap.size w1 w' := fun w1 => l01Column_any (N : Int) t1 0 w1 (by omega) (by omega) (by omega)
  have HCL := Hid2.mk hcl
  have HM2 := Hid2.mk (fun w1 => l01Moved_any N t1 (clTo t1 0 N) (idTo N) (idTo N) h0 h1 (fun i hi => by have := hc.lt i hi; omega) (fun i hi => by have := hid.lt i hi; omega) (fun x y hx hy => by have := (Lat.of_sq hs1).lt x y hx hy; omega) w1)
  have HFIN := Hid2.mk (SqV.mov hs1 hc hid hid)
  generalize isoW N t1 (clTo t1 0 N) (idTo N) (idTo N) (N * N) = t2 at HM2 HFIN
  clear hs hs1 hid hr hc hrw hcl
  have so1 := sqs_order (N : Int) t1
  go_enter Try.func285, Try.ntmps285
  go_wp2_with (first | ((with_reducible apply wpM_box' M 37 (sqs (N : Int) t)); rfl; exact ⟨rfl, rfl⟩; clear M; (try clear C); intro b1 w9 h_b1 M; have C := M.ruleAll; simp only [Go.Proofs.Ythdldlpflieeoaa.ruleAll] at C) | ((with_reducible apply wpM_alloc' M 37 (sqs 0 fun _ _ => 0)); rfl; exact ⟨rfl, _, zero_sqs _, rfl⟩; clear M; (try clear C); intro b2 w9 h_b2 M; have C := M.ruleAll; simp only [Go.Proofs.Ythdldlpflieeoaa.ruleAll] at C))
  apply wp_region_mm M 7 (by kernel_rfl) (by kernel_rfl); (simp only [List.take_succ_cons, List.take_zero]; repeat (first | exact wpText_nil | (apply wpText_cons; (intro w2 M; have C := M.ruleAll; simp only [Go.Proofs.Ythdldlpflieeoaa.ruleAll] at C; go_wp2_with (first | ((with_reducible apply wpM_lda' M 1 37 0 (sqs (N : Int) t)); rfl; rfl; rfl; exact ⟨rfl, inf_sqs.trans (congrArg some (sqs_size ..).symm), _, und_sqs, rfl⟩; exact whole_of rfl) | (go_at_call 204; ((with_reducible refine (HSM.out _).mono ?_); rintro e w1 ⟨rfl, hb⟩; have hsz := M.size; (try (have G9 := G.later hb; clear G; have G := G9; clear G9)); have M9 := M.later hb; clear M; (try clear C); have M := M9; clear M9; have C := M.ruleAll; simp only [Go.Proofs.Ythdldlpflieeoaa.ruleAll] at C)) | (go_at_call 258; ((with_reducible refine (HRW.out _).mono ?_); rintro e w1 ⟨rfl, hb⟩; have hsz := M.size; (try (have G9 := G.later hb; clear G; have G := G9; clear G9)); have M9 := M.later hb; clear M; (try clear C); have M := M9; clear M9; have C := M.ruleAll; simp only [Go.Proofs.Ythdldlpflieeoaa.ruleAll] at C))); exact ⟨rfl, rfl, M⟩); rfl))); (clear M; (try clear C); intro w2 M; simp only [List.drop_succ_cons, List.drop_zero]; have C := M.ruleAll; simp only [Go.Proofs.Ythdldlpflieeoaa.ruleAll] at C)
  go_wp2_with (first | (go_at_call 203; ((with_reducible refine (HM1.out _).mono ?_); rintro e w1 ⟨rfl, hb⟩; have hsz := M.size; (try (have G9 := G.later hb; clear G; have G := G9; clear G9)); have M9 := M.later hb; clear M; (try clear C); have M := M9; clear M9; have C := M.ruleAll; simp only [Go.Proofs.Ythdldlpflieeoaa.ruleAll] at C)) | ((with_reducible apply wpM_sta' M 1 37 (sqs (N : Int) t1)); rfl; rfl; rfl; rfl; (first | exact .inl (by assumption) | exact .inr rfl | exact .inr (by assumption)); exact ⟨rfl, inf_sqs.trans (congrArg some (sqs_size ..).symm), flat_sqs _ _⟩; (simp only [entCells, List.getElem?_cons_zero, List.getElem?_cons_succ, sqs_size, sqs_size]); clear M; (try clear C); intro w9 M; simp only [List.set_cons_zero, List.set_cons_succ, entBlk, entT, List.getElem?_cons_zero, List.getElem?_cons_succ] at M; have C := M.ruleAll; simp only [Go.Proofs.Ythdldlpflieeoaa.ruleAll] at C))
  apply wp_region_mm M 7 (by kernel_rfl) (by kernel_rfl); (simp only [List.take_succ_cons, List.take_zero]; repeat (first | exact wpText_nil | (apply wpText_cons; (intro w2 M; have C := M.ruleAll; simp only [Go.Proofs.Ythdldlpflieeoaa.ruleAll] at C; go_wp2_with (first | ((with_reducible apply wpM_lda' M 1 37 0 (sqs (N : Int) t1)); rfl; rfl; rfl; exact ⟨rfl, inf_sqs.trans (congrArg some (sqs_size ..).symm), _, und_sqs, rfl⟩; exact whole_of rfl) | (go_at_call 204; ((with_reducible refine (HSM.out _).mono ?_); rintro e w1 ⟨rfl, hb⟩; have hsz := M.size; (try (have G9 := G.later hb; clear G; have G := G9; clear G9)); have M9 := M.later hb; clear M; (try clear C); have M := M9; clear M9; have C := M.ruleAll; simp only [Go.Proofs.Ythdldlpflieeoaa.ruleAll] at C)) | (go_at_call 257; ((with_reducible refine (HCL.out _).mono ?_); rintro e w1 ⟨rfl, hb⟩; have hsz := M.size; (try (have G9 := G.later hb; clear G; have G := G9; clear G9)); have M9 := M.later hb; clear M; (try clear C); have M := M9; clear M9; have C := M.ruleAll; simp only [Go.Proofs.Ythdldlpflieeoaa.ruleAll] at C))); exact ⟨rfl, rfl, M⟩); rfl))); (clear M; (try clear C); intro w2 M; simp only [List.drop_succ_cons, List.drop_zero]; have C := M.ruleAll; simp only [Go.Proofs.Ythdldlpflieeoaa.ruleAll] at C)
  go_wp2_with (first | (go_at_call 203; ((with_reducible refine (HM2.out _).mono ?_); rintro e w1 ⟨rfl, hb⟩; have hsz := M.size; (try (have G9 := G.later hb; clear G; have G := G9; clear G9)); have M9 := M.later hb; clear M; (try clear C); have M := M9; clear M9; have C := M.ruleAll; simp only [Go.Proofs.Ythdldlpflieeoaa.ruleAll] at C)) | ((with_reducible apply wpM_sta' M 0 37 (sqs (N : Int) t2)); rfl; rfl; rfl; rfl; (first | exact .inl (by assumption) | exact .inr rfl | exact .inr (by assumption)); exact ⟨rfl, inf_sqs.trans (congrArg some (sqs_size ..).symm), flat_sqs _ _⟩; (simp only [entCells, List.getElem?_cons_zero, List.getElem?_cons_succ, sqs_size, sqs_size]); clear M; (try clear C); intro w9 M; simp only [List.set_cons_zero, List.set_cons_succ, entBlk, entT, List.getElem?_cons_zero, List.getElem?_cons_succ] at M; have C := M.ruleAll; simp only [Go.Proofs.Ythdldlpflieeoaa.ruleAll] at C))
  refine bodyPost_ret (v := .agg (sqs (N : Int) t2)) (by exact results_part rfl _ _ _ _ _ _ rfl und_sqs rfl inf_sqs (cells_of_blk0 (M.box 0 rfl))) rfl ?_
  exact ⟨_, rfl, HFIN.out, M.below⟩
end Go.Proofs.Ythdldlpflieeoaa

/- Known loops, drawn loops and squares: contracts. -/
namespace Go.Proofs.Ythdldlpflieeoaa
set_option linter.unusedSimpArgs false
set_option linter.unusedVariables false
open Go Go.RowKit

/-- Some square. -/
def KnQ (v : Value) : Prop := ∃ N, SqV N v
def txs : List (List Nat) := [[48, 49, 50, 51, 52, 47, 49, 48, 51, 52, 50, 47, 50, 52, 48, 49, 51, 47, 51, 50, 52, 48, 49, 47, 52, 51, 49, 50, 48],
  [48, 49, 50, 51, 52, 53, 47, 49, 50, 48, 52, 53, 51, 47, 50, 48, 49, 53, 51, 52, 47, 51, 53, 52, 48, 50, 49, 47, 52, 51, 53, 49, 48, 50, 47, 53, 52, 51, 50, 49, 48],
  [48, 49, 50, 51, 52, 53, 54, 55, 47, 49, 50, 51, 48, 53, 54, 55, 52, 47, 50, 51, 48, 49, 54, 55, 52, 53, 47, 51, 48, 49, 50, 55, 52, 53, 54, 47, 52, 55, 54, 53, 48, 51, 50, 49, 47, 53, 52, 55, 54, 49, 48, 51, 50, 47, 54, 53, 52, 55, 50, 49, 48, 51, 47, 55, 54, 53, 52, 51, 50, 49, 48],
  [48, 49, 50, 51, 52, 53, 47, 49, 48, 51, 50, 53, 52, 47, 50, 52, 53, 48, 49, 51, 47, 51, 53, 52, 49, 48, 50, 47, 52, 50, 48, 53, 51, 49, 47, 53, 51, 49, 52, 50, 48]]
def txC : Array Value := (txs.map fun l => Value.string (str l)).toArray
theorem txs_byt : ∀ l ∈ txs, Byts l ∧ l.length ≤ 100 := by unfold Byts; decide
theorem txC_get {x : Nat} (h : x < 4) : ∃ l, l ∈ txs ∧ txC[x]? = some (.string (str l)) := by
  have : x = 0 ∨ x = 1 ∨ x = 2 ∨ x = 3 := by omega
  rcases this with rfl | rfl | rfl | rfl <;> exact ⟨_, by simp [txs], rfl⟩
def txV : List (Nat × Value) := [(0, .string { data := #[48, 49, 50, 51, 52, 47, 49, 48, 51, 52, 50, 47, 50, 52, 48, 49, 51, 47, 51, 50, 52, 48, 49, 47, 52, 51, 49, 50, 48] }), (1, .string { data := #[48, 49, 50, 51, 52, 53, 47, 49, 50, 48, 52, 53, 51, 47, 50, 48, 49, 53, 51, 52, 47, 51, 53, 52, 48, 50, 49, 47, 52, 51, 53, 49, 48, 50, 47, 53, 52, 51, 50, 49, 48] }), (2, .string { data := #[48, 49, 50, 51, 52, 53, 54, 55, 47, 49, 50, 51, 48, 53, 54, 55, 52, 47, 50, 51, 48, 49, 54, 55, 52, 53, 47, 51, 48, 49, 50, 55, 52, 53, 54, 47, 52, 55, 54, 53, 48, 51, 50, 49, 47, 53, 52, 55, 54, 49, 48, 51, 50, 47, 54, 53, 52, 55, 50, 49, 48, 51, 47, 55, 54, 53, 52, 51, 50, 49, 48] }), (3, .string { data := #[48, 49, 50, 51, 52, 53, 47, 49, 48, 51, 50, 53, 52, 47, 50, 52, 53, 48, 49, 51, 47, 51, 53, 52, 49, 48, 50, 47, 52, 50, 48, 53, 51, 49, 47, 53, 51, 49, 52, 50, 48] })]
theorem bsl_tx (w : World) : (Instr.buildSlice 226 4 txV.toArray).run Try.prog w = .ok (.slice (some ⟨w.heap.size, 0, none⟩) 4 4) (w.alloc (.cells txC 9)) := by kernel_rfl
theorem bsl_i2 (a b : Int) (w : World) : (Instr.buildSlice 85 2 #[(0, .int .i64 a), (1, .int .i64 b)]).run Try.prog w = .ok (.slice (some ⟨w.heap.size, 0, none⟩) 2 2) (w.alloc (.cells (i64V [a, b]) 2)) := by kernel_rfl
theorem bsl_i3X (a b c : Int) (w : World) : (Instr.buildSlice 85 3 #[(0, .int .i64 a), (1, .int .i64 b), (2, .int .i64 c)]).run Try.prog w = .ok (.slice (some ⟨w.heap.size, 0, none⟩) 3 3) (w.alloc (.cells (i64V [a, b, c]) 2)) := by kernel_rfl
theorem bsl_i4 (a b c d : Int) (w : World) : (Instr.buildSlice 85 4 #[(0, .int .i64 a), (1, .int .i64 b), (2, .int .i64 c), (3, .int .i64 d)]).run Try.prog w = .ok (.slice (some ⟨w.heap.size, 0, none⟩) 4 4) (w.alloc (.cells (i64V [a, b, c, d]) 2)) := by kernel_rfl
theorem bsl_i5 (a b c d e : Int) (w : World) : (Instr.buildSlice 85 5 #[(0, .int .i64 a), (1, .int .i64 b), (2, .int .i64 c), (3, .int .i64 d), (4, .int .i64 e)]).run Try.prog w = .ok (.slice (some ⟨w.heap.size, 0, none⟩) 5 5) (w.alloc (.cells (i64V [a, b, c, d, e]) 2)) := by kernel_rfl

theorem cyc1_any (K : Nat) (h : K ≤ 9) (w : World) : Calls Try.prog 144 #[.int .i64 (1 + (K : Int))] w fun e w' => ∃ v, e = .returned v ∧ (∃ N, N ≤ 1 + K ∧ SqV N v) ∧ Below w.heap.size w w' := by
  have h1 := l01Cyclic_any (1 + K) (by omega) (by omega) w
  rw [show ((1 + K : Nat) : Int) = 1 + (K : Int) by omega] at h1
  exact h1.mono fun e w' ⟨h2, hb⟩ => ⟨_, h2, by rw [show 1 + (K : Int) = ((1 + K : Nat) : Int) by omega]; exact ⟨1 + K, Nat.le_refl _, SqV.cyc (by omega) (by omega)⟩, hb⟩
theorem elm_any (k : Nat) (h : k < 4) (w : World) : Calls Try.prog 155 #[.int .i64 (k : Int)] w fun e w' => ∃ v, e = .returned v ∧ KnQ v ∧ Below w.heap.size w w' :=
  (l01Elementary_any k (2 ^ k) h rfl w).mono fun e w' ⟨h2, hb⟩ => ⟨_, h2, ⟨2 ^ k, SqV.elm h rfl⟩, hb⟩
theorem dir_any {n m : Nat} {t u : Nat → Nat → Nat} (ht : IsSq (n : Int) t) (hu : IsSq (m : Int) u) (h : n * m ≤ 10) (w : World) : Calls Try.prog 148 #[.agg (sqs (n : Int) t), .agg (sqs (m : Int) u)] w fun e w' => ∃ v, e = .returned v ∧ KnQ v ∧ Below w.heap.size w w' :=
  (l01Direct_any n m t u (by have := ht.lo; omega) (by have := hu.lo; omega) h (Lat.of_sq ht).lt (Lat.of_sq hu).lt w).mono fun e w' ⟨h2, hb⟩ => ⟨_, h2, ⟨n * m, diT n m t u, by rw [cutT_diT], diT_sq ht hu h⟩, hb⟩
theorem ord_any {m : Int} {u : Nat → Nat → Nat} {l : List Nat} (hr : rdB l = true) (h : rdB l = true → sqs m u = sqs (rdQ l).n (rdQ l).t) (w : World) : Calls Try.prog 285 #[.agg (sqs m u)] w fun e w' => ∃ v, e = .returned v ∧ KnQ v ∧ Below w.heap.size w w' := by
  have hs := (rdQ_of hr).sq
  rw [h hr]
  obtain ⟨N, hN⟩ : ∃ N : Nat, (rdQ l).n = N := ⟨(rdQ l).n.toNat, by have := hs.lo; omega⟩
  rw [hN] at hs ⊢
  exact (l01Ordered_any N _ hs w).mono fun e w' ⟨v, he, hv, hb⟩ => ⟨v, he, ⟨N, hv⟩, hb⟩
set_option maxRecDepth 100000 in
set_option maxHeartbeats 4000000 in
theorem known_dc (l : List Nat) (hb : Byts l) (hl : l.length ≤ 4096) (b c : Nat) (p : Option Addr) : DrawC 283 #[.pointer (some ⟨b, 0, none⟩)] l b p c KnQ := fun w0 w X hbb M => by
  have HX := Hid2.mk (fun n => next_dc l hb hl b c p n)
  have HP := Hid2.mk (@pick_at l hb hl b c p)
  clear hb hl
  have C := M.ruleAll; simp only [Go.Proofs.Ythdldlpflieeoaa.ruleAll] at C
  go_enter Try.func283, Try.ntmps283
  have HCY := Hid2.mk (fun K hK w1 => cyc1_any K hK w1)
  have HEL := Hid2.mk (fun k hk w1 => elm_any k hk w1)
  have HDI := Hid2.mk (@dir_any)
  have HOR := Hid2.mk (@ord_any)
  have HTX := Hid2.mk (@txC_get)
  have HRD := Hid2.mk (fun (q : List Nat) (hq : q ∈ txs) w1 => l01Read_any q (txs_byt q hq).1 (by have := (txs_byt q hq).2; omega) w1)
  have htz : txC.size = 4 := rfl
  go_wp2_with (first | ((with_reducible apply wpM_alloc' M 37 (sqs 0 fun _ _ => 0)); rfl; exact ⟨rfl, _, zero_sqs _, rfl⟩; clear M; (try clear C); intro b2 w9 h_b2 M; have C := M.ruleAll; simp only [Go.Proofs.Ythdldlpflieeoaa.ruleAll] at C) | ((with_reducible apply wpM_bsl' M 226 4 9 (txV) (txC)); rfl; rfl; rfl; exact bsl_tx; clear M; (try clear C); intro bt w9 h_bt M; have C := M.ruleAll; simp only [Go.Proofs.Ythdldlpflieeoaa.ruleAll] at C) | (go_at_call 132; fail))
  (with_reducible refine ((HX.out 4).at M 2 3 hbb rfl rfl rfl).mono ?_); rintro e w2 ⟨_, rfl, ⟨x, rfl, hx⟩, M9⟩; clear M; (try clear C); have M := M9; clear M9; have C := M.ruleAll; simp only [Go.Proofs.Ythdldlpflieeoaa.ruleAll] at C
  have hx4 : x < 4 := by omega
  clear hx
  -- the way to the last case
  by_cases hx0 : x = 0
  · subst hx0
    go_wp2_with (first | (go_at_call 132; fail))
    (with_reducible refine ((HX.out 4).at M 2 3 hbb rfl rfl rfl).mono ?_); rintro e w3 ⟨_, rfl, ⟨y, rfl, hy⟩, M9⟩; clear M; (try clear C); have M := M9; clear M9; have C := M.ruleAll; simp only [Go.Proofs.Ythdldlpflieeoaa.ruleAll] at C
    have hy4 : (y : Int) < 4 := by omega
    obtain ⟨q, hq, hqc⟩ := HTX.out (show y < 4 by omega)
    generalize hs : str q = s at hqc
    have HRQ := Hid2.mk (fun w1 => HRD.out q hq w1)
    rw [hs] at HRQ
    go_wp2_with (first | (go_at_call 247; fail))
    refine (HRQ.out _).mono ?_
    rintro e w4 ⟨m, u, rfl, hmu, hb⟩
    have HMU := Hid2.mk hmu
    clear hmu
    have M9 := M.later hb
    clear M; (try clear C)
    have M := M9
    clear M9
    have C := M.ruleAll; simp only [Go.Proofs.Ythdldlpflieeoaa.ruleAll] at C
    by_cases hr : rdB q = true
    · go_wp2_with (first | ((with_reducible apply wpM_alloc' M 37 (sqs 0 fun _ _ => 0)); rfl; exact ⟨rfl, _, zero_sqs _, rfl⟩; clear M; (try clear C); intro b4 w9 h_b4 M; have C := M.ruleAll; simp only [Go.Proofs.Ythdldlpflieeoaa.ruleAll] at C) | ((with_reducible apply wpM_sta' M 0 37 (sqs m u)); rfl; rfl; rfl; rfl; (first | exact .inl (by assumption) | exact .inr rfl | exact .inr (by assumption)); exact ⟨rfl, inf_sqs.trans (congrArg some (sqs_size ..).symm), flat_sqs _ _⟩; (simp only [entCells, List.getElem?_cons_zero, List.getElem?_cons_succ, sqs_size, sqs_size]); clear M; (try clear C); intro w9 M; simp only [List.set_cons_zero, List.set_cons_succ, entBlk, entT, List.getElem?_cons_zero, List.getElem?_cons_succ] at M; have C := M.ruleAll; simp only [Go.Proofs.Ythdldlpflieeoaa.ruleAll] at C) | ((with_reducible apply wpM_lda' M 0 37 0 (sqs m u)); rfl; rfl; rfl; exact ⟨rfl, inf_sqs.trans (congrArg some (sqs_size ..).symm), _, und_sqs, rfl⟩; exact whole_of rfl) | (go_at_call 285; ((with_reducible refine (HOR.out hr HMU.out _).mono ?_); rintro e w1 ⟨_, rfl, ⟨N, t, rfl, hs⟩, hb⟩; have hsz := M.size; (try (have G9 := G.later hb; clear G; have G := G9; clear G9)); have M9 := M.later hb; clear M; (try clear C); have M := M9; clear M9; have C := M.ruleAll; simp only [Go.Proofs.Ythdldlpflieeoaa.ruleAll] at C)) | ((with_reducible apply wpM_sta' M 2 37 (sqs (N : Int) t)); rfl; rfl; rfl; rfl; (first | exact .inl (by assumption) | exact .inr rfl | exact .inr (by assumption)); exact ⟨rfl, inf_sqs.trans (congrArg some (sqs_size ..).symm), flat_sqs _ _⟩; (simp only [entCells, List.getElem?_cons_zero, List.getElem?_cons_succ, sqs_size, sqs_size]); clear M; (try clear C); intro w9 M; simp only [List.set_cons_zero, List.set_cons_succ, entBlk, entT, List.getElem?_cons_zero, List.getElem?_cons_succ] at M; have C := M.ruleAll; simp only [Go.Proofs.Ythdldlpflieeoaa.ruleAll] at C))
      refine bodyPost_ret (v := .agg (sqs (N : Int) t)) (by exact results_part rfl _ _ _ _ _ _ rfl und_sqs rfl inf_sqs (cells_of_blk0 (M.box 2 rfl))) rfl ?_
      exact ⟨_, rfl, ⟨N, t, rfl, hs⟩, ((M.drop 0).drop 0).drop 0⟩
    · have hr' : rdB q = false := by simpa using hr
      go_wp2_with (first | ((with_reducible apply wpM_alloc' M 37 (sqs 0 fun _ _ => 0)); rfl; exact ⟨rfl, _, zero_sqs _, rfl⟩; clear M; (try clear C); intro b4 w9 h_b4 M; have C := M.ruleAll; simp only [Go.Proofs.Ythdldlpflieeoaa.ruleAll] at C) | ((with_reducible apply wpM_sta' M 0 37 (sqs m u)); rfl; rfl; rfl; rfl; (first | exact .inl (by assumption) | exact .inr rfl | exact .inr (by assumption)); exact ⟨rfl, inf_sqs.trans (congrArg some (sqs_size ..).symm), flat_sqs _ _⟩; (simp only [entCells, List.getElem?_cons_zero, List.getElem?_cons_succ, sqs_size, sqs_size]); clear M; (try clear C); intro w9 M; simp only [List.set_cons_zero, List.set_cons_succ, entBlk, entT, List.getElem?_cons_zero, List.getElem?_cons_succ] at M; have C := M.ruleAll; simp only [Go.Proofs.Ythdldlpflieeoaa.ruleAll] at C) | ((fail_if_success have := hx7); (go_at_call 132; ((with_reducible refine ((HX.out _).at M 3 4 hbb rfl rfl rfl).mono ?_); rintro e w3 ⟨_, rfl, ⟨x7, rfl, hx7⟩, M9⟩; clear M; (try clear C); have M := M9; clear M9; have C := M.ruleAll; simp only [Go.Proofs.Ythdldlpflieeoaa.ruleAll] at C))) | ((fail_if_success have := hx8); (go_at_call 132; ((with_reducible refine ((HX.out _).at M 3 4 hbb rfl rfl rfl).mono ?_); rintro e w3 ⟨_, rfl, ⟨x8, rfl, hx8⟩, M9⟩; clear M; (try clear C); have M := M9; clear M9; have C := M.ruleAll; simp only [Go.Proofs.Ythdldlpflieeoaa.ruleAll] at C))) | (go_at_call 132; ((with_reducible refine ((HX.out _).at M 3 4 hbb rfl rfl rfl).mono ?_); rintro e w3 ⟨_, rfl, ⟨x9, rfl, hx9⟩, M9⟩; clear M; (try clear C); have M := M9; clear M9; have C := M.ruleAll; simp only [Go.Proofs.Ythdldlpflieeoaa.ruleAll] at C)) | ((with_reducible apply wpM_bsl' M 85 3 2 ([(0, .int .i64 (x7 : Int)), (1, .int .i64 (x8 : Int)), (2, .int .i64 (x9 : Int))]) (i64V [(x7 : Int), (x8 : Int), (x9 : Int)])); rfl; rfl; rfl; exact bsl_i3X _ _ _; clear M; (try clear C); intro bp w9 h_bp M; have C := M.ruleAll; simp only [Go.Proofs.Ythdldlpflieeoaa.ruleAll] at C) | (go_at_call 145; ((refine (HP.out M 4 5 0 hbb (by decide) rfl rfl rfl (by simp) (by simp)).mono ?_); rintro e w9 ⟨z, rfl, hz, M9⟩; clear M; (try clear C); have M := M9; clear M9; simp only [List.mem_cons, List.not_mem_nil, or_false] at hz; have C := M.ruleAll; simp only [Go.Proofs.Ythdldlpflieeoaa.ruleAll] at C; obtain ⟨K, rfl, hK⟩ : ∃ K : Nat, z = (K : Int) ∧ K ≤ 9 := ⟨z.toNat, by rcases hz with rfl | rfl | rfl <;> omega, by rcases hz with rfl | rfl | rfl <;> omega⟩)) | (go_at_call 144; ((with_reducible refine (HCY.out K hK _).mono ?_); rintro e w1 ⟨_, rfl, ⟨N, hN, t, rfl, hs⟩, hb⟩; have hsz := M.size; (try (have G9 := G.later hb; clear G; have G := G9; clear G9)); have M9 := M.later hb; clear M; (try clear C); have M := M9; clear M9; have C := M.ruleAll; simp only [Go.Proofs.Ythdldlpflieeoaa.ruleAll] at C)) | ((with_reducible apply wpM_sta' M 3 37 (sqs (N : Int) t)); rfl; rfl; rfl; rfl; (first | exact .inl (by assumption) | exact .inr rfl | exact .inr (by assumption)); exact ⟨rfl, inf_sqs.trans (congrArg some (sqs_size ..).symm), flat_sqs _ _⟩; (simp only [entCells, List.getElem?_cons_zero, List.getElem?_cons_succ, sqs_size, sqs_size]); clear M; (try clear C); intro w9 M; simp only [List.set_cons_zero, List.set_cons_succ, entBlk, entT, List.getElem?_cons_zero, List.getElem?_cons_succ] at M; have C := M.ruleAll; simp only [Go.Proofs.Ythdldlpflieeoaa.ruleAll] at C))
      refine bodyPost_ret (v := .agg (sqs (N : Int) t)) (by exact results_part rfl _ _ _ _ _ _ rfl und_sqs rfl inf_sqs (cells_of_blk0 (M.box 3 rfl))) rfl ?_
      exact ⟨_, rfl, ⟨_, t, rfl, hs⟩, (((M.drop 0).drop 0).drop 0).drop 0⟩
  have hx0' : ((x : Int) == 0) = false := by simp; omega
  by_cases hx1 : x = 1
  · subst hx1
    go_wp2_with (first | (go_at_call 132; ((with_reducible refine ((HX.out _).at M 2 3 hbb rfl rfl rfl).mono ?_); rintro e w3 ⟨_, rfl, ⟨y, rfl, hy⟩, M9⟩; clear M; (try clear C); have M := M9; clear M9; have C := M.ruleAll; simp only [Go.Proofs.Ythdldlpflieeoaa.ruleAll] at C)) | (go_at_call 155; ((with_reducible refine (HEL.out y (by omega) _).mono ?_); rintro e w1 ⟨_, rfl, ⟨N, t, rfl, hs⟩, hb⟩; have hsz := M.size; (try (have G9 := G.later hb; clear G; have G := G9; clear G9)); have M9 := M.later hb; clear M; (try clear C); have M := M9; clear M9; have C := M.ruleAll; simp only [Go.Proofs.Ythdldlpflieeoaa.ruleAll] at C)) | ((with_reducible apply wpM_sta' M 1 37 (sqs (N : Int) t)); rfl; rfl; rfl; rfl; (first | exact .inl (by assumption) | exact .inr rfl | exact .inr (by assumption)); exact ⟨rfl, inf_sqs.trans (congrArg some (sqs_size ..).symm), flat_sqs _ _⟩; (simp only [entCells, List.getElem?_cons_zero, List.getElem?_cons_succ, sqs_size, sqs_size]); clear M; (try clear C); intro w9 M; simp only [List.set_cons_zero, List.set_cons_succ, entBlk, entT, List.getElem?_cons_zero, List.getElem?_cons_succ] at M; have C := M.ruleAll; simp only [Go.Proofs.Ythdldlpflieeoaa.ruleAll] at C))
    refine bodyPost_ret (v := .agg (sqs (N : Int) t)) (by exact results_part rfl _ _ _ _ _ _ rfl und_sqs rfl inf_sqs (cells_of_blk0 (M.box 1 rfl))) rfl ?_
    exact ⟨_, rfl, ⟨N, t, rfl, hs⟩, (M.drop 0).drop 0⟩
  have hx1' : ((x : Int) == 1) = false := by simp; omega
  by_cases hx2 : x = 2
  · subst hx2
    go_wp2_with (first | ((fail_if_success have := hy); (go_at_call 132; ((with_reducible refine ((HX.out _).at M 2 3 hbb rfl rfl rfl).mono ?_); rintro e w3 ⟨_, rfl, ⟨y, rfl, hy⟩, M9⟩; clear M; (try clear C); have M := M9; clear M9; have C := M.ruleAll; simp only [Go.Proofs.Ythdldlpflieeoaa.ruleAll] at C))) | (go_at_call 132; ((with_reducible refine ((HX.out _).at M 2 3 hbb rfl rfl rfl).mono ?_); rintro e w3 ⟨_, rfl, ⟨z, rfl, hz⟩, M9⟩; clear M; (try clear C); have M := M9; clear M9; have C := M.ruleAll; simp only [Go.Proofs.Ythdldlpflieeoaa.ruleAll] at C)) | ((fail_if_success have := hs1); (go_at_call 144; ((with_reducible refine (HCY.out y (by omega) _).mono ?_); rintro e w1 ⟨_, rfl, ⟨N1, hN1, t, rfl, hs1⟩, hb⟩; have hsz := M.size; (try (have G9 := G.later hb; clear G; have G := G9; clear G9)); have M9 := M.later hb; clear M; (try clear C); have M := M9; clear M9; have C := M.ruleAll; simp only [Go.Proofs.Ythdldlpflieeoaa.ruleAll] at C))) | (go_at_call 144; ((with_reducible refine (HCY.out z (by omega) _).mono ?_); rintro e w1 ⟨_, rfl, ⟨N2, hN2, u, rfl, hs2⟩, hb⟩; have hsz := M.size; (try (have G9 := G.later hb; clear G; have G := G9; clear G9)); have M9 := M.later hb; clear M; (try clear C); have M := M9; clear M9; have C := M.ruleAll; simp only [Go.Proofs.Ythdldlpflieeoaa.ruleAll] at C)) | (go_at_call 148; ((with_reducible refine (HDI.out hs1 hs2 (Nat.le_trans (Nat.mul_le_mul (show N1 ≤ 3 by omega) (show N2 ≤ 3 by omega)) (by decide)) _).mono ?_); rintro e w1 ⟨_, rfl, ⟨N, v, rfl, hs⟩, hb⟩; have hsz := M.size; (try (have G9 := G.later hb; clear G; have G := G9; clear G9)); have M9 := M.later hb; clear M; (try clear C); have M := M9; clear M9; have C := M.ruleAll; simp only [Go.Proofs.Ythdldlpflieeoaa.ruleAll] at C)) | ((with_reducible apply wpM_sta' M 1 37 (sqs (N : Int) v)); rfl; rfl; rfl; rfl; (first | exact .inl (by assumption) | exact .inr rfl | exact .inr (by assumption)); exact ⟨rfl, inf_sqs.trans (congrArg some (sqs_size ..).symm), flat_sqs _ _⟩; (simp only [entCells, List.getElem?_cons_zero, List.getElem?_cons_succ, sqs_size, sqs_size]); clear M; (try clear C); intro w9 M; simp only [List.set_cons_zero, List.set_cons_succ, entBlk, entT, List.getElem?_cons_zero, List.getElem?_cons_succ] at M; have C := M.ruleAll; simp only [Go.Proofs.Ythdldlpflieeoaa.ruleAll] at C))
    refine bodyPost_ret (v := .agg (sqs (N : Int) v)) (by exact results_part rfl _ _ _ _ _ _ rfl und_sqs rfl inf_sqs (cells_of_blk0 (M.box 1 rfl))) rfl ?_
    exact ⟨_, rfl, ⟨N, v, rfl, hs⟩, (M.drop 0).drop 0⟩
  have hx2' : ((x : Int) == 2) = false := by simp; omega
  clear hx0 hx1 hx2
  go_wp2_with (first | ((fail_if_success have := hx7); (go_at_call 132; ((with_reducible refine ((HX.out _).at M 2 3 hbb rfl rfl rfl).mono ?_); rintro e w3 ⟨_, rfl, ⟨x7, rfl, hx7⟩, M9⟩; clear M; (try clear C); have M := M9; clear M9; have C := M.ruleAll; simp only [Go.Proofs.Ythdldlpflieeoaa.ruleAll] at C))) | ((fail_if_success have := hx8); (go_at_call 132; ((with_reducible refine ((HX.out _).at M 2 3 hbb rfl rfl rfl).mono ?_); rintro e w3 ⟨_, rfl, ⟨x8, rfl, hx8⟩, M9⟩; clear M; (try clear C); have M := M9; clear M9; have C := M.ruleAll; simp only [Go.Proofs.Ythdldlpflieeoaa.ruleAll] at C))) | (go_at_call 132; ((with_reducible refine ((HX.out _).at M 2 3 hbb rfl rfl rfl).mono ?_); rintro e w3 ⟨_, rfl, ⟨x9, rfl, hx9⟩, M9⟩; clear M; (try clear C); have M := M9; clear M9; have C := M.ruleAll; simp only [Go.Proofs.Ythdldlpflieeoaa.ruleAll] at C)) | ((with_reducible apply wpM_bsl' M 85 3 2 ([(0, .int .i64 (x7 : Int)), (1, .int .i64 (x8 : Int)), (2, .int .i64 (x9 : Int))]) (i64V [(x7 : Int), (x8 : Int), (x9 : Int)])); rfl; rfl; rfl; exact bsl_i3X _ _ _; clear M; (try clear C); intro bp w9 h_bp M; have C := M.ruleAll; simp only [Go.Proofs.Ythdldlpflieeoaa.ruleAll] at C) | (go_at_call 145; ((refine (HP.out M 3 4 0 hbb (by decide) rfl rfl rfl (by simp) (by simp)).mono ?_); rintro e w9 ⟨z, rfl, hz, M9⟩; clear M; (try clear C); have M := M9; clear M9; simp only [List.mem_cons, List.not_mem_nil, or_false] at hz; have C := M.ruleAll; simp only [Go.Proofs.Ythdldlpflieeoaa.ruleAll] at C; obtain ⟨K, rfl, hK⟩ : ∃ K : Nat, z = (K : Int) ∧ K ≤ 9 := ⟨z.toNat, by rcases hz with rfl | rfl | rfl <;> omega, by rcases hz with rfl | rfl | rfl <;> omega⟩)) | (go_at_call 144; ((with_reducible refine (HCY.out K hK _).mono ?_); rintro e w1 ⟨_, rfl, ⟨N, hN, t, rfl, hs⟩, hb⟩; have hsz := M.size; (try (have G9 := G.later hb; clear G; have G := G9; clear G9)); have M9 := M.later hb; clear M; (try clear C); have M := M9; clear M9; have C := M.ruleAll; simp only [Go.Proofs.Ythdldlpflieeoaa.ruleAll] at C)) | ((with_reducible apply wpM_sta' M 2 37 (sqs (N : Int) t)); rfl; rfl; rfl; rfl; (first | exact .inl (by assumption) | exact .inr rfl | exact .inr (by assumption)); exact ⟨rfl, inf_sqs.trans (congrArg some (sqs_size ..).symm), flat_sqs _ _⟩; (simp only [entCells, List.getElem?_cons_zero, List.getElem?_cons_succ, sqs_size, sqs_size]); clear M; (try clear C); intro w9 M; simp only [List.set_cons_zero, List.set_cons_succ, entBlk, entT, List.getElem?_cons_zero, List.getElem?_cons_succ] at M; have C := M.ruleAll; simp only [Go.Proofs.Ythdldlpflieeoaa.ruleAll] at C))
  refine bodyPost_ret (v := .agg (sqs (N : Int) t)) (by exact results_part rfl _ _ _ _ _ _ rfl und_sqs rfl inf_sqs (cells_of_blk0 (M.box 2 rfl))) rfl ?_
  exact ⟨_, rfl, ⟨_, t, rfl, hs⟩, ((M.drop 0).drop 0).drop 0⟩
end Go.Proofs.Ythdldlpflieeoaa

/- Drawn loops and squares: contracts. -/
namespace Go.Proofs.Ythdldlpflieeoaa
set_option linter.unusedSimpArgs false
set_option linter.unusedVariables false
open Go Go.RowKit

/-- A number below n; a byte below n. -/
def NxU (n : Nat) (v : Value) : Prop := ∃ x : Nat, v = .int .i64 (x : Int) ∧ x < n
def BxU (n : Nat) (v : Value) : Prop := ∃ x : Nat, v = .int .u8 (x : Int) ∧ x < n
theorem sw_any {N a b s : Nat} {t : Nat → Nat → Nat} (hs : IsSq (N : Int) t) (ha : a < N) (hb : b < N) (hst : s < N) (w : World) : Calls Try.prog 284 #[.agg (sqs (N : Int) t), .int .u8 (a : Int), .int .u8 (b : Int), .int .u8 (s : Int)] w fun e w' => ∃ v, e = .returned v ∧ SqV N v ∧ Below w.heap.size w w' := l01Switch_any N t a b s hs ha hb hst w
theorem mov_any {N : Nat} {t : Nat → Nat → Nat} {f g h : Nat → Nat} (hs : IsSq (N : Int) t) (hf : IsPm (N : Int) f) (hg : IsPm (N : Int) g) (hh : IsPm (N : Int) h) (w : World) : Calls Try.prog 203 #[.agg (sqs (N : Int) t), .agg (bys f), .agg (bys g), .agg (bys h)] w fun e w' => ∃ v, e = .returned v ∧ SqV N v ∧ Below w.heap.size w w' :=
  (l01Moved_any N t f g h (by have := hs.lo; omega) (by have := hs.hi; omega) (fun i hi => by have := hf.toPm.lt i hi; have := hs.hi; omega) (fun i hi => by have := hg.toPm.lt i hi; have := hs.hi; omega) (fun x y hx hy => by have := (Lat.of_sq hs).lt x y hx hy; have := hs.hi; omega) w).mono fun e w' ⟨h2, hb⟩ => ⟨_, h2, SqV.mov hs hf.toPm hg.toPm hh.toPm, hb⟩
theorem opp_any {N : Nat} {t : Nat → Nat → Nat} (hs : IsSq (N : Int) t) (w : World) : Calls Try.prog 259 #[.agg (sqs (N : Int) t)] w fun e w' => ∃ v, e = .returned v ∧ SqV N v ∧ Below w.heap.size w w' :=
  (l01Opposite_any (N : Int) t w).mono fun e w' ⟨h2, hb⟩ => ⟨_, h2, ⟨_, rfl, sq_turned hs⟩, hb⟩
theorem ordn_any {N : Nat} {t : Nat → Nat → Nat} (hs : IsSq (N : Int) t) (w : World) : Calls Try.prog 285 #[.agg (sqs (N : Int) t)] w fun e w' => ∃ v, e = .returned v ∧ SqV N v ∧ Below w.heap.size w w' := l01Ordered_any N t hs w
set_option maxRecDepth 100000 in
set_option maxHeartbeats 4000000 in
theorem draw_dc (l : List Nat) (hb : Byts l) (hl : l.length ≤ 4096) (b c : Nat) (p : Option Addr) : DrawC 248 #[.pointer (some ⟨b, 0, none⟩)] l b p c KnQ := fun w0 w X hbb M => by
  have HX := Hid2.mk (fun n => next_dc l hb hl b c p n)
  have HK := Hid2.mk (known_dc l hb hl b c p)
  have HP := Hid2.mk (@pick_at l hb hl b c p)
  have HPL := Hid2.mk (fun N h0 h1 => places_dc l hb hl b c p N h0 h1)
  have HSW := Hid2.mk (@sw_any)
  have HMV := Hid2.mk (@mov_any)
  have HOP := Hid2.mk (@opp_any)
  have HOR := Hid2.mk (@ordn_any)
  clear hb hl
  have C := M.ruleAll; simp only [Go.Proofs.Ythdldlpflieeoaa.ruleAll] at C
  go_enter Try.func248, Try.ntmps248
  go_wp2_with (first | ((fail_if_success have := h_b2); ((with_reducible apply wpM_alloc' M 37 (sqs 0 fun _ _ => 0)); rfl; exact ⟨rfl, _, zero_sqs _, rfl⟩; clear M; (try clear C); intro b2 w9 h_b2 M; have C := M.ruleAll; simp only [Go.Proofs.Ythdldlpflieeoaa.ruleAll] at C)) | ((with_reducible apply wpM_alloc' M 37 (sqs 0 fun _ _ => 0)); rfl; exact ⟨rfl, _, zero_sqs _, rfl⟩; clear M; (try clear C); intro b3 w9 h_b3 M; have C := M.ruleAll; simp only [Go.Proofs.Ythdldlpflieeoaa.ruleAll] at C) | (go_at_call 283; ((with_reducible refine (HK.out.at M 1 2 hbb rfl rfl rfl).mono ?_); rintro e w2 ⟨_, rfl, ⟨N, t0, rfl, hs0⟩, M9⟩; clear M; (try clear C); have M := M9; clear M9; have C := M.ruleAll; simp only [Go.Proofs.Ythdldlpflieeoaa.ruleAll] at C; have so := sqs_order (N : Int) t0)) | ((with_reducible apply wpM_sta' M 0 37 (sqs (N : Int) t0)); rfl; rfl; rfl; rfl; (first | exact .inl (by assumption) | exact .inr rfl | exact .inr (by assumption)); exact ⟨rfl, inf_sqs.trans (congrArg some (sqs_size ..).symm), flat_sqs _ _⟩; (simp only [entCells, List.getElem?_cons_zero, List.getElem?_cons_succ, sqs_size, sqs_size]); clear M; (try clear C); intro w9 M; simp only [List.set_cons_zero, List.set_cons_succ, entBlk, entT, List.getElem?_cons_zero, List.getElem?_cons_succ] at M; have C := M.ruleAll; simp only [Go.Proofs.Ythdldlpflieeoaa.ruleAll] at C) | ((with_reducible apply wpM_bsl' M 85 5 2 ([(0, .int .i64 0), (1, .int .i64 0), (2, .int .i64 1), (3, .int .i64 2), (4, .int .i64 4)]) (i64V [0, 0, 1, 2, 4])); rfl; rfl; rfl; exact bsl_i5 _ _ _ _ _; clear M; (try clear C); intro bp w9 h_bp M; have C := M.ruleAll; simp only [Go.Proofs.Ythdldlpflieeoaa.ruleAll] at C) | (go_at_call 145; fail))
  refine (HP.out M 3 4 0 hbb (by decide) rfl rfl rfl (by simp) (by simp)).mono ?_
  rintro e w3 ⟨z, rfl, hz, M9⟩
  have hz4 : 0 ≤ z ∧ z ≤ 4 := by
    simp only [List.mem_cons, List.not_mem_nil, or_false] at hz
    rcases hz with rfl | rfl | rfl | rfl | rfl <;> omega
  clear hz
  obtain ⟨k0, rfl, hk4⟩ : ∃ k : Nat, z = (k : Int) ∧ k ≤ 4 := ⟨z.toNat, by omega, by omega⟩
  clear hz4
  clear M; (try clear C)
  have M := M9.drop 0
  clear M9
  simp only [List.eraseIdx_cons_zero] at M
  have hN0 : 1 ≤ N := by have := hs0.lo; omega
  have hN1 : N ≤ 10 := by have := hs0.hi; omega
  have HID := Hid2.mk (idTo_is hN0 hN1)
  have HS0 := Hid2.mk hs0
  clear hs0 so
  have C := M.ruleAll; simp only [Go.Proofs.Ythdldlpflieeoaa.ruleAll] at C
  go_wp2
  go_loopw [5] (fun v wr => ∃ (k : Nat) (t : Nat → Nat → Nat), k ≤ 4 ∧ v = .int .i64 (k : Int) ∧ IsSq (N : Int) t ∧ Mm no w0 wr (.box b3 (sqs (N : Int) t) 37 :: .box b2 (sqs 0 fun _ _ => 0) 37 :: Ent.sv b p l.length c :: Ent.cd l.length p (cdF l) :: X)) (fun v _ => (intOf v).toNat)
  case atStart => exact ⟨k0, t0, hk4, rfl, HS0.out, M⟩
  case round =>
    obtain ⟨k, t, hk, rfl, hs, M9⟩ := hrel
    clear HS0
    have HS := Hid2.mk hs
    clear hs
    clear M; (try clear C)
    have M := M9
    clear M9
    have C := M.ruleAll; simp only [Go.Proofs.Ythdldlpflieeoaa.ruleAll] at C
    have so := sqs_order (N : Int) t
    by_cases hk0 : 0 < k
    · have hk0' : (0 : Int) < (k : Int) := by omega
      go_wp2_with (first | (go_at_call 132; fail))
      (with_reducible refine ((HX.out 2).at M 2 3 hbb rfl rfl rfl).mono ?_); rintro e w4 ⟨_, rfl, ⟨x, rfl, hx⟩, M9⟩; clear M; (try clear C); have M := M9; clear M9; have C := M.ruleAll; simp only [Go.Proofs.Ythdldlpflieeoaa.ruleAll] at C
      by_cases hx0 : x = 0
      · subst hx0
        go_wp2_with (first | ((with_reducible apply wpM_lda' M 0 37 0 (sqs (N : Int) t)); rfl; rfl; rfl; exact ⟨rfl, inf_sqs.trans (congrArg some (sqs_size ..).symm), _, und_sqs, rfl⟩; exact whole_of rfl) | (go_at_call 259; ((with_reducible refine (HOP.out HS.out _).mono ?_); rintro e w1 ⟨_, rfl, ⟨u, rfl, hu⟩, hb⟩; have hsz := M.size; (try (have G9 := G.later hb; clear G; have G := G9; clear G9)); have M9 := M.later hb; clear M; (try clear C); have M := M9; clear M9; have C := M.ruleAll; simp only [Go.Proofs.Ythdldlpflieeoaa.ruleAll] at C)) | ((with_reducible apply wpM_sta' M 0 37 (sqs (N : Int) u)); rfl; rfl; rfl; rfl; (first | exact .inl (by assumption) | exact .inr rfl | exact .inr (by assumption)); exact ⟨rfl, inf_sqs.trans (congrArg some (sqs_size ..).symm), flat_sqs _ _⟩; (simp only [entCells, List.getElem?_cons_zero, List.getElem?_cons_succ, sqs_size, sqs_size]); clear M; (try clear C); intro w9 M; simp only [List.set_cons_zero, List.set_cons_succ, entBlk, entT, List.getElem?_cons_zero, List.getElem?_cons_succ] at M; have C := M.ruleAll; simp only [Go.Proofs.Ythdldlpflieeoaa.ruleAll] at C))
        refine wp_region_calm 13 (fun w' => Mm no w0 w' (.box b3 (sqs (N : Int) u) 37 :: .box b2 (sqs 0 fun _ _ => 0) 37 :: Ent.sv b p l.length c :: Ent.cd l.length p (cdF l) :: X)) (fun j => ([fun v => v = Value.agg (sqs (N : Int) u), fun v => v = Value.pointer (some ⟨b, 0, none⟩), fun v => v = Value.int .i64 (N : Int), NxU N, BxU N, fun v => v = Value.pointer (some ⟨b, 0, none⟩), fun v => v = Value.int .i64 (N : Int), NxU N, BxU N, fun v => v = Value.pointer (some ⟨b, 0, none⟩), fun v => v = Value.int .i64 (N : Int), NxU N, BxU N] : List (Value → Prop)).getD j fun _ => True) (by kernel_rfl) (by kernel_rfl) (by kernel_rfl) (fun j hj => match j, hj with | 0, _ => ⟨_, rfl⟩ | 1, _ => ⟨_, rfl⟩ | 2, _ => ⟨_, rfl⟩ | 3, _ => ⟨_, 0, rfl, by omega⟩ | 4, _ => ⟨_, 0, rfl, by omega⟩ | 5, _ => ⟨_, rfl⟩ | 6, _ => ⟨_, rfl⟩ | 7, _ => ⟨_, 0, rfl, by omega⟩ | 8, _ => ⟨_, 0, rfl, by omega⟩ | 9, _ => ⟨_, rfl⟩ | 10, _ => ⟨_, rfl⟩ | 11, _ => ⟨_, 0, rfl, by omega⟩ | 12, _ => ⟨_, 0, rfl, by omega⟩ | j + 13, h => absurd h (by omega)) M.drew ?_; (simp only [List.take_succ_cons, List.take_zero, List.drop_succ_cons, List.drop_zero]); clear M; (try clear C); refine wpU_cons (by intro w2 M; have C := M.ruleAll; simp only [Go.Proofs.Ythdldlpflieeoaa.ruleAll] at C; refine yield_walk (ops := #[]) (by exact rfl) (by exact rfl) (by exact Nat.le_of_ble_eq_true rfl) ?_; go_wp2_with (first | ((with_reducible apply wpM_lda' M 0 37 0 (sqs (N : Int) u)); rfl; rfl; rfl; exact ⟨rfl, inf_sqs.trans (congrArg some (sqs_size ..).symm), _, und_sqs, rfl⟩; exact whole_of rfl)); all_goals (first | done | exact ⟨rfl, M⟩ | exact M)) ?_; rintro _ rfl; (simp only [Act.put, List.setIfInBounds_toArray, List.set_cons_succ, List.set_cons_zero]); refine wpU_cons (by intro w2 M; have C := M.ruleAll; simp only [Go.Proofs.Ythdldlpflieeoaa.ruleAll] at C; refine yield_walk (ops := #[]) (by exact rfl) (by exact rfl) (by exact Nat.le_of_ble_eq_true rfl) ?_; go_wp2; all_goals (first | done | exact ⟨rfl, M⟩ | exact M)) ?_; rintro _ rfl; (simp only [Act.put, List.setIfInBounds_toArray, List.set_cons_succ, List.set_cons_zero]); refine wpU_cons (by intro w2 M; have C := M.ruleAll; simp only [Go.Proofs.Ythdldlpflieeoaa.ruleAll] at C; refine yield_walk (ops := #[]) (by exact rfl) (by exact rfl) (by exact Nat.le_of_ble_eq_true rfl) ?_; go_wp2; all_goals (first | done | exact ⟨rfl, M⟩ | exact M)) ?_; rintro _ rfl; (simp only [Act.put, List.setIfInBounds_toArray, List.set_cons_succ, List.set_cons_zero]); refine wpU_cons (by intro w2 M; have C := M.ruleAll; simp only [Go.Proofs.Ythdldlpflieeoaa.ruleAll] at C; refine yield_walk (ops := #[]) (by exact rfl) (by exact rfl) (by exact Nat.le_of_ble_eq_true rfl) ?_; go_wp2_with (first | (go_at_call 132; ((with_reducible refine ((HX.out _).at M 2 3 hbb rfl rfl rfl).mono ?_); rintro e w3 ⟨_, rfl, ⟨x, rfl, hx⟩, M9⟩; clear M; (try clear C); have M := M9; clear M9; have C := M.ruleAll; simp only [Go.Proofs.Ythdldlpflieeoaa.ruleAll] at C))); all_goals (first | done | exact ⟨_, rfl, by omega⟩ | exact M)) ?_; rintro _ ⟨x1, rfl, hx1⟩; (simp only [Act.put, List.setIfInBounds_toArray, List.set_cons_succ, List.set_cons_zero]); refine wpU_cons (by intro w2 M; have C := M.ruleAll; simp only [Go.Proofs.Ythdldlpflieeoaa.ruleAll] at C; refine yield_walk (ops := #[]) (by exact rfl) (by exact rfl) (by exact Nat.le_of_ble_eq_true rfl) ?_; go_wp2; all_goals (first | done | exact ⟨_, rfl, by omega⟩ | exact M)) ?_; rintro _ ⟨y1, rfl, hy1⟩; (simp only [Act.put, List.setIfInBounds_toArray, List.set_cons_succ, List.set_cons_zero]); refine wpU_cons (by intro w2 M; have C := M.ruleAll; simp only [Go.Proofs.Ythdldlpflieeoaa.ruleAll] at C; refine yield_walk (ops := #[]) (by exact rfl) (by exact rfl) (by exact Nat.le_of_ble_eq_true rfl) ?_; go_wp2; all_goals (first | done | exact ⟨rfl, M⟩ | exact M)) ?_; rintro _ rfl; (simp only [Act.put, List.setIfInBounds_toArray, List.set_cons_succ, List.set_cons_zero]); refine wpU_cons (by intro w2 M; have C := M.ruleAll; simp only [Go.Proofs.Ythdldlpflieeoaa.ruleAll] at C; refine yield_walk (ops := #[]) (by exact rfl) (by exact rfl) (by exact Nat.le_of_ble_eq_true rfl) ?_; go_wp2; all_goals (first | done | exact ⟨rfl, M⟩ | exact M)) ?_; rintro _ rfl; (simp only [Act.put, List.setIfInBounds_toArray, List.set_cons_succ, List.set_cons_zero]); refine wpU_cons (by intro w2 M; have C := M.ruleAll; simp only [Go.Proofs.Ythdldlpflieeoaa.ruleAll] at C; refine yield_walk (ops := #[]) (by exact rfl) (by exact rfl) (by exact Nat.le_of_ble_eq_true rfl) ?_; go_wp2_with (first | (go_at_call 132; ((with_reducible refine ((HX.out _).at M 2 3 hbb rfl rfl rfl).mono ?_); rintro e w3 ⟨_, rfl, ⟨x, rfl, hx⟩, M9⟩; clear M; (try clear C); have M := M9; clear M9; have C := M.ruleAll; simp only [Go.Proofs.Ythdldlpflieeoaa.ruleAll] at C))); all_goals (first | done | exact ⟨_, rfl, by omega⟩ | exact M)) ?_; rintro _ ⟨x2, rfl, hx2⟩; (simp only [Act.put, List.setIfInBounds_toArray, List.set_cons_succ, List.set_cons_zero]); refine wpU_cons (by intro w2 M; have C := M.ruleAll; simp only [Go.Proofs.Ythdldlpflieeoaa.ruleAll] at C; refine yield_walk (ops := #[]) (by exact rfl) (by exact rfl) (by exact Nat.le_of_ble_eq_true rfl) ?_; go_wp2; all_goals (first | done | exact ⟨_, rfl, by omega⟩ | exact M)) ?_; rintro _ ⟨y2, rfl, hy2⟩; (simp only [Act.put, List.setIfInBounds_toArray, List.set_cons_succ, List.set_cons_zero]); refine wpU_cons (by intro w2 M; have C := M.ruleAll; simp only [Go.Proofs.Ythdldlpflieeoaa.ruleAll] at C; refine yield_walk (ops := #[]) (by exact rfl) (by exact rfl) (by exact Nat.le_of_ble_eq_true rfl) ?_; go_wp2; all_goals (first | done | exact ⟨rfl, M⟩ | exact M)) ?_; rintro _ rfl; (simp only [Act.put, List.setIfInBounds_toArray, List.set_cons_succ, List.set_cons_zero]); refine wpU_cons (by intro w2 M; have C := M.ruleAll; simp only [Go.Proofs.Ythdldlpflieeoaa.ruleAll] at C; refine yield_walk (ops := #[]) (by exact rfl) (by exact rfl) (by exact Nat.le_of_ble_eq_true rfl) ?_; go_wp2; all_goals (first | done | exact ⟨rfl, M⟩ | exact M)) ?_; rintro _ rfl; (simp only [Act.put, List.setIfInBounds_toArray, List.set_cons_succ, List.set_cons_zero]); refine wpU_cons (by intro w2 M; have C := M.ruleAll; simp only [Go.Proofs.Ythdldlpflieeoaa.ruleAll] at C; refine yield_walk (ops := #[]) (by exact rfl) (by exact rfl) (by exact Nat.le_of_ble_eq_true rfl) ?_; go_wp2_with (first | (go_at_call 132; ((with_reducible refine ((HX.out _).at M 2 3 hbb rfl rfl rfl).mono ?_); rintro e w3 ⟨_, rfl, ⟨x, rfl, hx⟩, M9⟩; clear M; (try clear C); have M := M9; clear M9; have C := M.ruleAll; simp only [Go.Proofs.Ythdldlpflieeoaa.ruleAll] at C))); all_goals (first | done | exact ⟨_, rfl, by omega⟩ | exact M)) ?_; rintro _ ⟨x3, rfl, hx3⟩; (simp only [Act.put, List.setIfInBounds_toArray, List.set_cons_succ, List.set_cons_zero]); refine wpU_cons (by intro w2 M; have C := M.ruleAll; simp only [Go.Proofs.Ythdldlpflieeoaa.ruleAll] at C; refine yield_walk (ops := #[]) (by exact rfl) (by exact rfl) (by exact Nat.le_of_ble_eq_true rfl) ?_; go_wp2; all_goals (first | done | exact ⟨_, rfl, by omega⟩ | exact M)) ?_; rintro _ ⟨y3, rfl, hy3⟩; (simp only [Act.put, List.setIfInBounds_toArray, List.set_cons_succ, List.set_cons_zero]); refine wpU_nil ?_; intro w2 M; have C := M.ruleAll; simp only [Go.Proofs.Ythdldlpflieeoaa.ruleAll] at C
        go_wp2_with (first | (go_at_call 284; ((with_reducible refine (HSW.out hu hy1 hy2 hy3 _).mono ?_); rintro e w1 ⟨_, rfl, ⟨v, rfl, hv⟩, hb⟩; have hsz := M.size; (try (have G9 := G.later hb; clear G; have G := G9; clear G9)); have M9 := M.later hb; clear M; (try clear C); have M := M9; clear M9; have C := M.ruleAll; simp only [Go.Proofs.Ythdldlpflieeoaa.ruleAll] at C)) | ((with_reducible apply wpM_sta' M 0 37 (sqs (N : Int) v)); rfl; rfl; rfl; rfl; (first | exact .inl (by assumption) | exact .inr rfl | exact .inr (by assumption)); exact ⟨rfl, inf_sqs.trans (congrArg some (sqs_size ..).symm), flat_sqs _ _⟩; (simp only [entCells, List.getElem?_cons_zero, List.getElem?_cons_succ, sqs_size, sqs_size]); clear M; (try clear C); intro w9 M; simp only [List.set_cons_zero, List.set_cons_succ, entBlk, entT, List.getElem?_cons_zero, List.getElem?_cons_succ] at M; have C := M.ruleAll; simp only [Go.Proofs.Ythdldlpflieeoaa.ruleAll] at C))
        go_roundw
        case rel => exact ⟨k - 1, v, by omega, by go_num, hv, M⟩
        case measure => simp [intOf]; omega
      · have hx0' : ((x : Int) == 0) = false := by simp; omega
        go_wp2
        refine wp_region_calm 13 (fun w' => Mm no w0 w' (.box b3 (sqs (N : Int) t) 37 :: .box b2 (sqs 0 fun _ _ => 0) 37 :: Ent.sv b p l.length c :: Ent.cd l.length p (cdF l) :: X)) (fun j => ([fun v => v = Value.agg (sqs (N : Int) t), fun v => v = Value.pointer (some ⟨b, 0, none⟩), fun v => v = Value.int .i64 (N : Int), NxU N, BxU N, fun v => v = Value.pointer (some ⟨b, 0, none⟩), fun v => v = Value.int .i64 (N : Int), NxU N, BxU N, fun v => v = Value.pointer (some ⟨b, 0, none⟩), fun v => v = Value.int .i64 (N : Int), NxU N, BxU N] : List (Value → Prop)).getD j fun _ => True) (by kernel_rfl) (by kernel_rfl) (by kernel_rfl) (fun j hj => match j, hj with | 0, _ => ⟨_, rfl⟩ | 1, _ => ⟨_, rfl⟩ | 2, _ => ⟨_, rfl⟩ | 3, _ => ⟨_, 0, rfl, by omega⟩ | 4, _ => ⟨_, 0, rfl, by omega⟩ | 5, _ => ⟨_, rfl⟩ | 6, _ => ⟨_, rfl⟩ | 7, _ => ⟨_, 0, rfl, by omega⟩ | 8, _ => ⟨_, 0, rfl, by omega⟩ | 9, _ => ⟨_, rfl⟩ | 10, _ => ⟨_, rfl⟩ | 11, _ => ⟨_, 0, rfl, by omega⟩ | 12, _ => ⟨_, 0, rfl, by omega⟩ | j + 13, h => absurd h (by omega)) M.drew ?_; (simp only [List.take_succ_cons, List.take_zero, List.drop_succ_cons, List.drop_zero]); clear M; (try clear C); refine wpU_cons (by intro w2 M; have C := M.ruleAll; simp only [Go.Proofs.Ythdldlpflieeoaa.ruleAll] at C; refine yield_walk (ops := #[]) (by exact rfl) (by exact rfl) (by exact Nat.le_of_ble_eq_true rfl) ?_; go_wp2_with (first | ((with_reducible apply wpM_lda' M 0 37 0 (sqs (N : Int) t)); rfl; rfl; rfl; exact ⟨rfl, inf_sqs.trans (congrArg some (sqs_size ..).symm), _, und_sqs, rfl⟩; exact whole_of rfl)); all_goals (first | done | exact ⟨rfl, M⟩ | exact M)) ?_; rintro _ rfl; (simp only [Act.put, List.setIfInBounds_toArray, List.set_cons_succ, List.set_cons_zero]); refine wpU_cons (by intro w2 M; have C := M.ruleAll; simp only [Go.Proofs.Ythdldlpflieeoaa.ruleAll] at C; refine yield_walk (ops := #[]) (by exact rfl) (by exact rfl) (by exact Nat.le_of_ble_eq_true rfl) ?_; go_wp2; all_goals (first | done | exact ⟨rfl, M⟩ | exact M)) ?_; rintro _ rfl; (simp only [Act.put, List.setIfInBounds_toArray, List.set_cons_succ, List.set_cons_zero]); refine wpU_cons (by intro w2 M; have C := M.ruleAll; simp only [Go.Proofs.Ythdldlpflieeoaa.ruleAll] at C; refine yield_walk (ops := #[]) (by exact rfl) (by exact rfl) (by exact Nat.le_of_ble_eq_true rfl) ?_; go_wp2; all_goals (first | done | exact ⟨rfl, M⟩ | exact M)) ?_; rintro _ rfl; (simp only [Act.put, List.setIfInBounds_toArray, List.set_cons_succ, List.set_cons_zero]); refine wpU_cons (by intro w2 M; have C := M.ruleAll; simp only [Go.Proofs.Ythdldlpflieeoaa.ruleAll] at C; refine yield_walk (ops := #[]) (by exact rfl) (by exact rfl) (by exact Nat.le_of_ble_eq_true rfl) ?_; go_wp2_with (first | (go_at_call 132; ((with_reducible refine ((HX.out _).at M 2 3 hbb rfl rfl rfl).mono ?_); rintro e w3 ⟨_, rfl, ⟨x, rfl, hx⟩, M9⟩; clear M; (try clear C); have M := M9; clear M9; have C := M.ruleAll; simp only [Go.Proofs.Ythdldlpflieeoaa.ruleAll] at C))); all_goals (first | done | exact ⟨_, rfl, by omega⟩ | exact M)) ?_; rintro _ ⟨x1, rfl, hx1⟩; (simp only [Act.put, List.setIfInBounds_toArray, List.set_cons_succ, List.set_cons_zero]); refine wpU_cons (by intro w2 M; have C := M.ruleAll; simp only [Go.Proofs.Ythdldlpflieeoaa.ruleAll] at C; refine yield_walk (ops := #[]) (by exact rfl) (by exact rfl) (by exact Nat.le_of_ble_eq_true rfl) ?_; go_wp2; all_goals (first | done | exact ⟨_, rfl, by omega⟩ | exact M)) ?_; rintro _ ⟨y1, rfl, hy1⟩; (simp only [Act.put, List.setIfInBounds_toArray, List.set_cons_succ, List.set_cons_zero]); refine wpU_cons (by intro w2 M; have C := M.ruleAll; simp only [Go.Proofs.Ythdldlpflieeoaa.ruleAll] at C; refine yield_walk (ops := #[]) (by exact rfl) (by exact rfl) (by exact Nat.le_of_ble_eq_true rfl) ?_; go_wp2; all_goals (first | done | exact ⟨rfl, M⟩ | exact M)) ?_; rintro _ rfl; (simp only [Act.put, List.setIfInBounds_toArray, List.set_cons_succ, List.set_cons_zero]); refine wpU_cons (by intro w2 M; have C := M.ruleAll; simp only [Go.Proofs.Ythdldlpflieeoaa.ruleAll] at C; refine yield_walk (ops := #[]) (by exact rfl) (by exact rfl) (by exact Nat.le_of_ble_eq_true rfl) ?_; go_wp2; all_goals (first | done | exact ⟨rfl, M⟩ | exact M)) ?_; rintro _ rfl; (simp only [Act.put, List.setIfInBounds_toArray, List.set_cons_succ, List.set_cons_zero]); refine wpU_cons (by intro w2 M; have C := M.ruleAll; simp only [Go.Proofs.Ythdldlpflieeoaa.ruleAll] at C; refine yield_walk (ops := #[]) (by exact rfl) (by exact rfl) (by exact Nat.le_of_ble_eq_true rfl) ?_; go_wp2_with (first | (go_at_call 132; ((with_reducible refine ((HX.out _).at M 2 3 hbb rfl rfl rfl).mono ?_); rintro e w3 ⟨_, rfl, ⟨x, rfl, hx⟩, M9⟩; clear M; (try clear C); have M := M9; clear M9; have C := M.ruleAll; simp only [Go.Proofs.Ythdldlpflieeoaa.ruleAll] at C))); all_goals (first | done | exact ⟨_, rfl, by omega⟩ | exact M)) ?_; rintro _ ⟨x2, rfl, hx2⟩; (simp only [Act.put, List.setIfInBounds_toArray, List.set_cons_succ, List.set_cons_zero]); refine wpU_cons (by intro w2 M; have C := M.ruleAll; simp only [Go.Proofs.Ythdldlpflieeoaa.ruleAll] at C; refine yield_walk (ops := #[]) (by exact rfl) (by exact rfl) (by exact Nat.le_of_ble_eq_true rfl) ?_; go_wp2; all_goals (first | done | exact ⟨_, rfl, by omega⟩ | exact M)) ?_; rintro _ ⟨y2, rfl, hy2⟩; (simp only [Act.put, List.setIfInBounds_toArray, List.set_cons_succ, List.set_cons_zero]); refine wpU_cons (by intro w2 M; have C := M.ruleAll; simp only [Go.Proofs.Ythdldlpflieeoaa.ruleAll] at C; refine yield_walk (ops := #[]) (by exact rfl) (by exact rfl) (by exact Nat.le_of_ble_eq_true rfl) ?_; go_wp2; all_goals (first | done | exact ⟨rfl, M⟩ | exact M)) ?_; rintro _ rfl; (simp only [Act.put, List.setIfInBounds_toArray, List.set_cons_succ, List.set_cons_zero]); refine wpU_cons (by intro w2 M; have C := M.ruleAll; simp only [Go.Proofs.Ythdldlpflieeoaa.ruleAll] at C; refine yield_walk (ops := #[]) (by exact rfl) (by exact rfl) (by exact Nat.le_of_ble_eq_true rfl) ?_; go_wp2; all_goals (first | done | exact ⟨rfl, M⟩ | exact M)) ?_; rintro _ rfl; (simp only [Act.put, List.setIfInBounds_toArray, List.set_cons_succ, List.set_cons_zero]); refine wpU_cons (by intro w2 M; have C := M.ruleAll; simp only [Go.Proofs.Ythdldlpflieeoaa.ruleAll] at C; refine yield_walk (ops := #[]) (by exact rfl) (by exact rfl) (by exact Nat.le_of_ble_eq_true rfl) ?_; go_wp2_with (first | (go_at_call 132; ((with_reducible refine ((HX.out _).at M 2 3 hbb rfl rfl rfl).mono ?_); rintro e w3 ⟨_, rfl, ⟨x, rfl, hx⟩, M9⟩; clear M; (try clear C); have M := M9; clear M9; have C := M.ruleAll; simp only [Go.Proofs.Ythdldlpflieeoaa.ruleAll] at C))); all_goals (first | done | exact ⟨_, rfl, by omega⟩ | exact M)) ?_; rintro _ ⟨x3, rfl, hx3⟩; (simp only [Act.put, List.setIfInBounds_toArray, List.set_cons_succ, List.set_cons_zero]); refine wpU_cons (by intro w2 M; have C := M.ruleAll; simp only [Go.Proofs.Ythdldlpflieeoaa.ruleAll] at C; refine yield_walk (ops := #[]) (by exact rfl) (by exact rfl) (by exact Nat.le_of_ble_eq_true rfl) ?_; go_wp2; all_goals (first | done | exact ⟨_, rfl, by omega⟩ | exact M)) ?_; rintro _ ⟨y3, rfl, hy3⟩; (simp only [Act.put, List.setIfInBounds_toArray, List.set_cons_succ, List.set_cons_zero]); refine wpU_nil ?_; intro w2 M; have C := M.ruleAll; simp only [Go.Proofs.Ythdldlpflieeoaa.ruleAll] at C
        go_wp2_with (first | (go_at_call 284; ((with_reducible refine (HSW.out HS.out hy1 hy2 hy3 _).mono ?_); rintro e w1 ⟨_, rfl, ⟨v, rfl, hv⟩, hb⟩; have hsz := M.size; (try (have G9 := G.later hb; clear G; have G := G9; clear G9)); have M9 := M.later hb; clear M; (try clear C); have M := M9; clear M9; have C := M.ruleAll; simp only [Go.Proofs.Ythdldlpflieeoaa.ruleAll] at C)) | ((with_reducible apply wpM_sta' M 0 37 (sqs (N : Int) v)); rfl; rfl; rfl; rfl; (first | exact .inl (by assumption) | exact .inr rfl | exact .inr (by assumption)); exact ⟨rfl, inf_sqs.trans (congrArg some (sqs_size ..).symm), flat_sqs _ _⟩; (simp only [entCells, List.getElem?_cons_zero, List.getElem?_cons_succ, sqs_size, sqs_size]); clear M; (try clear C); intro w9 M; simp only [List.set_cons_zero, List.set_cons_succ, entBlk, entT, List.getElem?_cons_zero, List.getElem?_cons_succ] at M; have C := M.ruleAll; simp only [Go.Proofs.Ythdldlpflieeoaa.ruleAll] at C))
        go_roundw
        case rel => exact ⟨k - 1, v, by omega, by go_num, hv, M⟩
        case measure => simp [intOf]; omega
    · have hk0' : ¬ (0 : Int) < (k : Int) := by omega
      go_wp2_with (first | (go_at_call 132; fail))
      (with_reducible refine ((HX.out 3).at M 2 3 hbb rfl rfl rfl).mono ?_); rintro e w4 ⟨_, rfl, ⟨x, rfl, hx⟩, M9⟩; clear M; (try clear C); have M := M9; clear M9; have C := M.ruleAll; simp only [Go.Proofs.Ythdldlpflieeoaa.ruleAll] at C
      by_cases hx0 : x = 0
      · subst hx0
        go_wp2
        refine wp_region_calm 10 (fun w' => Mm no w0 w' (.box b3 (sqs (N : Int) t) 37 :: .box b2 (sqs 0 fun _ _ => 0) 37 :: Ent.sv b p l.length c :: Ent.cd l.length p (cdF l) :: X)) (fun j => ([fun v => v = Value.agg (sqs (N : Int) t), fun v => v = Value.pointer (some ⟨b, 0, none⟩), fun v => v = Value.int .i64 (N : Int), PlcQ N, fun v => v = Value.pointer (some ⟨b, 0, none⟩), fun v => v = Value.int .i64 (N : Int), PlcQ N, fun v => v = Value.pointer (some ⟨b, 0, none⟩), fun v => v = Value.int .i64 (N : Int), PlcQ N] : List (Value → Prop)).getD j fun _ => True) (by kernel_rfl) (by kernel_rfl) (by kernel_rfl) (fun j hj => match j, hj with | 0, _ => ⟨_, rfl⟩ | 1, _ => ⟨_, rfl⟩ | 2, _ => ⟨_, rfl⟩ | 3, _ => ⟨_, idTo N, rfl, HID.out⟩ | 4, _ => ⟨_, rfl⟩ | 5, _ => ⟨_, rfl⟩ | 6, _ => ⟨_, idTo N, rfl, HID.out⟩ | 7, _ => ⟨_, rfl⟩ | 8, _ => ⟨_, rfl⟩ | 9, _ => ⟨_, idTo N, rfl, HID.out⟩ | j + 10, h => absurd h (by omega)) M.drew ?_; (simp only [List.take_succ_cons, List.take_zero, List.drop_succ_cons, List.drop_zero]); clear M; (try clear C); refine wpU_cons (by intro w2 M; have C := M.ruleAll; simp only [Go.Proofs.Ythdldlpflieeoaa.ruleAll] at C; refine yield_walk (ops := #[]) (by exact rfl) (by exact rfl) (by exact Nat.le_of_ble_eq_true rfl) ?_; go_wp2_with (first | ((with_reducible apply wpM_lda' M 0 37 0 (sqs (N : Int) t)); rfl; rfl; rfl; exact ⟨rfl, inf_sqs.trans (congrArg some (sqs_size ..).symm), _, und_sqs, rfl⟩; exact whole_of rfl)); all_goals (first | done | exact ⟨rfl, M⟩ | exact M)) ?_; rintro _ rfl; (simp only [Act.put, List.setIfInBounds_toArray, List.set_cons_succ, List.set_cons_zero]); refine wpU_cons (by intro w2 M; have C := M.ruleAll; simp only [Go.Proofs.Ythdldlpflieeoaa.ruleAll] at C; refine yield_walk (ops := #[]) (by exact rfl) (by exact rfl) (by exact Nat.le_of_ble_eq_true rfl) ?_; go_wp2; all_goals (first | done | exact ⟨rfl, M⟩ | exact M)) ?_; rintro _ rfl; (simp only [Act.put, List.setIfInBounds_toArray, List.set_cons_succ, List.set_cons_zero]); refine wpU_cons (by intro w2 M; have C := M.ruleAll; simp only [Go.Proofs.Ythdldlpflieeoaa.ruleAll] at C; refine yield_walk (ops := #[]) (by exact rfl) (by exact rfl) (by exact Nat.le_of_ble_eq_true rfl) ?_; go_wp2; all_goals (first | done | exact ⟨rfl, M⟩ | exact M)) ?_; rintro _ rfl; (simp only [Act.put, List.setIfInBounds_toArray, List.set_cons_succ, List.set_cons_zero]); refine wpU_cons (by intro w2 M; have C := M.ruleAll; simp only [Go.Proofs.Ythdldlpflieeoaa.ruleAll] at C; refine yield_walk (ops := #[]) (by exact rfl) (by exact rfl) (by exact Nat.le_of_ble_eq_true rfl) ?_; go_wp2_with (first | (go_at_call 133; ((with_reducible refine ((HPL.out N hN0 hN1).at M 2 3 hbb rfl rfl rfl).mono ?_); rintro e w3 ⟨_, rfl, ⟨f, rfl, hf⟩, M9⟩; clear M; (try clear C); have M := M9; clear M9; have C := M.ruleAll; simp only [Go.Proofs.Ythdldlpflieeoaa.ruleAll] at C))); all_goals (first | done | exact ⟨_, rfl, hf⟩ | exact M)) ?_; rintro _ ⟨f1, rfl, hf1⟩; (simp only [Act.put, List.setIfInBounds_toArray, List.set_cons_succ, List.set_cons_zero]); refine wpU_cons (by intro w2 M; have C := M.ruleAll; simp only [Go.Proofs.Ythdldlpflieeoaa.ruleAll] at C; refine yield_walk (ops := #[]) (by exact rfl) (by exact rfl) (by exact Nat.le_of_ble_eq_true rfl) ?_; go_wp2; all_goals (first | done | exact ⟨rfl, M⟩ | exact M)) ?_; rintro _ rfl; (simp only [Act.put, List.setIfInBounds_toArray, List.set_cons_succ, List.set_cons_zero]); refine wpU_cons (by intro w2 M; have C := M.ruleAll; simp only [Go.Proofs.Ythdldlpflieeoaa.ruleAll] at C; refine yield_walk (ops := #[]) (by exact rfl) (by exact rfl) (by exact Nat.le_of_ble_eq_true rfl) ?_; go_wp2; all_goals (first | done | exact ⟨rfl, M⟩ | exact M)) ?_; rintro _ rfl; (simp only [Act.put, List.setIfInBounds_toArray, List.set_cons_succ, List.set_cons_zero]); refine wpU_cons (by intro w2 M; have C := M.ruleAll; simp only [Go.Proofs.Ythdldlpflieeoaa.ruleAll] at C; refine yield_walk (ops := #[]) (by exact rfl) (by exact rfl) (by exact Nat.le_of_ble_eq_true rfl) ?_; go_wp2_with (first | (go_at_call 133; ((with_reducible refine ((HPL.out N hN0 hN1).at M 2 3 hbb rfl rfl rfl).mono ?_); rintro e w3 ⟨_, rfl, ⟨f, rfl, hf⟩, M9⟩; clear M; (try clear C); have M := M9; clear M9; have C := M.ruleAll; simp only [Go.Proofs.Ythdldlpflieeoaa.ruleAll] at C))); all_goals (first | done | exact ⟨_, rfl, hf⟩ | exact M)) ?_; rintro _ ⟨f2, rfl, hf2⟩; (simp only [Act.put, List.setIfInBounds_toArray, List.set_cons_succ, List.set_cons_zero]); refine wpU_cons (by intro w2 M; have C := M.ruleAll; simp only [Go.Proofs.Ythdldlpflieeoaa.ruleAll] at C; refine yield_walk (ops := #[]) (by exact rfl) (by exact rfl) (by exact Nat.le_of_ble_eq_true rfl) ?_; go_wp2; all_goals (first | done | exact ⟨rfl, M⟩ | exact M)) ?_; rintro _ rfl; (simp only [Act.put, List.setIfInBounds_toArray, List.set_cons_succ, List.set_cons_zero]); refine wpU_cons (by intro w2 M; have C := M.ruleAll; simp only [Go.Proofs.Ythdldlpflieeoaa.ruleAll] at C; refine yield_walk (ops := #[]) (by exact rfl) (by exact rfl) (by exact Nat.le_of_ble_eq_true rfl) ?_; go_wp2; all_goals (first | done | exact ⟨rfl, M⟩ | exact M)) ?_; rintro _ rfl; (simp only [Act.put, List.setIfInBounds_toArray, List.set_cons_succ, List.set_cons_zero]); refine wpU_cons (by intro w2 M; have C := M.ruleAll; simp only [Go.Proofs.Ythdldlpflieeoaa.ruleAll] at C; refine yield_walk (ops := #[]) (by exact rfl) (by exact rfl) (by exact Nat.le_of_ble_eq_true rfl) ?_; go_wp2_with (first | (go_at_call 133; ((with_reducible refine ((HPL.out N hN0 hN1).at M 2 3 hbb rfl rfl rfl).mono ?_); rintro e w3 ⟨_, rfl, ⟨f, rfl, hf⟩, M9⟩; clear M; (try clear C); have M := M9; clear M9; have C := M.ruleAll; simp only [Go.Proofs.Ythdldlpflieeoaa.ruleAll] at C))); all_goals (first | done | exact ⟨_, rfl, hf⟩ | exact M)) ?_; rintro _ ⟨f3, rfl, hf3⟩; (simp only [Act.put, List.setIfInBounds_toArray, List.set_cons_succ, List.set_cons_zero]); refine wpU_nil ?_; intro w2 M; have C := M.ruleAll; simp only [Go.Proofs.Ythdldlpflieeoaa.ruleAll] at C
        go_wp2_with (first | (go_at_call 203; ((with_reducible refine (HMV.out HS.out hf1 hf2 hf3 _).mono ?_); rintro e w1 ⟨_, rfl, ⟨v, rfl, hv⟩, hb⟩; have hsz := M.size; (try (have G9 := G.later hb; clear G; have G := G9; clear G9)); have M9 := M.later hb; clear M; (try clear C); have M := M9; clear M9; have C := M.ruleAll; simp only [Go.Proofs.Ythdldlpflieeoaa.ruleAll] at C)) | ((with_reducible apply wpM_sta' M 0 37 (sqs (N : Int) v)); rfl; rfl; rfl; rfl; (first | exact .inl (by assumption) | exact .inr rfl | exact .inr (by assumption)); exact ⟨rfl, inf_sqs.trans (congrArg some (sqs_size ..).symm), flat_sqs _ _⟩; (simp only [entCells, List.getElem?_cons_zero, List.getElem?_cons_succ, sqs_size, sqs_size]); clear M; (try clear C); intro w9 M; simp only [List.set_cons_zero, List.set_cons_succ, entBlk, entT, List.getElem?_cons_zero, List.getElem?_cons_succ] at M; have C := M.ruleAll; simp only [Go.Proofs.Ythdldlpflieeoaa.ruleAll] at C) | ((with_reducible apply wpM_lda' M 0 37 0 (sqs (N : Int) v)); rfl; rfl; rfl; exact ⟨rfl, inf_sqs.trans (congrArg some (sqs_size ..).symm), _, und_sqs, rfl⟩; exact whole_of rfl) | (go_at_call 285; ((with_reducible refine (HOR.out hv _).mono ?_); rintro e w1 ⟨_, rfl, ⟨u, rfl, hu⟩, hb⟩; have hsz := M.size; (try (have G9 := G.later hb; clear G; have G := G9; clear G9)); have M9 := M.later hb; clear M; (try clear C); have M := M9; clear M9; have C := M.ruleAll; simp only [Go.Proofs.Ythdldlpflieeoaa.ruleAll] at C)) | ((with_reducible apply wpM_sta' M 1 37 (sqs (N : Int) u)); rfl; rfl; rfl; rfl; (first | exact .inl (by assumption) | exact .inr rfl | exact .inr (by assumption)); exact ⟨rfl, inf_sqs.trans (congrArg some (sqs_size ..).symm), flat_sqs _ _⟩; (simp only [entCells, List.getElem?_cons_zero, List.getElem?_cons_succ, sqs_size, sqs_size]); clear M; (try clear C); intro w9 M; simp only [List.set_cons_zero, List.set_cons_succ, entBlk, entT, List.getElem?_cons_zero, List.getElem?_cons_succ] at M; have C := M.ruleAll; simp only [Go.Proofs.Ythdldlpflieeoaa.ruleAll] at C))
        refine bodyPost_ret (v := .agg (sqs (N : Int) u)) (by exact results_part rfl _ _ _ _ _ _ rfl und_sqs rfl inf_sqs (cells_of_blk0 (M.box 1 rfl))) rfl ?_
        exact ⟨_, rfl, ⟨N, u, rfl, hu⟩, (M.drop 0).drop 0⟩
      · have hx0' : ((x : Int) == 0) = false := by simp; omega
        go_wp2_with (first | ((with_reducible apply wpM_lda' M 0 37 0 (sqs (N : Int) t)); rfl; rfl; rfl; exact ⟨rfl, inf_sqs.trans (congrArg some (sqs_size ..).symm), _, und_sqs, rfl⟩; exact whole_of rfl) | (go_at_call 285; ((with_reducible refine (HOR.out HS.out _).mono ?_); rintro e w1 ⟨_, rfl, ⟨u, rfl, hu⟩, hb⟩; have hsz := M.size; (try (have G9 := G.later hb; clear G; have G := G9; clear G9)); have M9 := M.later hb; clear M; (try clear C); have M := M9; clear M9; have C := M.ruleAll; simp only [Go.Proofs.Ythdldlpflieeoaa.ruleAll] at C)) | ((with_reducible apply wpM_sta' M 1 37 (sqs (N : Int) u)); rfl; rfl; rfl; rfl; (first | exact .inl (by assumption) | exact .inr rfl | exact .inr (by assumption)); exact ⟨rfl, inf_sqs.trans (congrArg some (sqs_size ..).symm), flat_sqs _ _⟩; (simp only [entCells, List.getElem?_cons_zero, List.getElem?_cons_succ, sqs_size, sqs_size]); clear M; (try clear C); intro w9 M; simp only [List.set_cons_zero, List.set_cons_succ, entBlk, entT, List.getElem?_cons_zero, List.getElem?_cons_succ] at M; have C := M.ruleAll; simp only [Go.Proofs.Ythdldlpflieeoaa.ruleAll] at C))
        refine bodyPost_ret (v := .agg (sqs (N : Int) u)) (by exact results_part rfl _ _ _ _ _ _ rfl und_sqs rfl inf_sqs (cells_of_blk0 (M.box 1 rfl))) rfl ?_
        exact ⟨_, rfl, ⟨N, u, rfl, hu⟩, (M.drop 0).drop 0⟩
end Go.Proofs.Ythdldlpflieeoaa

/- Drawn squares, broken ones, and the source of a code: contracts. -/
namespace Go.Proofs.Ythdldlpflieeoaa
set_option linter.unusedSimpArgs false
set_option linter.unusedVariables false
open Go Go.RowKit

set_option maxRecDepth 100000 in
set_option maxHeartbeats 4000000 in
theorem drawSquare_dc (l : List Nat) (hb : Byts l) (hl : l.length ≤ 4096) (b c : Nat) (p : Option Addr) : DrawC 243 #[.pointer (some ⟨b, 0, none⟩)] l b p c KnQ := fun w0 w X hbb M => by
  have HX := Hid2.mk (fun n => next_dc l hb hl b c p n)
  have HK := Hid2.mk (draw_dc l hb hl b c p)
  have HPL := Hid2.mk (fun N h0 h1 => places_dc l hb hl b c p N h0 h1)
  have HMV := Hid2.mk (@mov_any)
  clear hb hl
  have C := M.ruleAll; simp only [Go.Proofs.Ythdldlpflieeoaa.ruleAll] at C
  go_enter Try.func243, Try.ntmps243
  go_wp2_with (first | ((fail_if_success have := h_b2); ((with_reducible apply wpM_alloc' M 37 (sqs 0 fun _ _ => 0)); rfl; exact ⟨rfl, _, zero_sqs _, rfl⟩; clear M; (try clear C); intro b2 w9 h_b2 M; have C := M.ruleAll; simp only [Go.Proofs.Ythdldlpflieeoaa.ruleAll] at C)) | ((with_reducible apply wpM_alloc' M 37 (sqs 0 fun _ _ => 0)); rfl; exact ⟨rfl, _, zero_sqs _, rfl⟩; clear M; (try clear C); intro b3 w9 h_b3 M; have C := M.ruleAll; simp only [Go.Proofs.Ythdldlpflieeoaa.ruleAll] at C) | (go_at_call 248; ((with_reducible refine (HK.out.at M 1 2 hbb rfl rfl rfl).mono ?_); rintro e w2 ⟨_, rfl, ⟨N, t, rfl, hs⟩, M9⟩; clear M; (try clear C); have M := M9; clear M9; have C := M.ruleAll; simp only [Go.Proofs.Ythdldlpflieeoaa.ruleAll] at C; have so := sqs_order (N : Int) t)) | ((with_reducible apply wpM_sta' M 0 37 (sqs (N : Int) t)); rfl; rfl; rfl; rfl; (first | exact .inl (by assumption) | exact .inr rfl | exact .inr (by assumption)); exact ⟨rfl, inf_sqs.trans (congrArg some (sqs_size ..).symm), flat_sqs _ _⟩; (simp only [entCells, List.getElem?_cons_zero, List.getElem?_cons_succ, sqs_size, sqs_size]); clear M; (try clear C); intro w9 M; simp only [List.set_cons_zero, List.set_cons_succ, entBlk, entT, List.getElem?_cons_zero, List.getElem?_cons_succ] at M; have C := M.ruleAll; simp only [Go.Proofs.Ythdldlpflieeoaa.ruleAll] at C) | (go_at_call 132; fail))
  have hN0 : 1 ≤ N := by have := hs.lo; omega
  have hN1 : N ≤ 10 := by have := hs.hi; omega
  have HID := Hid2.mk (idTo_is hN0 hN1)
  have HS := Hid2.mk hs
  clear hs
  (with_reducible refine ((HX.out 3).at M 2 3 hbb rfl rfl rfl).mono ?_); rintro e w4 ⟨_, rfl, ⟨x, rfl, hx⟩, M9⟩; clear M; (try clear C); have M := M9; clear M9; have C := M.ruleAll; simp only [Go.Proofs.Ythdldlpflieeoaa.ruleAll] at C
  by_cases hx0 : x = 0
  · subst hx0
    go_wp2_with (first | ((with_reducible apply wpM_lda' M 0 37 0 (sqs (N : Int) t)); rfl; rfl; rfl; exact ⟨rfl, inf_sqs.trans (congrArg some (sqs_size ..).symm), _, und_sqs, rfl⟩; exact whole_of rfl) | ((with_reducible apply wpM_sta' M 1 37 (sqs (N : Int) t)); rfl; rfl; rfl; rfl; (first | exact .inl (by assumption) | exact .inr rfl | exact .inr (by assumption)); exact ⟨rfl, inf_sqs.trans (congrArg some (sqs_size ..).symm), flat_sqs _ _⟩; (simp only [entCells, List.getElem?_cons_zero, List.getElem?_cons_succ, sqs_size, sqs_size]); clear M; (try clear C); intro w9 M; simp only [List.set_cons_zero, List.set_cons_succ, entBlk, entT, List.getElem?_cons_zero, List.getElem?_cons_succ] at M; have C := M.ruleAll; simp only [Go.Proofs.Ythdldlpflieeoaa.ruleAll] at C))
    refine bodyPost_ret (v := .agg (sqs (N : Int) t)) (by exact results_part rfl _ _ _ _ _ _ rfl und_sqs rfl inf_sqs (cells_of_blk0 (M.box 1 rfl))) rfl ?_
    exact ⟨_, rfl, ⟨N, t, rfl, HS.out⟩, (M.drop 0).drop 0⟩
  · have hx0' : ((x : Int) == 0) = false := by simp; omega
    go_wp2
    refine wp_region_calm 10 (fun w' => Mm no w0 w' (.box b3 (sqs (N : Int) t) 37 :: .box b2 (sqs 0 fun _ _ => 0) 37 :: Ent.sv b p l.length c :: Ent.cd l.length p (cdF l) :: X)) (fun j => ([fun v => v = Value.agg (sqs (N : Int) t), fun v => v = Value.pointer (some ⟨b, 0, none⟩), fun v => v = Value.int .i64 (N : Int), PlcQ N, fun v => v = Value.pointer (some ⟨b, 0, none⟩), fun v => v = Value.int .i64 (N : Int), PlcQ N, fun v => v = Value.pointer (some ⟨b, 0, none⟩), fun v => v = Value.int .i64 (N : Int), PlcQ N] : List (Value → Prop)).getD j fun _ => True) (by kernel_rfl) (by kernel_rfl) (by kernel_rfl) (fun j hj => match j, hj with | 0, _ => ⟨_, rfl⟩ | 1, _ => ⟨_, rfl⟩ | 2, _ => ⟨_, rfl⟩ | 3, _ => ⟨_, idTo N, rfl, HID.out⟩ | 4, _ => ⟨_, rfl⟩ | 5, _ => ⟨_, rfl⟩ | 6, _ => ⟨_, idTo N, rfl, HID.out⟩ | 7, _ => ⟨_, rfl⟩ | 8, _ => ⟨_, rfl⟩ | 9, _ => ⟨_, idTo N, rfl, HID.out⟩ | j + 10, h => absurd h (by omega)) M.drew ?_; (simp only [List.take_succ_cons, List.take_zero, List.drop_succ_cons, List.drop_zero]); clear M; (try clear C); refine wpU_cons (by intro w2 M; have C := M.ruleAll; simp only [Go.Proofs.Ythdldlpflieeoaa.ruleAll] at C; refine yield_walk (ops := #[]) (by exact rfl) (by exact rfl) (by exact Nat.le_of_ble_eq_true rfl) ?_; go_wp2_with (first | ((with_reducible apply wpM_lda' M 0 37 0 (sqs (N : Int) t)); rfl; rfl; rfl; exact ⟨rfl, inf_sqs.trans (congrArg some (sqs_size ..).symm), _, und_sqs, rfl⟩; exact whole_of rfl)); all_goals (first | done | exact ⟨rfl, M⟩ | exact M)) ?_; rintro _ rfl; (simp only [Act.put, List.setIfInBounds_toArray, List.set_cons_succ, List.set_cons_zero]); refine wpU_cons (by intro w2 M; have C := M.ruleAll; simp only [Go.Proofs.Ythdldlpflieeoaa.ruleAll] at C; refine yield_walk (ops := #[]) (by exact rfl) (by exact rfl) (by exact Nat.le_of_ble_eq_true rfl) ?_; go_wp2; all_goals (first | done | exact ⟨rfl, M⟩ | exact M)) ?_; rintro _ rfl; (simp only [Act.put, List.setIfInBounds_toArray, List.set_cons_succ, List.set_cons_zero]); refine wpU_cons (by intro w2 M; have C := M.ruleAll; simp only [Go.Proofs.Ythdldlpflieeoaa.ruleAll] at C; refine yield_walk (ops := #[]) (by exact rfl) (by exact rfl) (by exact Nat.le_of_ble_eq_true rfl) ?_; go_wp2; all_goals (first | done | exact ⟨rfl, M⟩ | exact M)) ?_; rintro _ rfl; (simp only [Act.put, List.setIfInBounds_toArray, List.set_cons_succ, List.set_cons_zero]); refine wpU_cons (by intro w2 M; have C := M.ruleAll; simp only [Go.Proofs.Ythdldlpflieeoaa.ruleAll] at C; refine yield_walk (ops := #[]) (by exact rfl) (by exact rfl) (by exact Nat.le_of_ble_eq_true rfl) ?_; go_wp2_with (first | (go_at_call 133; ((with_reducible refine ((HPL.out N hN0 hN1).at M 2 3 hbb rfl rfl rfl).mono ?_); rintro e w3 ⟨_, rfl, ⟨f, rfl, hf⟩, M9⟩; clear M; (try clear C); have M := M9; clear M9; have C := M.ruleAll; simp only [Go.Proofs.Ythdldlpflieeoaa.ruleAll] at C))); all_goals (first | done | exact ⟨_, rfl, hf⟩ | exact M)) ?_; rintro _ ⟨f1, rfl, hf1⟩; (simp only [Act.put, List.setIfInBounds_toArray, List.set_cons_succ, List.set_cons_zero]); refine wpU_cons (by intro w2 M; have C := M.ruleAll; simp only [Go.Proofs.Ythdldlpflieeoaa.ruleAll] at C; refine yield_walk (ops := #[]) (by exact rfl) (by exact rfl) (by exact Nat.le_of_ble_eq_true rfl) ?_; go_wp2; all_goals (first | done | exact ⟨rfl, M⟩ | exact M)) ?_; rintro _ rfl; (simp only [Act.put, List.setIfInBounds_toArray, List.set_cons_succ, List.set_cons_zero]); refine wpU_cons (by intro w2 M; have C := M.ruleAll; simp only [Go.Proofs.Ythdldlpflieeoaa.ruleAll] at C; refine yield_walk (ops := #[]) (by exact rfl) (by exact rfl) (by exact Nat.le_of_ble_eq_true rfl) ?_; go_wp2; all_goals (first | done | exact ⟨rfl, M⟩ | exact M)) ?_; rintro _ rfl; (simp only [Act.put, List.setIfInBounds_toArray, List.set_cons_succ, List.set_cons_zero]); refine wpU_cons (by intro w2 M; have C := M.ruleAll; simp only [Go.Proofs.Ythdldlpflieeoaa.ruleAll] at C; refine yield_walk (ops := #[]) (by exact rfl) (by exact rfl) (by exact Nat.le_of_ble_eq_true rfl) ?_; go_wp2_with (first | (go_at_call 133; ((with_reducible refine ((HPL.out N hN0 hN1).at M 2 3 hbb rfl rfl rfl).mono ?_); rintro e w3 ⟨_, rfl, ⟨f, rfl, hf⟩, M9⟩; clear M; (try clear C); have M := M9; clear M9; have C := M.ruleAll; simp only [Go.Proofs.Ythdldlpflieeoaa.ruleAll] at C))); all_goals (first | done | exact ⟨_, rfl, hf⟩ | exact M)) ?_; rintro _ ⟨f2, rfl, hf2⟩; (simp only [Act.put, List.setIfInBounds_toArray, List.set_cons_succ, List.set_cons_zero]); refine wpU_cons (by intro w2 M; have C := M.ruleAll; simp only [Go.Proofs.Ythdldlpflieeoaa.ruleAll] at C; refine yield_walk (ops := #[]) (by exact rfl) (by exact rfl) (by exact Nat.le_of_ble_eq_true rfl) ?_; go_wp2; all_goals (first | done | exact ⟨rfl, M⟩ | exact M)) ?_; rintro _ rfl; (simp only [Act.put, List.setIfInBounds_toArray, List.set_cons_succ, List.set_cons_zero]); refine wpU_cons (by intro w2 M; have C := M.ruleAll; simp only [Go.Proofs.Ythdldlpflieeoaa.ruleAll] at C; refine yield_walk (ops := #[]) (by exact rfl) (by exact rfl) (by exact Nat.le_of_ble_eq_true rfl) ?_; go_wp2; all_goals (first | done | exact ⟨rfl, M⟩ | exact M)) ?_; rintro _ rfl; (simp only [Act.put, List.setIfInBounds_toArray, List.set_cons_succ, List.set_cons_zero]); refine wpU_cons (by intro w2 M; have C := M.ruleAll; simp only [Go.Proofs.Ythdldlpflieeoaa.ruleAll] at C; refine yield_walk (ops := #[]) (by exact rfl) (by exact rfl) (by exact Nat.le_of_ble_eq_true rfl) ?_; go_wp2_with (first | (go_at_call 133; ((with_reducible refine ((HPL.out N hN0 hN1).at M 2 3 hbb rfl rfl rfl).mono ?_); rintro e w3 ⟨_, rfl, ⟨f, rfl, hf⟩, M9⟩; clear M; (try clear C); have M := M9; clear M9; have C := M.ruleAll; simp only [Go.Proofs.Ythdldlpflieeoaa.ruleAll] at C))); all_goals (first | done | exact ⟨_, rfl, hf⟩ | exact M)) ?_; rintro _ ⟨f3, rfl, hf3⟩; (simp only [Act.put, List.setIfInBounds_toArray, List.set_cons_succ, List.set_cons_zero]); refine wpU_nil ?_; intro w2 M; have C := M.ruleAll; simp only [Go.Proofs.Ythdldlpflieeoaa.ruleAll] at C
    go_wp2_with (first | (go_at_call 203; ((with_reducible refine (HMV.out HS.out hf1 hf2 hf3 _).mono ?_); rintro e w1 ⟨_, rfl, ⟨v, rfl, hv⟩, hb⟩; have hsz := M.size; (try (have G9 := G.later hb; clear G; have G := G9; clear G9)); have M9 := M.later hb; clear M; (try clear C); have M := M9; clear M9; have C := M.ruleAll; simp only [Go.Proofs.Ythdldlpflieeoaa.ruleAll] at C)) | ((with_reducible apply wpM_sta' M 1 37 (sqs (N : Int) v)); rfl; rfl; rfl; rfl; (first | exact .inl (by assumption) | exact .inr rfl | exact .inr (by assumption)); exact ⟨rfl, inf_sqs.trans (congrArg some (sqs_size ..).symm), flat_sqs _ _⟩; (simp only [entCells, List.getElem?_cons_zero, List.getElem?_cons_succ, sqs_size, sqs_size]); clear M; (try clear C); intro w9 M; simp only [List.set_cons_zero, List.set_cons_succ, entBlk, entT, List.getElem?_cons_zero, List.getElem?_cons_succ] at M; have C := M.ruleAll; simp only [Go.Proofs.Ythdldlpflieeoaa.ruleAll] at C))
    refine bodyPost_ret (v := .agg (sqs (N : Int) v)) (by exact results_part rfl _ _ _ _ _ _ rfl und_sqs rfl inf_sqs (cells_of_blk0 (M.box 1 rfl))) rfl ?_
    exact ⟨_, rfl, ⟨N, v, rfl, hv⟩, (M.drop 0).drop 0⟩
/-- What looks like a square. -/
def SpQ (v : Value) : Prop := ∃ (n : Int) (t : Nat → Nat → Nat), v = .agg (sqs n t) ∧ -1 ≤ n ∧ n ≤ 11 ∧ Byt2 t
theorem IsSq.byt {N : Nat} {t : Nat → Nat → Nat} (h : IsSq (N : Int) t) : Byt2 t := ⟨fun x y hx hy => by
  by_cases hc : x < N ∧ y < N
  · have := (Lat.of_sq h).lt x y hc.1 hc.2; have := h.hi; omega
  · rw [sq_zero h hx hy (by omega)]; decide⟩
theorem Byt2.put {t : Nat → Nat → Nat} (h : Byt2 t) {a b v : Nat} (hv : v < 256) : Byt2 (fun i j => if i = a ∧ j = b then v else t i j) := ⟨fun x y hx hy => by
  show (if x = a ∧ y = b then v else t x y) < 256
  split
  · exact hv
  · exact h.at_ x y hx hy⟩
set_option maxRecDepth 100000 in
set_option maxHeartbeats 4000000 in
theorem broken_dc (l : List Nat) (hb : Byts l) (hl : l.length ≤ 4096) (b c : Nat) (p : Option Addr) (N : Nat) (t : Nat → Nat → Nat) (hs : IsSq (N : Int) t) : DrawC 143 #[.pointer (some ⟨b, 0, none⟩), .agg (sqs (N : Int) t)] l b p c SpQ := fun w0 w X hbb M => by
  have HX := Hid2.mk (fun n => next_dc l hb hl b c p n)
  have HP := Hid2.mk (@pick_at l hb hl b c p)
  have hN0 : 1 ≤ N := by have := hs.lo; omega
  have hN1 : N ≤ 10 := by have := hs.hi; omega
  have h00 : t 0 0 < 256 := hs.byt.at_ 0 0 (by omega) (by omega)
  have h001 : t 0 0 < 10 := by have := (Lat.of_sq hs).lt 0 0 (by omega) (by omega); omega
  have HB := Hid2.mk hs.byt
  have so := sqs_order (N : Int) t
  have c1 := sqs_get (n := (N : Int)) (t := t) (x := 0) (y := 0) (by omega) (by omega)
  have HT1 := Hid2.mk (show (sqs (N : Int) t).setIfInBounds 1 (.int .u8 ((t 0 0 : Nat) + 1 : Int)) = sqs (N : Int) (fun i j => if i = 0 ∧ j = 0 then t 0 0 + 1 else t i j) from sqs_set (n := (N : Int)) (t := t) (x := 0) (y := 0) (v := t 0 0 + 1) (by omega) (by omega))
  have HT2 := Hid2.mk (fun v : Nat => (sqs_set (n := (N : Int)) (t := t) (x := 9) (y := 9) (v := v) (by omega) (by omega)))
  clear hb hl hs
  have C := M.ruleAll; simp only [Go.Proofs.Ythdldlpflieeoaa.ruleAll] at C
  go_enter Try.func143, Try.ntmps143
  go_wp2_with (first | ((with_reducible apply wpM_box' M 37 (sqs (N : Int) t)); rfl; exact ⟨rfl, rfl⟩; clear M; (try clear C); intro b3 w9 h_b3 M; have C := M.ruleAll; simp only [Go.Proofs.Ythdldlpflieeoaa.ruleAll] at C) | ((with_reducible apply wpM_alloc' M 37 (sqs 0 fun _ _ => 0)); rfl; exact ⟨rfl, _, zero_sqs _, rfl⟩; clear M; (try clear C); intro b4 w9 h_b4 M; have C := M.ruleAll; simp only [Go.Proofs.Ythdldlpflieeoaa.ruleAll] at C) | (go_at_call 132; fail))
  (with_reducible refine ((HX.out 40).at M 2 3 hbb rfl rfl rfl).mono ?_); rintro e w4 ⟨_, rfl, ⟨x, rfl, hx⟩, M9⟩; clear M; (try clear C); have M := M9; clear M9; have C := M.ruleAll; simp only [Go.Proofs.Ythdldlpflieeoaa.ruleAll] at C
  clear hx
  by_cases hx0 : x = 0
  · subst hx0
    go_wp2_with (first | ((with_reducible apply wpM_st' M 1 5 (1) (sqs (N : Int) (fun i j => if i = 0 ∧ j = 0 then t 0 0 + 1 else t i j))); rfl; rfl; rfl; (first | exact .inl (by assumption) | exact .inr rfl | exact .inr (by assumption)); exact ⟨rfl, rfl, by kernel_rfl⟩; (exact Nat.lt_of_lt_of_eq (by omega) (sqs_size _ _).symm); exact HT1.out; clear M; (try clear C); intro w9 M; simp only [List.set_cons_zero, List.set_cons_succ, entBlk, entT, List.getElem?_cons_zero, List.getElem?_cons_succ] at M; have C := M.ruleAll; simp only [Go.Proofs.Ythdldlpflieeoaa.ruleAll] at C) | ((with_reducible apply wpM_lda' M 1 37 0 (sqs (N : Int) (fun i j => if i = 0 ∧ j = 0 then t 0 0 + 1 else t i j))); rfl; rfl; rfl; exact ⟨rfl, inf_sqs.trans (congrArg some (sqs_size ..).symm), _, und_sqs, rfl⟩; exact whole_of rfl) | ((with_reducible apply wpM_sta' M 0 37 (sqs (N : Int) (fun i j => if i = 0 ∧ j = 0 then t 0 0 + 1 else t i j))); rfl; rfl; rfl; rfl; (first | exact .inl (by assumption) | exact .inr rfl | exact .inr (by assumption)); exact ⟨rfl, inf_sqs.trans (congrArg some (sqs_size ..).symm), flat_sqs _ _⟩; (simp only [entCells, List.getElem?_cons_zero, List.getElem?_cons_succ, sqs_size, sqs_size]); clear M; (try clear C); intro w9 M; simp only [List.set_cons_zero, List.set_cons_succ, entBlk, entT, List.getElem?_cons_zero, List.getElem?_cons_succ] at M; have C := M.ruleAll; simp only [Go.Proofs.Ythdldlpflieeoaa.ruleAll] at C))
    refine bodyPost_ret (v := .agg (sqs (N : Int) (fun i j => if i = 0 ∧ j = 0 then t 0 0 + 1 else t i j))) (by exact results_part rfl _ _ _ _ _ _ rfl und_sqs rfl inf_sqs (cells_of_blk0 (M.box 0 rfl))) rfl ?_
    exact ⟨_, rfl, ⟨_, _, rfl, by omega, by omega, HB.out.put (by omega)⟩, (M.drop 0).drop 0⟩
  have hx0' : ((x : Int) == 0) = false := by simp; omega
  by_cases hx1 : x = 1
  · subst hx1
    go_wp2_with (first | ((with_reducible apply wpM_bsl' M 85 5 2 ([(0, .int .i64 0), (1, .int .i64 11), (2, .int .i64 (-1)), (3, .int .i64 ((N : Int) + 1)), (4, .int .i64 ((N : Int) - 1))]) (i64V [0, 11, -1, (N : Int) + 1, (N : Int) - 1])); rfl; rfl; rfl; exact bsl_i5 _ _ _ _ _; clear M; (try clear C); intro bp w9 h_bp M; have C := M.ruleAll; simp only [Go.Proofs.Ythdldlpflieeoaa.ruleAll] at C) | (go_at_call 145; ((refine (HP.out M 3 4 0 hbb (by decide) rfl rfl rfl (by simp) (by simp)).mono ?_); rintro e w9 ⟨z, rfl, hz, M9⟩; clear M; (try clear C); have M := M9; clear M9; simp only [List.mem_cons, List.not_mem_nil, or_false] at hz; have C := M.ruleAll; simp only [Go.Proofs.Ythdldlpflieeoaa.ruleAll] at C; have hz1 : -1 ≤ z ∧ z ≤ 11 := (by rcases hz with rfl | rfl | rfl | rfl | rfl <;> omega))) | ((with_reducible apply wpM_st' M 2 2 (0) (sqs z t)); rfl; rfl; rfl; (first | exact .inl (by assumption) | exact .inr rfl | exact .inr (by assumption)); exact ⟨rfl, rfl, by kernel_rfl⟩; (exact Nat.lt_of_lt_of_eq (by omega) (sqs_size _ _).symm); exact sqs_set_order _ _ _; clear M; (try clear C); intro w9 M; simp only [List.set_cons_zero, List.set_cons_succ, entBlk, entT, List.getElem?_cons_zero, List.getElem?_cons_succ] at M; have C := M.ruleAll; simp only [Go.Proofs.Ythdldlpflieeoaa.ruleAll] at C) | ((with_reducible apply wpM_lda' M 2 37 0 (sqs z t)); rfl; rfl; rfl; exact ⟨rfl, inf_sqs.trans (congrArg some (sqs_size ..).symm), _, und_sqs, rfl⟩; exact whole_of rfl) | ((with_reducible apply wpM_sta' M 1 37 (sqs z t)); rfl; rfl; rfl; rfl; (first | exact .inl (by assumption) | exact .inr rfl | exact .inr (by assumption)); exact ⟨rfl, inf_sqs.trans (congrArg some (sqs_size ..).symm), flat_sqs _ _⟩; (simp only [entCells, List.getElem?_cons_zero, List.getElem?_cons_succ, sqs_size, sqs_size]); clear M; (try clear C); intro w9 M; simp only [List.set_cons_zero, List.set_cons_succ, entBlk, entT, List.getElem?_cons_zero, List.getElem?_cons_succ] at M; have C := M.ruleAll; simp only [Go.Proofs.Ythdldlpflieeoaa.ruleAll] at C))
    refine bodyPost_ret (v := .agg (sqs z t)) (by exact results_part rfl _ _ _ _ _ _ rfl und_sqs rfl inf_sqs (cells_of_blk0 (M.box 1 rfl))) rfl ?_
    exact ⟨_, rfl, ⟨_, _, rfl, hz1.1, hz1.2, HB.out⟩, ((M.drop 0).drop 0).drop 0⟩
  have hx1' : ((x : Int) == 1) = false := by simp; omega
  by_cases hx2 : x = 2
  · subst hx2
    go_wp2_with (first | ((with_reducible apply wpM_bsl' M 85 2 2 ([(0, .int .i64 1), (1, .int .i64 255)]) (i64V [1, 255])); rfl; rfl; rfl; exact bsl_i2 _ _; clear M; (try clear C); intro bp w9 h_bp M; have C := M.ruleAll; simp only [Go.Proofs.Ythdldlpflieeoaa.ruleAll] at C) | (go_at_call 145; ((refine (HP.out M 3 4 0 hbb (by decide) rfl rfl rfl (by simp) (by simp)).mono ?_); rintro e w9 ⟨z, rfl, hz, M9⟩; clear M; (try clear C); have M := M9; clear M9; simp only [List.mem_cons, List.not_mem_nil, or_false] at hz; have C := M.ruleAll; simp only [Go.Proofs.Ythdldlpflieeoaa.ruleAll] at C; obtain ⟨v, rfl, hv⟩ : ∃ v : Nat, z = (v : Int) ∧ v < 256 := ⟨z.toNat, by rcases hz with rfl | rfl <;> rfl, by rcases hz with rfl | rfl <;> decide⟩)) | ((with_reducible apply wpM_st' M 2 5 (1 + 9 * 10 + 9) (sqs (N : Int) (fun i j => if i = 9 ∧ j = 9 then v else t i j))); rfl; rfl; rfl; (first | exact .inl (by assumption) | exact .inr rfl | exact .inr (by assumption)); exact ⟨rfl, rfl, by kernel_rfl⟩; (exact Nat.lt_of_lt_of_eq (by omega) (sqs_size _ _).symm); exact HT2.out v; clear M; (try clear C); intro w9 M; simp only [List.set_cons_zero, List.set_cons_succ, entBlk, entT, List.getElem?_cons_zero, List.getElem?_cons_succ] at M; have C := M.ruleAll; simp only [Go.Proofs.Ythdldlpflieeoaa.ruleAll] at C) | ((with_reducible apply wpM_lda' M 2 37 0 (sqs (N : Int) (fun i j => if i = 9 ∧ j = 9 then v else t i j))); rfl; rfl; rfl; exact ⟨rfl, inf_sqs.trans (congrArg some (sqs_size ..).symm), _, und_sqs, rfl⟩; exact whole_of rfl) | ((with_reducible apply wpM_sta' M 1 37 (sqs (N : Int) (fun i j => if i = 9 ∧ j = 9 then v else t i j))); rfl; rfl; rfl; rfl; (first | exact .inl (by assumption) | exact .inr rfl | exact .inr (by assumption)); exact ⟨rfl, inf_sqs.trans (congrArg some (sqs_size ..).symm), flat_sqs _ _⟩; (simp only [entCells, List.getElem?_cons_zero, List.getElem?_cons_succ, sqs_size, sqs_size]); clear M; (try clear C); intro w9 M; simp only [List.set_cons_zero, List.set_cons_succ, entBlk, entT, List.getElem?_cons_zero, List.getElem?_cons_succ] at M; have C := M.ruleAll; simp only [Go.Proofs.Ythdldlpflieeoaa.ruleAll] at C))
    refine bodyPost_ret (v := .agg (sqs (N : Int) (fun i j => if i = 9 ∧ j = 9 then v else t i j))) (by exact results_part rfl _ _ _ _ _ _ rfl und_sqs rfl inf_sqs (cells_of_blk0 (M.box 1 rfl))) rfl ?_
    exact ⟨_, rfl, ⟨_, _, rfl, by omega, by omega, HB.out.put hv⟩, ((M.drop 0).drop 0).drop 0⟩
  have hx2' : ((x : Int) == 2) = false := by simp; omega
  clear hx0 hx1 hx2
  go_wp2_with (first | ((with_reducible apply wpM_lda' M 1 37 0 (sqs (N : Int) t)); rfl; rfl; rfl; exact ⟨rfl, inf_sqs.trans (congrArg some (sqs_size ..).symm), _, und_sqs, rfl⟩; exact whole_of rfl) | ((with_reducible apply wpM_sta' M 0 37 (sqs (N : Int) t)); rfl; rfl; rfl; rfl; (first | exact .inl (by assumption) | exact .inr rfl | exact .inr (by assumption)); exact ⟨rfl, inf_sqs.trans (congrArg some (sqs_size ..).symm), flat_sqs _ _⟩; (simp only [entCells, List.getElem?_cons_zero, List.getElem?_cons_succ, sqs_size, sqs_size]); clear M; (try clear C); intro w9 M; simp only [List.set_cons_zero, List.set_cons_succ, entBlk, entT, List.getElem?_cons_zero, List.getElem?_cons_succ] at M; have C := M.ruleAll; simp only [Go.Proofs.Ythdldlpflieeoaa.ruleAll] at C))
  refine bodyPost_ret (v := .agg (sqs (N : Int) t)) (by exact results_part rfl _ _ _ _ _ _ rfl und_sqs rfl inf_sqs (cells_of_blk0 (M.box 0 rfl))) rfl ?_
  exact ⟨_, rfl, ⟨_, _, rfl, by omega, by omega, HB.out⟩, (M.drop 0).drop 0⟩
set_option maxRecDepth 100000 in
set_option maxHeartbeats 4000000 in
theorem spoil_dc (l : List Nat) (hb : Byts l) (hl : l.length ≤ 4096) (b c : Nat) (p : Option Addr) : DrawC 142 #[.pointer (some ⟨b, 0, none⟩)] l b p c SpQ := fun w0 w X hbb M => by
  have HX := Hid2.mk (fun n => next_dc l hb hl b c p n)
  have HK := Hid2.mk (draw_dc l hb hl b c p)
  have HS := Hid2.mk (drawSquare_dc l hb hl b c p)
  have HB := Hid2.mk (fun N t hs => broken_dc l hb hl b c p N t hs)
  clear hb hl
  have C := M.ruleAll; simp only [Go.Proofs.Ythdldlpflieeoaa.ruleAll] at C
  go_enter Try.func142, Try.ntmps142
  go_wp2_with (first | ((with_reducible apply wpM_alloc' M 37 (sqs 0 fun _ _ => 0)); rfl; exact ⟨rfl, _, zero_sqs _, rfl⟩; clear M; (try clear C); intro b2 w9 h_b2 M; have C := M.ruleAll; simp only [Go.Proofs.Ythdldlpflieeoaa.ruleAll] at C) | (go_at_call 132; fail))
  (with_reducible refine ((HX.out 2).at M 1 2 hbb rfl rfl rfl).mono ?_); rintro e w4 ⟨_, rfl, ⟨x, rfl, hx⟩, M9⟩; clear M; (try clear C); have M := M9; clear M9; have C := M.ruleAll; simp only [Go.Proofs.Ythdldlpflieeoaa.ruleAll] at C
  clear hx
  by_cases hx0 : x = 0
  · subst hx0
    go_wp2_with (first | (go_at_call 248; ((with_reducible refine (HK.out.at M 1 2 hbb rfl rfl rfl).mono ?_); rintro e w2 ⟨_, rfl, ⟨N, t, rfl, hs⟩, M9⟩; clear M; (try clear C); have M := M9; clear M9; have C := M.ruleAll; simp only [Go.Proofs.Ythdldlpflieeoaa.ruleAll] at C)) | (go_at_call 143; ((with_reducible refine ((HB.out N t hs).at M 1 2 hbb rfl rfl rfl).mono ?_); rintro e w2 ⟨_, rfl, ⟨n, u, rfl, h1, h2, h3⟩, M9⟩; clear M; (try clear C); have M := M9; clear M9; have C := M.ruleAll; simp only [Go.Proofs.Ythdldlpflieeoaa.ruleAll] at C)) | ((with_reducible apply wpM_sta' M 0 37 (sqs n u)); rfl; rfl; rfl; rfl; (first | exact .inl (by assumption) | exact .inr rfl | exact .inr (by assumption)); exact ⟨rfl, inf_sqs.trans (congrArg some (sqs_size ..).symm), flat_sqs _ _⟩; (simp only [entCells, List.getElem?_cons_zero, List.getElem?_cons_succ, sqs_size, sqs_size]); clear M; (try clear C); intro w9 M; simp only [List.set_cons_zero, List.set_cons_succ, entBlk, entT, List.getElem?_cons_zero, List.getElem?_cons_succ] at M; have C := M.ruleAll; simp only [Go.Proofs.Ythdldlpflieeoaa.ruleAll] at C))
    refine bodyPost_ret (v := .agg (sqs n u)) (by exact results_part rfl _ _ _ _ _ _ rfl und_sqs rfl inf_sqs (cells_of_blk0 (M.box 0 rfl))) rfl ?_
    exact ⟨_, rfl, ⟨_, _, rfl, h1, h2, h3⟩, M.drop 0⟩
  · have hx0' : ((x : Int) == 0) = false := by simp; omega
    go_wp2_with (first | (go_at_call 243; ((with_reducible refine (HS.out.at M 1 2 hbb rfl rfl rfl).mono ?_); rintro e w2 ⟨_, rfl, ⟨N, t, rfl, hs⟩, M9⟩; clear M; (try clear C); have M := M9; clear M9; have C := M.ruleAll; simp only [Go.Proofs.Ythdldlpflieeoaa.ruleAll] at C)) | (go_at_call 143; ((with_reducible refine ((HB.out N t hs).at M 1 2 hbb rfl rfl rfl).mono ?_); rintro e w2 ⟨_, rfl, ⟨n, u, rfl, h1, h2, h3⟩, M9⟩; clear M; (try clear C); have M := M9; clear M9; have C := M.ruleAll; simp only [Go.Proofs.Ythdldlpflieeoaa.ruleAll] at C)) | ((with_reducible apply wpM_sta' M 0 37 (sqs n u)); rfl; rfl; rfl; rfl; (first | exact .inl (by assumption) | exact .inr rfl | exact .inr (by assumption)); exact ⟨rfl, inf_sqs.trans (congrArg some (sqs_size ..).symm), flat_sqs _ _⟩; (simp only [entCells, List.getElem?_cons_zero, List.getElem?_cons_succ, sqs_size, sqs_size]); clear M; (try clear C); intro w9 M; simp only [List.set_cons_zero, List.set_cons_succ, entBlk, entT, List.getElem?_cons_zero, List.getElem?_cons_succ] at M; have C := M.ruleAll; simp only [Go.Proofs.Ythdldlpflieeoaa.ruleAll] at C))
    refine bodyPost_ret (v := .agg (sqs n u)) (by exact results_part rfl _ _ _ _ _ _ rfl und_sqs rfl inf_sqs (cells_of_blk0 (M.box 0 rfl))) rfl ?_
    exact ⟨_, rfl, ⟨_, _, rfl, h1, h2, h3⟩, M.drop 0⟩
end Go.Proofs.Ythdldlpflieeoaa

/- The reference's closing of a part: a contract. -/
namespace Go.Proofs.Ythdldlpflieeoaa
set_option linter.unusedSimpArgs false
set_option linter.unusedVariables false
open Go Go.RowKit

set_option maxRecDepth 100000 in
set_option maxHeartbeats 4000000 in
theorem l02Close_any (N : Nat) (t u : Nat → Nat → Nat) (h0 : 1 ≤ N) (h1 : N ≤ 10) (ht : ∀ x y : Nat, x < N → y < N → t x y < N) (hu : ∀ x y : Nat, x < N → y < N → u x y < N) :
    ∀ (K : Nat) (m : PM) (x y : Nat) (w : World), Va N m → x < N → y < N → um m.to N < K →
    Calls Try.prog 287 #[.agg (sqs (N : Int) t), .agg (sqs (N : Int) u), .agg (pms m), .int .i64 (x : Int), .int .i64 (y : Int)] w fun e w' =>
      e = .returned (.tuple #[.agg (pms (closeF N t u K m x y).1), .bool (closeF N t u K m x y).2]) ∧ Below w.heap.size w w' := by
  intro K
  induction K with
  | zero => exact fun _ _ _ _ _ _ _ h => absurd h (by omega)
  | succ K IH0 =>
    intro m x y w hv hx hy hK
    have IH := Hid2.mk IH0
    clear IH0
    have HT := Hid2.mk ht
    have HU := Hid2.mk hu
    clear ht hu
    have hz := zero_l2m
    have q1 := (((blk_new w (sqs (N : Int) t) 37 w.heap.size rfl).alloc (.cells (sqs (N : Int) u) 37)).alloc (.cells (pms m) 199)).alloc (.cells (pms ⟨fun _ => 0, fun _ => 0, 0⟩) 199)
    have q2 := ((blk_new (w.alloc (.cells (sqs (N : Int) t) 37)) (sqs (N : Int) u) 37 (w.heap.size + 1) (by simp)).alloc (.cells (pms m) 199)).alloc (.cells (pms ⟨fun _ => 0, fun _ => 0, 0⟩) 199)
    have q3 := (blk_new ((w.alloc (.cells (sqs (N : Int) t) 37)).alloc (.cells (sqs (N : Int) u) 37)) (pms m) 199 (w.heap.size + 1 + 1) (by simp)).alloc (.cells (pms ⟨fun _ => 0, fun _ => 0, 0⟩) 199)
    have q4 := blk_new (((w.alloc (.cells (sqs (N : Int) t) 37)).alloc (.cells (sqs (N : Int) u) 37)).alloc (.cells (pms m) 199)) (pms ⟨fun _ => 0, fun _ => 0, 0⟩) 199 (w.heap.size + 1 + 1 + 1) (by simp)
    have qB : Below w.heap.size w ((((w.alloc (.cells (sqs (N : Int) t) 37)).alloc (.cells (sqs (N : Int) u) 37)).alloc (.cells (pms m) 199)).alloc (.cells (pms ⟨fun _ => 0, fun _ => 0, 0⟩) 199)) := by
      repeat (first | exact Below.refl _ _ | (refine below_alloc ?_ _))
    have c1 := q3.cell _ _ (pms_to m (i := x) (by omega))
    have c2 := q3.cell _ _ (pms_used m (i := y) (by omega))
    have f1 := q3.free x
    by_cases hc : 0 ≤ m.to x ∨ 0 < m.used y
    · have hF : closeF N t u (K + 1) m x y = (m, decide (m.to x = y)) := by simp only [closeF]; rw [if_pos hc]
      rw [hF]
      clear IH hF
      by_cases hA : 0 ≤ m.to x
      · go_enter Try.func287, Try.ntmps287
        go_wp2
        clear hz
        apply wp_region_new1 7 _ (fun g w' => Below w.heap.size w w' ∧ blk w' (w.heap.size + 1 + 1) (pms m) 199 ∧ blk w' (w.heap.size + 1 + 1 + 1) (bif g.isEmpty then pms ⟨fun _ => 0, fun _ => 0, 0⟩ else pms m) 199) (by kernel_rfl) (by kernel_rfl) rfl rfl; (case hS => exact ⟨by exact qB.drew, q3.drew, q4.drew⟩); (case ht => simp only [List.take_succ_cons, List.take_zero]; repeat (first | exact wpTextG_nil | (apply wpTextG_cons; (intro g w2 hS; obtain ⟨hB2, d3, d4⟩ := hS; have k1 := d3.cell _ _ (pms_to m (i := x) (by omega)); go_wp2_with (first | (refine wpList_load_part rfl 199 _ rfl (w.heap.size + 1 + 1) (0) rfl (pms m) _ und_l2m rfl inf_l2m (cells_of_blk0 d3) ?_)); (first | exact ⟨rfl, rfl, hB2, d3, d4⟩)); rfl))); (case hA => intro w2 hS; obtain ⟨hB2, d3, d4⟩ := hS; refine yield_store (ops := #[]) (by exact rfl) (by exact rfl) ?_ ; go_wp2_with (first | (refine wpList_store_row rfl 199 _ _ rfl _ rfl _ rfl inf_l2m _ _ (d4) (by simp [pms_size]) (flat_pms _) ?_)) ; exact ⟨below_put hB2 (by omega) _ _, blk_put_other d3 (by omega), blk_put d4 _⟩)
        (intro v9 w2 hS; simp only [List.drop_succ_cons, List.drop_zero]; obtain ⟨hB2, d3, d4⟩ := hS)
        go_wp2
        refine bodyPost_ret (v := .tuple #[.agg (pms m), .bool (decide (m.to x = y))]) (by exact results_part2 rfl _ _ _ _ (pms m) _ rfl und_l2m rfl inf_l2m (cells_of_blk0 (d4)) _ rfl) rfl ?_
        exact ⟨by first | rfl | (congr 1), hB2⟩
      · have hc' : m.to x < 0 := by omega
        have hc2 : 0 < m.used y := by omega
        go_enter Try.func287, Try.ntmps287
        go_wp2
        clear hz
        apply wp_region_new1 7 _ (fun g w' => Below w.heap.size w w' ∧ blk w' (w.heap.size + 1 + 1) (pms m) 199 ∧ blk w' (w.heap.size + 1 + 1 + 1) (bif g.isEmpty then pms ⟨fun _ => 0, fun _ => 0, 0⟩ else pms m) 199) (by kernel_rfl) (by kernel_rfl) rfl rfl; (case hS => exact ⟨by exact qB.drew, q3.drew, q4.drew⟩); (case ht => simp only [List.take_succ_cons, List.take_zero]; repeat (first | exact wpTextG_nil | (apply wpTextG_cons; (intro g w2 hS; obtain ⟨hB2, d3, d4⟩ := hS; have k1 := d3.cell _ _ (pms_to m (i := x) (by omega)); go_wp2_with (first | (refine wpList_load_part rfl 199 _ rfl (w.heap.size + 1 + 1) (0) rfl (pms m) _ und_l2m rfl inf_l2m (cells_of_blk0 d3) ?_)); (first | exact ⟨rfl, rfl, hB2, d3, d4⟩)); rfl))); (case hA => intro w2 hS; obtain ⟨hB2, d3, d4⟩ := hS; refine yield_store (ops := #[]) (by exact rfl) (by exact rfl) ?_ ; go_wp2_with (first | (refine wpList_store_row rfl 199 _ _ rfl _ rfl _ rfl inf_l2m _ _ (d4) (by simp [pms_size]) (flat_pms _) ?_)) ; exact ⟨below_put hB2 (by omega) _ _, blk_put_other d3 (by omega), blk_put d4 _⟩)
        (intro v9 w2 hS; simp only [List.drop_succ_cons, List.drop_zero]; obtain ⟨hB2, d3, d4⟩ := hS)
        go_wp2
        refine bodyPost_ret (v := .tuple #[.agg (pms m), .bool (decide (m.to x = y))]) (by exact results_part2 rfl _ _ _ _ (pms m) _ rfl und_l2m rfl inf_l2m (cells_of_blk0 (d4)) _ rfl) rfl ?_
        exact ⟨by first | rfl | (congr 1), hB2⟩
    · have hx0 : m.to x < 0 := by omega
      have hy0 : ¬ 0 < m.used y := fun h => hc (.inr h)
      have hy1 : m.used y ≤ 0 := by omega
      have hF : closeF N t u (K + 1) m x y = closeL (closeF N t u K) t u x y N 0 (m.add x y) := by simp only [closeF]; rw [if_neg hc]
      rw [hF]
      clear hF hc
      have hva := hv.add hx hy hx0 hy0
      have hum : um (m.add x y).to N < K := by
        have := um_add (f := m.to) (x := x) (y := (y : Int)) hx0 (by omega) N
        rw [if_pos hx] at this
        show um (fun i => if i = x then (y : Int) else m.to i) N < K
        omega
      have hsz := hv.size
      have hul := um_le m.to N
      obtain ⟨sz, hsz1⟩ : ∃ sz : Nat, m.size = sz := ⟨N - um m.to N, by omega⟩
      have a1 : ((pms m).setIfInBounds x (.int .i64 (y : Int)))[10 + y]? = some (.int .i64 (m.used y)) := by rw [pms_set_to m _ (by omega), pms_used _ (by omega)]
      have a2 : (((pms m).setIfInBounds x (.int .i64 (y : Int))).setIfInBounds (10 + y) (.int .i64 1))[20]? = some (.int .i64 (sz : Int)) := by rw [pms_set_to m _ (by omega), pms_set_used _ _ (by omega), pms_sz, ← hsz1]
      have a3 : (((pms m).setIfInBounds x (.int .i64 (y : Int))).setIfInBounds (10 + y) (.int .i64 1)).setIfInBounds 20 (.int .i64 ((sz : Int) + 1)) = pms (m.add x y) := by rw [← hsz1]; exact pms_add m (by omega) (by omega)
      have a0 := pms_to m (i := x) (by omega)
      clear q1 q2 q3 q4 qB
--LOOP
      go_enter Try.func287, Try.ntmps287
      go_wp2
      clear a0 a1 a2 a3 c1 c2 f1
      go_loopw [12, 13, 14, 15, 16] (fun i _ _ _ _ wr => ∃ (a : Nat) (M : PM), a ≤ N ∧ i = .int .i64 (a : Int) ∧ Below w.heap.size w wr ∧ blk wr w.heap.size (sqs (N : Int) t) 37 ∧ blk wr (w.heap.size + 1) (sqs (N : Int) u) 37 ∧ blk wr (w.heap.size + 1 + 1) (pms M) 199 ∧ blk wr (w.heap.size + 1 + 1 + 1) (pms ⟨fun _ => 0, fun _ => 0, 0⟩) 199 ∧ Va N M ∧ um M.to N < K ∧
        closeL (closeF N t u K) t u x y (N - a) a M = closeL (closeF N t u K) t u x y N 0 (m.add x y)) (fun i _ _ _ _ _ => N - (intOf i).toNat)
      case atStart =>
        refine ⟨0, m.add x y, by omega, rfl, ?_, ?_, ?_, ?_, ?_, hva, hum, rfl⟩
        · repeat (first | exact Below.refl _ _ | (refine below_alloc ?_ _))
        all_goals (repeat (first | (refine blk_new _ _ _ _ ?_; (simp; done)) | apply blk.alloc))
      case round =>
        obtain ⟨a, M, ha, rfl, hB, b1, b2, b3, b4, vM, uM, hR⟩ := hrel
        clear hva hum hv hK hx0 hy1 hy0
        have c0 := b1.cell 0 _ (sqs_order (N : Int) t)
        by_cases hlt : a < N
        · have hlt' : (a : Int) < (N : Int) := by omega
          rw [show N - a = (N - (a + 1)) + 1 by omega] at hR
          simp only [closeL] at hR
          have c1 := b3.cell _ _ (pms_to M (i := a) (by omega))
          by_cases hma : M.to a < 0
          · rw [if_pos hma] at hR
            go_wp2
            go_roundw
            case rel => exact ⟨a + 1, M, by omega, by go_num, hB, b1, b2, b3, b4, vM, uM, hR⟩
            case measure => simp [intOf]; omega
          · rw [if_neg hma] at hR
            obtain ⟨v, hv⟩ : ∃ v : Nat, M.to a = v := ⟨(M.to a).toNat, by omega⟩
            have hvN : v < N := by have := vM.lt a hlt; omega
            rw [hv] at c1 hR
            have hma0 : ¬ ((v : Int) < 0) := by omega
            simp only [Int.toNat_natCast] at hR
            have hxa := HT.out x a hx hlt
            have hax := HT.out a x hlt hx
            have hyv := HU.out y v hy hvN
            have hvy := HU.out v y hvN hy
            have hC1 := closeF_closes HT.out HU.out K M (t x a) (u y v) vM hxa hyv uM
            have hI1 := IH.out M (t x a) (u y v)
            generalize hR1 : closeF N t u K M (t x a) (u y v) = R1 at hR hC1 hI1
            go_wp2
            apply wp_region_new2 24 _ _ (fun g w' => Below w.heap.size w w' ∧ blk w' w.heap.size (sqs (N : Int) t) 37 ∧ blk w' (w.heap.size + 1) (sqs (N : Int) u) 37 ∧ blk w' (w.heap.size + 1 + 1) (pms M) 199 ∧ blk w' (w.heap.size + 1 + 1 + 1) (pms ⟨fun _ => 0, fun _ => 0, 0⟩) 199 ∧ Got g w' (w.heap.size + 1 + 1 + 1 + 1) (bif g.tail.isEmpty then pms ⟨fun _ => 0, fun _ => 0, 0⟩ else pms R1.1) 199) (by kernel_rfl) (by kernel_rfl) rfl rfl rfl rfl; (case hS => exact ⟨hB.drew, b1.drew, b2.drew, b3.drew, b4.drew, Got.none _ _ _ _⟩); (case ht => simp only [List.take_succ_cons, List.take_zero]; repeat (first | exact wpTextG_nil | (apply wpTextG_cons; (intro g w2 hS; obtain ⟨hB5, e1, e2, e3, e4, e5⟩ := hS; have k1 := e1.cell _ _ (sqs_get (n := (N : Int)) (t := t) (x := x) (y := a) (by omega) (by omega)) ; have k2 := e2.cell _ _ (sqs_get (n := (N : Int)) (t := u) (x := y) (y := v) (by omega) (by omega)) ; have k3 := (e3.cell _ _ (pms_to M (i := a) (by omega))).trans (by rw [hv]); go_wp2_with (first | (refine wpList_load_part rfl 37 _ rfl (w.heap.size) (0) rfl (sqs (N : Int) t) _ und_sqs rfl inf_sqs (cells_of_blk0 e1) ?_) | (refine wpList_load_part rfl 37 _ rfl (w.heap.size + 1) (0) rfl (sqs (N : Int) u) _ und_sqs rfl inf_sqs (cells_of_blk0 e2) ?_) | (refine wpList_load_part rfl 199 _ rfl (w.heap.size + 1 + 1) (0) rfl (pms M) _ und_l2m rfl inf_l2m (cells_of_blk0 e3) ?_) | (go_at_call 287; ((with_reducible refine (hI1 _ vM hxa hyv uM).mono ?_); rintro e w3 ⟨rfl, hb⟩))); (first | exact ⟨rfl, rfl, hB5, e1, e2, e3, e4, e5⟩ | exact ⟨rfl, rfl, below_self hB5 hb, e1.later hb, e2.later hb, e3.later hb, e4.later hb, e5.later hb⟩)); rfl))); (case hA => intro w2 hS; obtain ⟨hB5, e1, e2, e3, e4, e5⟩ := hS; have hl4 := e4.lt ; exact yield_alloc (by exact rfl) zero_l2m ⟨below_alloc hB5 _, e1.alloc _, e2.alloc _, e3.alloc _, e4.alloc _, Got.new _ _ (by omega)⟩); (case hA2 => intro v9 w2 hS; obtain ⟨hB5, e1, e2, e3, e4, e5⟩ := hS; obtain ⟨b9, rfl, hb, e7⟩ := e5 v9 [] rfl ; refine yield_store (ops := #[]) (by exact rfl) (by exact rfl) ?_ ; go_wp2_with (first | (refine wpList_store_row rfl 199 _ _ rfl _ rfl _ rfl inf_l2m _ _ (e7) (by simp [pms_size]) (flat_pms _) ?_)) ; exact ⟨below_put hB5 (by omega) _ _, blk_put_other e1 (by omega), blk_put_other e2 (by omega), blk_put_other e3 (by omega), blk_put_other e4 (by omega), Got.made hb (blk_put e7 _) _⟩)
            (intro v9 u9 w2 hS; simp only [List.drop_succ_cons, List.drop_zero]; obtain ⟨hB4, d1, d2, d3, d4, d5⟩ := hS)
            obtain ⟨b, rfl, hb, d6⟩ := d5 _ _ rfl
            have d7 : blk w2 b (pms R1.1) 199 := d6
            clear d5 d6 b1 b2 b3 b4 hB c0 c1
            cases h1 : R1.2 with
            | false =>
              rw [if_pos h1] at hR
              go_wp2_with (first | (refine wpList_load_part rfl 199 _ rfl (b) (0) rfl (pms R1.1) _ und_l2m rfl inf_l2m (cells_of_blk0 d7) ?_) | (refine wpList_store_row rfl 199 _ _ rfl _ rfl _ rfl inf_l2m _ _ (d4) (by simp [pms_size]) (flat_pms _) ?_))
              refine bodyPost_ret (v := .tuple #[.agg (pms R1.1), .bool false]) (by exact results_part2 rfl _ _ _ _ (pms R1.1) _ rfl und_l2m rfl inf_l2m (cells_of_blk0 (blk_put d4 _)) _ rfl) rfl ?_
              rw [← hR]
              exact ⟨by first | rfl | exact ret_two rfl rfl, below_put hB4 (by omega) _ _⟩
            | true =>
              rw [if_neg (by rw [h1]; simp)] at hR
              have hv1 := hC1.va h1
              have hu1 : um R1.1.to N < K := Nat.lt_of_le_of_lt (um_mono N fun z hz h => by rw [hC1.sub h1 z hz h]; exact h) uM
              have hC2 := closeF_closes HT.out HU.out K R1.1 (t a x) (u v y) hv1 hax hvy hu1
              have hI2 := IH.out R1.1 (t a x) (u v y)
              generalize hR2 : closeF N t u K R1.1 (t a x) (u v y) = R2 at hR hC2 hI2
              go_wp2
              apply wp_region_new2 24 _ _ (fun g w' => Below w.heap.size w w' ∧ blk w' w.heap.size (sqs (N : Int) t) 37 ∧ blk w' (w.heap.size + 1) (sqs (N : Int) u) 37 ∧ blk w' (w.heap.size + 1 + 1) (pms M) 199 ∧ blk w' (w.heap.size + 1 + 1 + 1) (pms ⟨fun _ => 0, fun _ => 0, 0⟩) 199 ∧ blk w' b (pms R1.1) 199 ∧ Got g w' (b + 1) (bif g.tail.isEmpty then pms ⟨fun _ => 0, fun _ => 0, 0⟩ else pms R2.1) 199) (by kernel_rfl) (by kernel_rfl) rfl rfl rfl rfl; (case hS => exact ⟨hB4.drew, d1.drew, d2.drew, d3.drew, d4.drew, d7.drew, Got.none _ _ _ _⟩); (case ht => simp only [List.take_succ_cons, List.take_zero]; repeat (first | exact wpTextG_nil | (apply wpTextG_cons; (intro g w2 hS; obtain ⟨hB5, e1, e2, e3, e4, e6, e5⟩ := hS; have k1 := e1.cell _ _ (sqs_get (n := (N : Int)) (t := t) (x := a) (y := x) (by omega) (by omega)) ; have k2 := e2.cell _ _ (sqs_get (n := (N : Int)) (t := u) (x := v) (y := y) (by omega) (by omega)) ; have k3 := (e3.cell _ _ (pms_to M (i := a) (by omega))).trans (by rw [hv]); go_wp2_with (first | (refine wpList_load_part rfl 37 _ rfl (w.heap.size) (0) rfl (sqs (N : Int) t) _ und_sqs rfl inf_sqs (cells_of_blk0 e1) ?_) | (refine wpList_load_part rfl 37 _ rfl (w.heap.size + 1) (0) rfl (sqs (N : Int) u) _ und_sqs rfl inf_sqs (cells_of_blk0 e2) ?_) | (refine wpList_load_part rfl 199 _ rfl (b) (0) rfl (pms R1.1) _ und_l2m rfl inf_l2m (cells_of_blk0 e6) ?_) | (go_at_call 287; ((with_reducible refine (hI2 _ hv1 hax hvy hu1).mono ?_); rintro e w3 ⟨rfl, hb⟩))); (first | exact ⟨rfl, rfl, hB5, e1, e2, e3, e4, e6, e5⟩ | exact ⟨rfl, rfl, below_self hB5 hb, e1.later hb, e2.later hb, e3.later hb, e4.later hb, e6.later hb, e5.later hb⟩)); rfl))); (case hA => intro w2 hS; obtain ⟨hB5, e1, e2, e3, e4, e6, e5⟩ := hS; have hl4 := e6.lt ; exact yield_alloc (by exact rfl) zero_l2m ⟨below_alloc hB5 _, e1.alloc _, e2.alloc _, e3.alloc _, e4.alloc _, e6.alloc _, Got.new _ _ (by omega)⟩); (case hA2 => intro v9 w2 hS; obtain ⟨hB5, e1, e2, e3, e4, e6, e5⟩ := hS; obtain ⟨b9, rfl, hb, e7⟩ := e5 v9 [] rfl ; refine yield_store (ops := #[]) (by exact rfl) (by exact rfl) ?_ ; go_wp2_with (first | (refine wpList_store_row rfl 199 _ _ rfl _ rfl _ rfl inf_l2m _ _ (e7) (by simp [pms_size]) (flat_pms _) ?_)) ; exact ⟨below_put hB5 (by omega) _ _, blk_put_other e1 (by omega), blk_put_other e2 (by omega), blk_put_other e3 (by omega), blk_put_other e4 (by omega), blk_put_other e6 (by omega), Got.made hb (blk_put e7 _) _⟩)
              (intro v9 u9 w2 hS; simp only [List.drop_succ_cons, List.drop_zero]; obtain ⟨hB6, d1, d2, d3, d4, d5, d6⟩ := hS)
              obtain ⟨b9, rfl, hb9, d8⟩ := d6 _ _ rfl
              have d9 : blk w2 b9 (pms R2.1) 199 := d8
              clear d6 d8 d7
              cases h2 : R2.2 with
              | false =>
                rw [if_pos h2] at hR
                go_wp2_with (first | (refine wpList_load_part rfl 199 _ rfl (b9) (0) rfl (pms R2.1) _ und_l2m rfl inf_l2m (cells_of_blk0 d9) ?_) | (refine wpList_store_row rfl 199 _ _ rfl _ rfl _ rfl inf_l2m _ _ (d4) (by simp [pms_size]) (flat_pms _) ?_))
                refine bodyPost_ret (v := .tuple #[.agg (pms R2.1), .bool false]) (by exact results_part2 rfl _ _ _ _ (pms R2.1) _ rfl und_l2m rfl inf_l2m (cells_of_blk0 (blk_put d4 _)) _ rfl) rfl ?_
                rw [← hR]
                exact ⟨by first | rfl | exact ret_two rfl rfl, below_put hB6 (by omega) _ _⟩
              | true =>
                rw [if_neg (by rw [h2]; simp)] at hR
                have hv2 := hC2.va h2
                have hu2 : um R2.1.to N < K := Nat.lt_of_le_of_lt (um_mono N fun z hz h => by rw [hC2.sub h2 z hz h]; exact h) hu1
                go_wp2_with (first | (refine wpList_load_part rfl 199 _ rfl (b9) (0) rfl (pms R2.1) _ und_l2m rfl inf_l2m (cells_of_blk0 d9) ?_) | (refine wpList_store_row rfl 199 _ _ rfl _ rfl _ rfl inf_l2m _ _ (d3) (by simp [pms_size]) (flat_pms _) ?_))
                go_roundw
                case rel => exact ⟨a + 1, R2.1, by omega, by go_num, below_put hB6 (by omega) _ _, blk_put_other d1 (by omega), blk_put_other d2 (by omega), blk_put d3 _, blk_put_other d4 (by omega), hv2, hu2, hR⟩
                case measure => simp [intOf]; omega
        · have haN : a = N := by omega
          subst haN
          rw [Nat.sub_self] at hR
          simp only [closeL] at hR
          have hge : ¬ ((a : Int) < (a : Int)) := by omega
          go_wp2_with (first | (refine wpList_load_part rfl 199 _ rfl (w.heap.size + 1 + 1) (0) rfl (pms M) _ und_l2m rfl inf_l2m (cells_of_blk0 b3) ?_) | (refine wpList_store_row rfl 199 _ _ rfl _ rfl _ rfl inf_l2m _ _ (b4) (by simp [pms_size]) (flat_pms _) ?_))
          refine bodyPost_ret (v := .tuple #[.agg (pms M), .bool true]) (by exact results_part2 rfl _ _ _ _ (pms M) _ rfl und_l2m rfl inf_l2m (cells_of_blk0 (blk_put b4 _)) _ rfl) rfl ?_
          rw [← hR]
          exact ⟨by first | rfl | exact ret_two rfl rfl, below_put hB (by omega) _ _⟩
end Go.Proofs.Ythdldlpflieeoaa

/- The part that has nothing, and the places of a part: contracts. -/
namespace Go.Proofs.Ythdldlpflieeoaa
set_option linter.unusedSimpArgs false
set_option linter.unusedVariables false
open Go Go.RowKit

/-- The part that has nothing. -/
def PM.zero : PM := ⟨fun _ => -1, fun _ => 0, 0⟩
theorem pms_ext {m m' : PM} (h1 : ∀ i, i < 10 → m.to i = m'.to i) (h2 : ∀ i, i < 10 → m.used i = m'.used i) (h3 : m.size = m'.size) : pms m = pms m' :=
  tab_ext fun i _ => by
    by_cases h : i < 10
    · rw [if_pos h, if_pos h, h1 i h]
    · rw [if_neg h, if_neg h]
      by_cases h' : i < 20
      · rw [if_pos h', if_pos h', h2 _ (by omega)]
      · rw [if_neg h', if_neg h', h3]
theorem start_step (k : Nat) (hk : k < 10) : (pms ⟨fun i => if i < k then -1 else 0, fun _ => 0, 0⟩).setIfInBounds k (.int .i64 (-1)) = pms ⟨fun i => if i < k + 1 then -1 else 0, fun _ => 0, 0⟩ := by
  rw [pms_set_to _ _ hk]
  refine pms_ext (fun i _ => ?_) (fun _ _ => rfl) rfl
  dsimp only
  by_cases h : i = k
  · subst h; rw [if_pos rfl, if_pos (by omega)]
  · rw [if_neg h]
    by_cases h' : i < k
    · rw [if_pos h', if_pos (by omega)]
    · rw [if_neg h', if_neg (by omega)]
/-- The places of a part. -/
def plTo (m : PM) (n : Nat) (i : Nat) : Nat := if i < n then (m.to i).toNat else 0
theorem plTo_set (m : PM) (k : Nat) : (bys (plTo m k)).setIfInBounds k (.int .u8 ((m.to k).toNat : Int)) = bys (plTo m (k + 1)) := by
  rw [bys_set]
  refine bys_ext fun i _ => ?_
  unfold plTo
  by_cases h : i = k
  · subst h; rw [if_pos rfl, if_pos (by omega)]
  · rw [if_neg h]
    by_cases h' : i < k
    · rw [if_pos h', if_pos (by omega)]
    · rw [if_neg h', if_neg (by omega)]

set_option maxRecDepth 100000 in
set_option maxHeartbeats 1000000 in
theorem l02Start_any (w : World) : Calls Try.prog 254 #[] w fun e w' => e = .returned (.agg (pms PM.zero)) ∧ Below w.heap.size w w' := by
  have hz := zero_l2m
  have hbd := build_l2m
  go_enter Try.func254, Try.ntmps254
  go_wp2_with (first | (refine wpList_store_row rfl 199 _ _ rfl _ rfl _ rfl inf_l2m _ _ (blk_new _ _ _ _ (by simp)) (by simp [pms_size]) (flat_pms _) ?_))
  clear hz hbd
  go_loopw [2] (fun i wr => ∃ k : Nat, k ≤ 10 ∧ i = .int .i64 k ∧ Below w.heap.size w wr ∧ blk wr w.heap.size (pms ⟨fun _ => 0, fun _ => 0, 0⟩) 199 ∧ blk wr (w.heap.size + 1) (pms ⟨fun i => if i < k then -1 else 0, fun _ => 0, 0⟩) 199) (fun i _ => (10 - intOf i).toNat)
  case atStart => exact ⟨0, by omega, rfl, below_put (((Below.refl _ _).alloc (by simp) _).alloc (by simp) _) (by omega) _ _, blk_put_other (by repeat (first | (refine blk_new _ _ _ _ ?_; (simp; done)) | apply blk.alloc)) (by omega), (blk_put (blk_new _ _ _ _ (by simp)) _).eq (pms_ext (fun i _ => by simp) (fun _ _ => rfl) rfl)⟩
  case round =>
    obtain ⟨k, hk, rfl, hB, b0, b1⟩ := hrel
    by_cases hlt : k < 10
    · have hlt' : (k : Int) < 10 := by omega
      have fo := b1.free k
      have co := b1.cell k _ (pms_to _ hlt)
      go_wp2
      go_roundw
      case rel => exact ⟨k + 1, by omega, by go_num, hB.setCell (by first | (simp; done) | (simp; omega)) _, b0.other _ _ (by omega), (b1.set _ _).eq (start_step k hlt)⟩
      case measure => simp [intOf]; omega
    · obtain rfl : k = 10 := by omega
      have b2 := b1.eq (cs' := pms PM.zero) (pms_ext (fun i hi => by simp [PM.zero, hi]) (fun _ _ => rfl) rfl)
      go_wp2_with (first | (refine wpList_load_part rfl 199 _ rfl _ _ rfl (pms PM.zero) _ und_l2m rfl inf_l2m (cells_of_blk0 b2) ?_) | (refine wpList_store_row rfl 199 _ _ rfl _ rfl _ rfl inf_l2m _ _ (b0) (by simp [pms_size]) (flat_pms _) ?_))
      refine bodyPost_ret (v := .agg (pms PM.zero)) (by exact results_part rfl _ _ _ _ _ _ rfl und_l2m rfl inf_l2m (cells_of_blk0 (blk_put b0 _))) rfl ?_
      exact ⟨rfl, below_put hB (by omega) _ _⟩

set_option maxRecDepth 100000 in
set_option maxHeartbeats 1000000 in
theorem l02Places_any (N : Nat) (m : PM) (w : World) (h1 : N ≤ 10) (hm : ∀ i, i < N → 0 ≤ m.to i ∧ m.to i < 10) :
    Calls Try.prog 286 #[.agg (pms m), .int .i64 (N : Int)] w fun e w' => e = .returned (.agg (bys (plTo m N))) ∧ Below w.heap.size w w' := by
  have hz := zero_plc
  have hbd := build_plc
  go_enter Try.func286, Try.ntmps286
  go_wp2_with (first | (refine wpList_store_row rfl 25 _ _ rfl _ rfl _ rfl inf_plc _ _ (blk_new _ _ _ _ (by simp)) (by simp [bys_size]) (flat_bys _) ?_))
  clear hz hbd
  go_loopw [6] (fun i wr => ∃ k : Nat, k ≤ N ∧ i = .int .i64 k ∧ Below w.heap.size w wr ∧ blk wr w.heap.size (pms m) 199 ∧ blk wr (w.heap.size + 1) (bys fun _ => 0) 25 ∧ blk wr (w.heap.size + 1 + 1) (bys (plTo m k)) 25) (fun i _ => ((N : Int) - intOf i).toNat)
  case atStart => exact ⟨0, by omega, rfl, below_put ((((Below.refl _ _).alloc (by simp) _).alloc (by simp) _).alloc (by simp; omega) _) (by omega) _ _, blk_put_other (by repeat (first | (refine blk_new _ _ _ _ ?_; (simp; done)) | apply blk.alloc)) (by omega), blk_put_other (by repeat (first | (refine blk_new _ _ _ _ ?_; (simp; done)) | apply blk.alloc)) (by omega), (blk_put (blk_new _ _ _ _ (by simp)) _).eq (bys_ext fun i hi => by simp [plTo])⟩
  case round =>
    obtain ⟨k, hk, rfl, hB, b0, br, bo⟩ := hrel
    by_cases hlt : k < N
    · have hlt' : (k : Int) < (N : Int) := by omega
      obtain ⟨v, hv⟩ : ∃ v : Nat, m.to k = v := ⟨(m.to k).toNat, by have := hm k hlt; omega⟩
      have hv10 : v < 10 := by have := hm k hlt; omega
      have c0 := (b0.cell k _ (pms_to m (by omega))).trans (by rw [hv])
      have fo := bo.free k
      have co := bo.cell k _ (bys_get (by omega))
      go_wp2
      go_roundw
      case rel => exact ⟨k + 1, by omega, by go_num, hB.setCell (by first | (simp; done) | (simp; omega)) _, b0.other _ _ (by omega), br.other _ _ (by omega), (bo.set _ _).eq (by have := plTo_set m k; rw [hv] at this; exact this)⟩
      case measure => simp [intOf]; omega
    · obtain rfl : k = N := by omega
      have hge : ¬ ((k : Int) < (k : Int)) := by omega
      go_wp2_with (first | (refine wpList_load_part rfl 25 _ rfl _ _ rfl (bys (plTo m k)) _ und_plc rfl inf_plc (cells_of_blk0 bo) ?_) | (refine wpList_store_row rfl 25 _ _ rfl _ rfl _ rfl inf_plc _ _ (br) (by simp [bys_size]) (flat_bys _) ?_))
      refine bodyPost_ret (v := .agg (bys (plTo m k))) (by exact results_part rfl _ _ _ _ _ _ rfl und_plc rfl inf_plc (cells_of_blk0 (blk_put br _))) rfl ?_
      exact ⟨rfl, below_put hB (by omega) _ _⟩
end Go.Proofs.Ythdldlpflieeoaa

