/- Marks on a new book: contracts. -/
import Derived.Test.YtinjjaoikofkdaaI3
import Derived.Test.YtinjjaoikofkdaaC43
import Derived.Test.YtinjjaoikofkdaaH1
import Derived.Maps.AppendAt
import Derived.Test.YtinjjaoikofkdaaC44
namespace Go.Proofs.Ytinjjaoikofkdaa
set_option linter.unusedSimpArgs false
set_option linter.unusedVariables false
open Go Go.RowKit

section
variable {P : Program} {D : Nat → Prop} {w0 w : World} {L : List Ent} {ops : Array Oper} {rest : List Oper} {o : Oper} {a : Act} {Q : Exit → Act → World → Prop}
/-- One cell of a row of structs is written. -/
theorem wpM_rstN (M : Mm D w0 w L) (i : Nat) {B g n cap e size : Nat} {xs : List Value} (hi : L[i]? = some (.row B (.slice (some ⟨g, 0, none⟩) n cap) n xs e size)) (hB : w0.heap.size ≤ B ∨ D g) (hw : Region.wanted o (yielded ops a.tmps) = true) (ty : TypeId) (x y : Operand) (ho : o.op = .store ty x y)
    (j : Nat) (hx : a.eval x = .pointer (some ⟨g, j, none⟩)) (v : Value) (hy : a.eval y = v) (hv : oneV v = true) (hs : (P.info? ty).map (·.size) = some 1) (hj : j < n * size)
    (h : ∀ w', Mm D w0 w' (L.set i (.row B (.slice (some ⟨g, 0, none⟩) n cap) n (xs.set j v) e size)) → wpList P ops Q rest (a.put o.dst undef) w') : wpList P ops Q (o :: rest) a w := by
  refine wpList_wanted hw ?_
  have hB' := M.row i hi
  have hlen : xs.length = n * size := hB'.1
  have hcell : w.cell? ⟨g, j, none⟩ = some xs[j] := by rw [World.ownsRow.cellAt hB' j (by omega), List.getElem?_eq_getElem]
  have hfree := World.ownsRow.frozenAt hB' j
  cases hq : P.info? ty with
  | none => simp [hq] at hs
  | some q =>
    have hs' : q.size = 1 := by simpa [hq] using hs
    have hst : (storeVar ty ⟨g, j, none⟩ v).run P w = .ok () (w.setCell ⟨g, j, none⟩ v) := by
      have hc : v.cells = #[v] := by cases v <;> simp_all [Value.cells, oneV]
      have step : (store ((⟨g, j, none⟩ : Addr).add 0) v).run P w = .ok () (w.setCell ⟨g, j, none⟩ v) := by
        rw [add_none, Nat.add_zero]
        cases v <;> simp_all [store, Sem.run, oneV]
      simp [storeVar, sizeOf, typeInfo, hq, hs', hc, storeCells, step]
    unfold Oper.wp execOp
    simp only [ho, hx, hy, Instr.storeAt, Instr.sureAddr, Sem.run_bind, Sem.run_pure, Result.andThen_ok, hst]
    exact h _ (M.rowset i hi hB j v)
theorem wpM_rstN' (M : Mm D w0 w L) (i ty B g n cap e size : Nat) (xs : List Value) (j : Nat) (v : Value) (ho : isStore o.op ty = true) (hi : L[i]? = some (.row B (.slice (some ⟨g, 0, none⟩) n cap) n xs e size)) (hx : a.eval (addrOf o.op) = .pointer (some ⟨g, j, none⟩)) (hy : a.eval (valOf o.op) = v)
    (H : Region.wanted o (yielded ops a.tmps) = true ∧ oneV v = true ∧ (P.info? ty).map (·.size) = some 1) (hB : w0.heap.size ≤ B ∨ D g) (hj : j < n * size)
    (h : ∀ w', Mm D w0 w' (L.set i (.row B (.slice (some ⟨g, 0, none⟩) n cap) n (xs.set j v) e size)) → wpList P ops Q rest (a.put o.dst undef) w') : wpList P ops Q (o :: rest) a w :=
  wpM_rstN M i hi hB H.1 ty _ _ (isStore_spec ho) j hx v hy H.2.1 H.2.2 hj h
end

def StHM (s : ByteArray) : List Value → List Ent → Prop
  | [], Lg => Lg = []
  | v :: _, Lg => v = .string s ∧ Lg = []
/-- Marks of a list of texts; of a list of squares (their orders). -/
def MkdS (k n : Nat) (xs : List Value) : Prop := xs.length = n ∧ ∀ j, j < n → xs[j]? = some (mkS k j)
def MkdQ (k n : Nat) (xs : List Value) : Prop := xs.length = n * 101 ∧ ∀ j, j < n → xs[j * 101]? = some (.int .i64 ((k + j : Nat) : Int))

set_option maxRecDepth 100000 in
set_option maxHeartbeats 1000000 in
theorem markStrR_any (B : Nat) (v : Value) (n : Nat) (xs : List Value) (k : Nat) (hn : n ≤ 1048576) (hk : k ≤ 1048577) (w : World) (h : w.ownsRow B 9 1 v n xs) :
    Calls Try.prog 37 #[v, .int .i64 (k : Int)] w fun e w' => e = .returned (.int .i64 ((k + n : Nat) : Int)) ∧ ∃ ys, MkdS k n ys ∧ Mm (fun b => v.ownBlock = some b) w w' [.row B v n ys 9 1] := by
  have hlen : xs.length = n := by have := h.1; omega
  have M := ((Mm.start no w).only (fun b => v.ownBlock = some b)).add (x := .row B v n xs 9 1) h fun _ h => by cases h
  have HM := Hid2.mk (fun j (hj : j ≤ n) w1 => markText_any (k + j) (by omega) w1)
  obtain ⟨pp, cap, rfl⟩ := own_form h
  clear h
  go_enter Try.func37, Try.ntmps37
  go_wp2
  go_loopw [5, 1] (fun i q wr => ∃ j : Nat, j ≤ n ∧ i = .int .i64 (j : Int) ∧ q = .int .i64 ((k + j : Nat) : Int) ∧ ∃ cur : List Value, cur.length = n ∧ (∀ t, t < j → cur[t]? = some (mkS k t)) ∧ Mm (fun b => (Value.slice pp n cap).ownBlock = some b) w wr [.row B (.slice pp n cap) n cur 9 1]) (fun i _ _ => n - (intOf i).toNat)
  case atStart => exact ⟨0, by omega, rfl, by simp, xs, hlen, fun t h => by omega, M⟩
  case round =>
    obtain ⟨j, hj, rfl, rfl, cur, hcl, hcur, M9⟩ := hrel
    clear M; (try clear C)
    have M := M9
    clear M9
    have HCU := Hid2.mk hcur
    clear hcur
    by_cases hlt : j < n
    · have hlt' : (j : Int) < (n : Int) := by omega
      obtain ⟨g, cap', he, _, _, _⟩ := own_rds (M.row 0 rfl) (by omega)
      cases he
      have HT := HM.out j hj
      have HMS := Hid2.mk (show mkS k j = .string (str (mkT (k + j))) from rfl)
      generalize str (mkT (k + j)) = s at HT HMS
      have HKJ := Hid2.mk (show ((k + j : Nat) : Int) + 1 = ((k + (j + 1) : Nat) : Int) from by omega)
      have hkb : ((k + j : Nat) : Int) ≤ 4194304 := by omega
      have hkb0 : (0 : Int) ≤ ((k + j : Nat) : Int) := by omega
      generalize ((k + j : Nat) : Int) = q at HT HKJ hkb hkb0
      have C := M.ruleAll; simp only [Go.Proofs.Ytinjjaoikofkdaa.ruleAll] at C
      go_wp2_with (first | (go_at_call 67; ((with_reducible refine (HT _).mono ?_); rintro e w5 ⟨rfl, hb⟩; have hsz := M.size; (try (have G9 := G.later hb; clear G; have G := G9; clear G9)); have M9 := M.later hb; clear M; (try clear C); have M := M9; clear M9; have C := M.ruleAll; simp only [Go.Proofs.Ytinjjaoikofkdaa.ruleAll] at C)) | ((with_reducible apply wpM_rstN' M 0 9 B g n cap 9 1 cur j (.string s)); rfl; rfl; rfl; rfl; exact ⟨rfl, rfl, by kernel_rfl⟩; exact .inr rfl; omega; (clear M; (try clear C); intro w9 M)))
      go_roundw
      case rel =>
        refine ⟨j + 1, by omega, by go_num, by rw [HKJ.out], cur.set j (.string s), by rw [List.length_set]; exact hcl, fun t ht => ?_, M⟩
        rw [List.getElem?_set]
        split
        · rename_i e; subst e; rw [if_pos (by omega), HMS.out]
        · exact HCU.out t (by omega)
      case measure => simp [intOf]; omega
    · obtain rfl : j = n := by omega
      have hge : ¬ ((j : Int) < (j : Int)) := by omega
      go_wp2
      go_ret
      exact ⟨rfl, cur, ⟨hcl, HCU.out⟩, M⟩

set_option maxRecDepth 100000 in
set_option maxHeartbeats 1000000 in
theorem heldStr_any (p : Option Addr) (n cap : Nat) (k : Nat) (hn : n ≤ 1048576) (hk : k ≤ 1048577) (w : World) (h : rdq w p n (mkS k)) :
    Calls Try.prog 38 #[.slice p n cap, .int .i64 (k : Int)] w fun e w' => e = .returned (.int .i64 ((k + n : Nat) : Int)) ∧ Below w.heap.size w w' := by
  have M := Mm.start no w
  have F1 := Hid2.mk (fun w1 (hb : Below w.heap.size w w1) => h.later hb)
  have HM := Hid2.mk (fun j (hj : j ≤ n) w1 => markText_any (k + j) (by omega) w1)
  clear h
  go_enter Try.func38, Try.ntmps38
  go_wp2
  go_loopw [5, 1] (fun i q wr => ∃ j : Nat, j ≤ n ∧ i = .int .i64 (j : Int) ∧ q = .int .i64 ((k + j : Nat) : Int) ∧ Mm no w wr []) (fun i _ _ => n - (intOf i).toNat)
  case atStart => exact ⟨0, by omega, rfl, by simp, M⟩
  case round =>
    obtain ⟨j, hj, rfl, rfl, M9⟩ := hrel
    clear M
    have M := M9
    clear M9
    by_cases hlt : j < n
    · have hlt' : (j : Int) < (n : Int) := by omega
      obtain ⟨g, rfl, hr⟩ := F1.out _ M.below (by omega)
      have HCL := Hid2.mk (show ∀ w1, Below w.heap.size w w1 → w1.cell? ⟨g, j, none⟩ = some (.string (str (mkT (k + j)))) from fun w1 hb => by
        obtain ⟨g', e, hr'⟩ := F1.out w1 hb (by omega)
        cases e
        exact hr'.at_ j hlt)
      have hcell := HCL.out _ M.below
      have HT := HM.out j hj
      generalize str (mkT (k + j)) = s at HT HCL hcell
      have hss : (s.toList == s.toList) = true := by simp
      have HKJ := Hid2.mk (show ((k + j : Nat) : Int) + 1 = ((k + (j + 1) : Nat) : Int) from by omega)
      have hkb : ((k + j : Nat) : Int) ≤ 4194304 := by omega
      have hkb0 : (0 : Int) ≤ ((k + j : Nat) : Int) := by omega
      generalize ((k + j : Nat) : Int) = q at HT HKJ hkb hkb0
      clear hr
      clear hcell
      go_wp2
      apply wp_region_mmf1 M [0, 1, 2, 3, 4] 5 6 _ (StHM s) (by kernel_rfl) (by kernel_rfl) rfl rfl rfl
      case ht => (repeat (first | exact wpTextG_nil | (apply wpTextG_cons; (intro g9 w2 hG; obtain ⟨Lg9, hSt9, G⟩ := hG; have M := G.suffix; have hcell := HCL.out _ M.below; go_wp2; exact ⟨rfl, rfl, Lg9, hSt9, G⟩); rfl)))
      case hA =>
        intro Lg w2 h M
        obtain rfl : Lg = [] := h
        refine yield_walk (ops := #[]) rfl rfl (by simp [Act.put]) ?_
        simp only [List.nil_append] at M
        go_wp2_with (first | (go_at_call 67; ((with_reducible refine (HT _).mono ?_); rintro e w5 ⟨rfl, hb⟩; have hsz := M.size; (try (have G9 := G.later hb; clear G; have G := G9; clear G9)); have M9 := M.later hb; clear M; (try clear C); have M := M9; clear M9; have C := M.ruleAll; simp only [Go.Proofs.Ytinjjaoikofkdaa.ruleAll] at C)))
        exact ⟨[], ⟨rfl, rfl⟩, M⟩
      clear M; (try clear C)
      intro v Lg w2 h M
      obtain ⟨rfl, rfl⟩ := h
      simp only [List.drop_succ_cons, List.drop_zero, List.nil_append] at M ⊢
      go_wp2
      go_roundw
      case rel => exact ⟨j + 1, by omega, by go_num, by rw [HKJ.out], M⟩
      case measure => simp [intOf]; omega
    · obtain rfl : j = n := by omega
      have hge : ¬ ((j : Int) < (j : Int)) := by omega
      go_wp2
      go_ret
      exact ⟨rfl, M.below⟩

set_option maxRecDepth 100000 in
set_option maxHeartbeats 1000000 in
theorem markSqR_any (B : Nat) (v : Value) (n : Nat) (xs : List Value) (k : Nat) (hn : n ≤ 1048576) (hk : k ≤ 2097153) (w : World) (h : w.ownsRow B 43 101 v n xs) :
    Calls Try.prog 25 #[v, .int .i64 (k : Int)] w fun e w' => e = .returned (.int .i64 ((k + n : Nat) : Int)) ∧ ∃ ys, MkdQ k n ys ∧ Mm (fun b => v.ownBlock = some b) w w' [.row B v n ys 43 101] := by
  have hlen : xs.length = n * 101 := h.1
  have M := ((Mm.start no w).only (fun b => v.ownBlock = some b)).add (x := .row B v n xs 43 101) h fun _ h => by cases h
  obtain ⟨pp, cap, rfl⟩ := own_form h
  clear h
  go_enter Try.func25, Try.ntmps25
  go_wp2
  go_loopw [5, 1] (fun i q wr => ∃ j : Nat, j ≤ n ∧ i = .int .i64 (j : Int) ∧ q = .int .i64 ((k + j : Nat) : Int) ∧ ∃ cur : List Value, cur.length = n * 101 ∧ (∀ t, t < j → cur[t * 101]? = some (.int .i64 ((k + t : Nat) : Int))) ∧ Mm (fun b => (Value.slice pp n cap).ownBlock = some b) w wr [.row B (.slice pp n cap) n cur 43 101]) (fun i _ _ => n - (intOf i).toNat)
  case atStart => exact ⟨0, by omega, rfl, by simp, xs, hlen, fun t h => by omega, M⟩
  case round =>
    obtain ⟨j, hj, rfl, rfl, cur, hcl, hcur, M9⟩ := hrel
    clear M; (try clear C)
    have M := M9
    clear M9
    have HCU := Hid2.mk hcur
    clear hcur
    by_cases hlt : j < n
    · have hlt' : (j : Int) < (n : Int) := by omega
      obtain ⟨g, cap', he, _, _, _⟩ := own_rds (M.row 0 rfl) (by omega)
      cases he
      have HKJ := Hid2.mk (show ((k + j : Nat) : Int) + 1 = ((k + (j + 1) : Nat) : Int) from by omega)
      have hkb : ((k + j : Nat) : Int) ≤ 4194304 := by omega
      have hkb0 : (0 : Int) ≤ ((k + j : Nat) : Int) := by omega
      obtain ⟨q, hq⟩ : ∃ q : Int, q = ((k + j : Nat) : Int) := ⟨_, rfl⟩
      rw [← hq] at HKJ hkb hkb0 ⊢
      have HQV := Hid2.mk hq
      clear hq
      have C := M.ruleAll; simp only [Go.Proofs.Ytinjjaoikofkdaa.ruleAll] at C
      go_wp2_with (first | ((with_reducible apply wpM_rstN' M 0 2 B g n cap 43 101 cur (j * 101) (.int .i64 q)); rfl; rfl; rfl; rfl; exact ⟨rfl, rfl, by kernel_rfl⟩; exact .inr rfl; omega; (clear M; (try clear C); intro w9 M)))
      go_roundw
      case rel =>
        refine ⟨j + 1, by omega, by go_num, by rw [HKJ.out], cur.set (j * 101) (.int .i64 q), by rw [List.length_set]; exact hcl, fun t ht => ?_, M⟩
        rw [List.getElem?_set]
        split
        · rename_i e
          obtain rfl : j = t := by omega
          rw [if_pos (by omega), HQV.out]
        · exact HCU.out t (by omega)
      case measure => simp [intOf]; omega
    · obtain rfl : j = n := by omega
      have hge : ¬ ((j : Int) < (j : Int)) := by omega
      go_wp2
      go_ret
      exact ⟨rfl, cur, ⟨hcl, HCU.out⟩, M⟩

set_option maxRecDepth 100000 in
set_option maxHeartbeats 1000000 in
theorem heldSq_any (p : Option Addr) (n cap : Nat) (k : Nat) (hn : n ≤ 1048576) (hk : k ≤ 2097153) (w : World) (f : Nat → Value) (h : rdq w p (n * 101) f) (hf : ∀ j, j < n → f (j * 101) = .int .i64 ((k + j : Nat) : Int)) :
    Calls Try.prog 39 #[.slice p n cap, .int .i64 (k : Int)] w fun e w' => e = .returned (.int .i64 ((k + n : Nat) : Int)) ∧ Below w.heap.size w w' := by
  have M := Mm.start no w
  have F1 := Hid2.mk (fun w1 (hb : Below w.heap.size w w1) => h.later hb)
  have HF := Hid2.mk hf
  clear h hf
  go_enter Try.func39, Try.ntmps39
  go_wp2
  go_loopw [5, 1] (fun i q wr => ∃ j : Nat, j ≤ n ∧ i = .int .i64 (j : Int) ∧ q = .int .i64 ((k + j : Nat) : Int) ∧ Mm no w wr []) (fun i _ _ => n - (intOf i).toNat)
  case atStart => exact ⟨0, by omega, rfl, by simp, M⟩
  case round =>
    obtain ⟨j, hj, rfl, rfl, M9⟩ := hrel
    clear M
    have M := M9
    clear M9
    by_cases hlt : j < n
    · have hlt' : (j : Int) < (n : Int) := by omega
      obtain ⟨g, rfl, hr⟩ := F1.out _ M.below (by omega)
      have hcell := hr.at_ (j * 101) (by omega)
      rw [HF.out j hlt] at hcell
      have HKJ := Hid2.mk (show ((k + j : Nat) : Int) + 1 = ((k + (j + 1) : Nat) : Int) from by omega)
      have hkb : ((k + j : Nat) : Int) ≤ 4194304 := by omega
      have hkb0 : (0 : Int) ≤ ((k + j : Nat) : Int) := by omega
      generalize ((k + j : Nat) : Int) = q at hcell HKJ hkb hkb0
      have hqq : (q == q) = true := by simp
      clear hr
      go_wp2
      go_roundw
      case rel => exact ⟨j + 1, by omega, by go_num, by rw [HKJ.out], M⟩
      case measure => simp [intOf]; omega
    · obtain rfl : j = n := by omega
      have hge : ¬ ((j : Int) < (j : Int)) := by omega
      go_wp2
      go_ret
      exact ⟨rfl, M.below⟩
end Go.Proofs.Ytinjjaoikofkdaa

/- A new book: marks on it, what is read of it, the post of a function that hands one back. Contracts. -/
namespace Go.Proofs.Ytinjjaoikofkdaa
set_option linter.unusedSimpArgs false
set_option linter.unusedVariables false
open Go Go.RowKit

theorem own_ge {w : World} {B e size n : Nat} {v : Value} {xs : List Value} (h : w.ownsRow B e size v n xs) {b : Nat} (hb : v.ownBlock = some b) : B ≤ b := by
  rcases h.2 with ⟨h, _⟩ | ⟨g, cap, cur, rfl, hB, _⟩
  · rw [h] at hb; cases hb
  · cases hb; exact hB
/-- A call that writes into the first entries. -/
theorem Mm.callD {D D0 : Nat → Prop} {w0 w w' : World} {X Y X' : List Ent} (M : Mm D0 w0 w (X ++ Y)) (M' : Mm D w w' X') (hD : ∀ b, D b → ∃ x ∈ X, x.place b) (hX : ∀ x ∈ X', ∀ b, x.place b → (∃ y ∈ X, y.place b) ∨ w.heap.size ≤ b) (h0 : ∀ b, b < w0.heap.size → D b → D0 b) : Mm D0 w0 w' (X' ++ Y) := by
  have hp := List.pairwise_append.1 M.pair
  have hy : ∀ y ∈ Y, y.holds w := fun y h => M.mem (List.mem_append_right X h)
  refine .of_pair (M.kept.trans M'.kept h0) (fun x hx => ?_) (List.pairwise_append.2 ⟨M'.pair, hp.2.1, fun x hx y hy2 b h1 h2 => ?_⟩)
  · rcases List.mem_append.1 hx with h1 | h1
    · exact M'.mem h1
    · refine Ent.holds_of (x := x) (hy x h1) M'.kept fun b hb hd => ?_
      obtain ⟨z, hz, hzb⟩ := hD b hd
      exact hp.2.2 z hz x h1 b hzb hb
  · rcases hX x hx b h1 with ⟨z, hz, hzb⟩ | h
    · exact hp.2.2 z hz y hy2 b hzb h2
    · have := Ent.lt (hy y hy2) h2
      omega

/-- Both rows of a book may be written. -/
def BkD (v1 v2 : Value) : Nat → Prop := fun b => v1.ownBlock = some b ∨ v2.ownBlock = some b
set_option maxRecDepth 100000 in
set_option maxHeartbeats 1000000 in
theorem markBook_any (B n m c1 c2 : Nat) (pp1 pp2 : Option Addr) (xs1 xs2 : List Value) (k : Nat) (hn : n ≤ 1048576) (hm : m ≤ 1048576) (hk : k ≤ 1048577) (w : World) (M0 : Mm no w w [.row B (.slice pp1 n c1) n xs1 9 1, .row B (.slice pp2 m c2) m xs2 43 101]) :
    Calls Try.prog 12 #[.agg (bkV pp1 c1 pp2 c2 n m), .int .i64 (k : Int)] w fun e w' => e = .returned (.int .i64 ((k + n + m : Nat) : Int)) ∧ ∃ ys1 ys2, MkdS k n ys1 ∧ MkdQ (k + n) m ys2 ∧ Mm (BkD (.slice pp1 n c1) (.slice pp2 m c2)) w w' [.row B (.slice pp1 n c1) n ys1 9 1, .row B (.slice pp2 m c2) m ys2 43 101] := by
  have M := M0.only (BkD (.slice pp1 n c1) (.slice pp2 m c2))
  have k0 : (bkV pp1 c1 pp2 c2 n m)[0]? = some (.slice pp1 n c1) := rfl
  have k1 : (bkV pp1 c1 pp2 c2 n m)[1]? = some (.slice pp2 m c2) := rfl
  have H1 := Hid2.mk (fun w1 h => markStrR_any B (.slice pp1 n c1) n xs1 k hn hk w1 h)
  have H2 := Hid2.mk (fun w1 h => markSqR_any B (.slice pp2 m c2) m xs2 (k + n) hm (by omega) w1 h)
  clear M0
  go_enter Try.func12, Try.ntmps12
  go_wp2_with (first | ((with_reducible apply wpM_box' M 29 (bkV pp1 c1 pp2 c2 n m)); rfl; exact ⟨rfl, rfl⟩; clear M; (try clear C); intro bb w9 h_bb M; have C := M.ruleAll; simp only [Go.Proofs.Ytinjjaoikofkdaa.ruleAll] at C) | (go_at_call 37; fail))
  refine (H1.out _ (M.row 1 rfl)).mono ?_
  rintro e w1 ⟨rfl, ys1, hy1, M'⟩
  have M9 := Mm.callD (X := [.row B (.slice pp1 n c1) n xs1 9 1]) (Y := [.box bb (bkV pp1 c1 pp2 c2 n m) 29, .row B (.slice pp2 m c2) m xs2 43 101]) (M.sub [1, 0, 2] (by decide)) M' (fun b h => ⟨_, List.mem_singleton.2 rfl, h⟩) (fun x hx b h => by rw [List.mem_singleton.1 hx] at h; exact .inl ⟨_, List.mem_singleton.2 rfl, h⟩) (fun b _ h => .inl h)
  simp only [List.cons_append, List.nil_append] at M9
  clear M; (try clear C)
  have M := M9
  clear M9 M'
  have HY1 := Hid2.mk hy1
  clear hy1
  have C := M.ruleAll; simp only [Go.Proofs.Ytinjjaoikofkdaa.ruleAll] at C
  go_wp2_with (first | (go_at_call 25; fail))
  refine (H2.out _ (M.row 2 rfl)).mono ?_
  rintro e w2 ⟨rfl, ys2, hy2, M'⟩
  have M9 := Mm.callD (X := [.row B (.slice pp2 m c2) m xs2 43 101]) (Y := [.box bb (bkV pp1 c1 pp2 c2 n m) 29, .row B (.slice pp1 n c1) n ys1 9 1]) (M.sub [2, 1, 0] (by decide)) M' (fun b h => ⟨_, List.mem_singleton.2 rfl, h⟩) (fun x hx b h => by rw [List.mem_singleton.1 hx] at h; exact .inl ⟨_, List.mem_singleton.2 rfl, h⟩) (fun b _ h => .inr h)
  simp only [List.cons_append, List.nil_append] at M9
  clear M; (try clear C)
  have M := M9
  clear M9 M'
  have HY2 := Hid2.mk hy2
  clear hy2
  have C := M.ruleAll; simp only [Go.Proofs.Ytinjjaoikofkdaa.ruleAll] at C
  go_wp2
  go_ret
  exact ⟨rfl, ys1, ys2, HY1.out, HY2.out, M.sub [2, 0] (by decide)⟩

set_option maxRecDepth 100000 in
set_option maxHeartbeats 1000000 in
theorem heldBook_any (n m c1 c2 : Nat) (p1 p2 : Option Addr) (k : Nat) (hn : n ≤ 1048576) (hm : m ≤ 1048576) (hk : k ≤ 1048577) (w : World) (f : Nat → Value) (h1 : rdq w p1 n (mkS k)) (h2 : rdq w p2 (m * 101) f) (hf : ∀ j, j < m → f (j * 101) = .int .i64 ((k + n + j : Nat) : Int)) :
    Calls Try.prog 13 #[.agg (bkV p1 c1 p2 c2 n m), .int .i64 (k : Int)] w fun e w' => e = .returned (.int .i64 ((k + n + m : Nat) : Int)) ∧ Below w.heap.size w w' := by
  have M := Mm.start no w
  have k0 : (bkV p1 c1 p2 c2 n m)[0]? = some (.slice p1 n c1) := rfl
  have k1 : (bkV p1 c1 p2 c2 n m)[1]? = some (.slice p2 m c2) := rfl
  have H1 := Hid2.mk (fun w1 (hb : Below w.heap.size w w1) => heldStr_any p1 n c1 k hn hk w1 (h1.later hb))
  have H2 := Hid2.mk (fun w1 (hb : Below w.heap.size w w1) => heldSq_any p2 m c2 (k + n) hm (by omega) w1 f (h2.later hb) hf)
  have hp1 : ¬ ((k + n : Nat) : Int) < 0 := by omega
  have hp2 : ¬ ((k + n + m : Nat) : Int) < 0 := by omega
  generalize ((k + n + m : Nat) : Int) = q2 at *
  generalize ((k + n : Nat) : Int) = q1 at *
  clear h1 h2 hf
  go_enter Try.func13, Try.ntmps13
  go_wp2_with (first | ((with_reducible apply wpM_box' M 29 (bkV p1 c1 p2 c2 n m)); rfl; exact ⟨rfl, rfl⟩; clear M; (try clear C); intro bb w9 h_bb M; have C := M.ruleAll; simp only [Go.Proofs.Ytinjjaoikofkdaa.ruleAll] at C) | (go_at_call 38; ((with_reducible refine (H1.out _ M.below).mono ?_); rintro e w1 ⟨rfl, hb⟩; have hsz := M.size; (try (have G9 := G.later hb; clear G; have G := G9; clear G9)); have M9 := M.later hb; clear M; (try clear C); have M := M9; clear M9; have C := M.ruleAll; simp only [Go.Proofs.Ytinjjaoikofkdaa.ruleAll] at C)) | (go_at_call 39; ((with_reducible refine (H2.out _ M.below).mono ?_); rintro e w1 ⟨rfl, hb⟩; have hsz := M.size; (try (have G9 := G.later hb; clear G; have G := G9; clear G9)); have M9 := M.later hb; clear M; (try clear C); have M := M9; clear M9; have C := M.ruleAll; simp only [Go.Proofs.Ytinjjaoikofkdaa.ruleAll] at C)))
  go_ret
  exact ⟨rfl, M.below⟩

/-- A row of names. -/
def nmR (ns : List ByteArray) : List Value := ns.map .string
/-- A function hands back a new book and a code. -/
def BkNew (ns : List ByteArray) (ls : List Sqr) (code : Int) (w : World) (e : Ending) (w' : World) : Prop :=
  ∃ pp1 c1 pp2 c2, e = .returned (.tuple #[.agg (bkV pp1 c1 pp2 c2 ns.length ls.length), .int .i64 code]) ∧ Mm no w w' [.row w.heap.size (.slice pp1 ns.length c1) ns.length (nmR ns) 9 1, .row w.heap.size (.slice pp2 ls.length c2) ls.length (slC ls) 43 101]
theorem nmR_rdq {w : World} {B c : Nat} {p : Option Addr} {ns : List ByteArray} (h : w.ownsRow B 9 1 (.slice p ns.length c) ns.length (nmR ns)) : rdq w p ns.length (nmF ns) := fun hn => by
  obtain ⟨g, e, hr⟩ := rdq_of_own h (by omega)
  refine ⟨g, e, hr.lt, fun j hj => ?_⟩
  rw [hr.at_ j (by omega), List.getD_eq_getElem?_getD]
  unfold nmR
  rw [List.getElem?_map, List.getElem?_eq_getElem hj, nmF_at hj]
  rfl
theorem mkdS_rdq {w : World} {B c n k : Nat} {p : Option Addr} {ys : List Value} (hy : MkdS k n ys) (h : w.ownsRow B 9 1 (.slice p n c) n ys) : rdq w p n (mkS k) := fun hn => by
  obtain ⟨g, e, hr⟩ := rdq_of_own h (by omega)
  refine ⟨g, e, hr.lt, fun j hj => ?_⟩
  rw [hr.at_ j (by omega), List.getD_eq_getElem?_getD, hy.2 j hj]
  rfl
end Go.Proofs.Ytinjjaoikofkdaa

/- Append of rows of structs that are read; slices.Clone of names and of squares. Printed by gen/h9.py. -/
namespace Go.Proofs.Ytinjjaoikofkdaa
set_option linter.unusedSimpArgs false
set_option linter.unusedVariables false
open Go Go.RowKit

section
variable {P : Program} {D : Nat → Prop} {w0 w : World} {L : List Ent} {ops : Array Oper} {rest : List Oper} {o : Oper} {a : Act} {Q : Exit → Act → World → Prop}
theorem wpM_appN (M : Mm D w0 w L) (t i : Nat) (B : Nat) (v : Value) (n : Nat) (xs : List Value) (e size bytes : Nat) (ad : Addr) (m c : Nat) (news : List Value) (ho : isApp o.op t = true) (hi : L[i]? = some (.row B v n xs e size)) (hs : a.eval (appS o.op) = v) (hx : a.eval (appX o.op) = .slice (some ad) m c)
    (hgd : o.guard = none) (hB : w0.heap.size ≤ B ∨ ∀ k, v.ownBlock = some k → D k) (hBw : B ≤ w.heap.size) (hl : news.length = m * size) (hnews : ∀ j u, news[j]? = some u → w.cell? (ad.add j) = some u) (h1 : ∀ u ∈ news, u.oneCell' = true) {z : Value} (ht : P.underlying t = some (.slice e)) (hinfo : (P.info? e).map (fun i => (i.zero, i.size, i.bytes)) = some (some z, size, bytes))
    (hzs : z.cells.size = size) (hsz : 0 < size) (h63 : n + m ≤ maxLen) (hbytes : (n + m) * bytes ≤ 140737488355328)
    (h : ∀ v' w', Far v' v w0.heap.size → Mm D w0 w' (L.set i (.row B v' (n + m) (xs ++ news) e size)) → wpList P ops Q rest (a.put o.dst v') w') : wpList P ops Q (o :: rest) a w := by
  obtain ⟨i0, hi0, hzz⟩ := Option.map_eq_some_iff.1 hinfo
  simp only [Prod.mk.injEq] at hzz
  obtain ⟨hz0, hz1, hz2⟩ := hzz
  refine wpList_append_own_at w hgd (appS o.op) (appX o.op) t (isApp_spec ho) B e i0 z size bytes ht hi0 hz0 hz1 hz2 hzs hsz v n xs hs (M.row i hi) ad m c news hx hl hnews h1 h63 hbytes hBw fun v' w' h2 h3 _ h5 => h v' w' ?_ (M.longer i hi hB h3 h2 ?_)
  · rcases h5 with h | h
    · exact .inl h
    · exact .inr ⟨_, h, M.size⟩
  · rcases h5 with h | h
    · exact .inl h
    · exact .inr ⟨_, h, Nat.le_refl _⟩
end
theorem und_sqH : Try.prog.underlying 27 = some (.slice 43) := by kernel_rfl
theorem inf_sqH : (Try.prog.info? 43).map (fun i => (i.zero, i.size, i.bytes)) = some (some (.agg (sqs 0 fun _ _ => 0)), 101, 112) := by kernel_rfl
theorem bsl_Q0 (w : World) : (Instr.buildSlice 27 0 [].toArray).run Try.prog w = .ok (.slice (some ⟨w.heap.size, 0, none⟩) 0 0) (w.alloc (.cells #[] 43)) := by kernel_rfl
theorem bsl_Q1 (q : Sqr) (w : World) : (Instr.buildSlice 27 1 [(0, Value.agg (sqs q.n q.t))].toArray).run Try.prog w = .ok (.slice (some ⟨w.heap.size, 0, none⟩) 1 1) (w.alloc (.cells (sqs q.n q.t) 43)) := by kernel_rfl
theorem cloneS_any_one (l : List ByteArray) : ∀ u ∈ nmR l, u.oneCell' = true := fun u hu => by
  obtain ⟨x, _, rfl⟩ := List.mem_map.1 hu
  rfl
theorem cloneQ_any_one (l : List Sqr) : ∀ u ∈ slC l, u.oneCell' = true := fun u hu => by
  obtain ⟨x, _, h⟩ := List.mem_flatMap.1 hu
  have := flat_sqs x.n x.t u h
  cases u <;> first | rfl | cases this

theorem eql_nilJ (a : Option Addr) (l c : Nat) (w : World) : (binOp .eql 22 (.slice a l c) (.slice none 0 0)).run Try.prog w = .ok (.bool a.isNone) w := by
  simp [binOp, run_equal_slice_nil w 22 9 a l c und_slJ]
set_option maxRecDepth 100000 in
set_option maxHeartbeats 1000000 in
theorem cloneS_any (l : List ByteArray) (hl : l.length ≤ 1048576) (w : World) (g c : Nat) (h : rds w g (l.length) (nmF l)) :
    Calls Try.prog 33 #[.slice (some ⟨g, 0, none⟩) l.length c] w fun e w' => ∃ v, e = .returned v ∧ Mm no w w' [.row w.heap.size v l.length (nmR l) 9 1] := by
  have M := Mm.start no w
  have HC := Hid2.mk (fun w1 (hb : Below w.heap.size w w1) j u (hj : (nmR l)[j]? = some u) => (show w1.cell? ((⟨g, 0, none⟩ : Addr).add j) = some u from by
    rw [add_none, Nat.zero_add]
    have hlt := (List.getElem?_eq_some_iff.1 hj).1
    rw [show (nmR l).length = l.length * 1 from by unfold nmR; rw [List.length_map, Nat.mul_one]] at hlt
    rw [(h.later hb).at_ j (by omega)]
    unfold nmR at hj; rw [List.getElem?_map] at hj; obtain ⟨x, hx, rfl⟩ := Option.map_eq_some_iff.1 hj; obtain ⟨h1, rfl⟩ := List.getElem?_eq_some_iff.1 hx; rw [nmF_at h1]))
  have he := eql_nilJ (some ⟨g, 0, none⟩) l.length c
  have hl2 : 0 + l.length ≤ maxLen := by simp only [maxLen]; omega
  have HL := Hid2.mk (show (nmR l).length = l.length * 1 from by rw [show (nmR l).length = l.length * 1 from by unfold nmR; rw [List.length_map, Nat.mul_one]])
  have HO := Hid2.mk (cloneS_any_one l)
  clear h
  go_enter Try.func33, Try.ntmps33
  go_wp2_with (first | (((with_reducible apply wpM_bsl' M 22 0 9 ([]) (#[])); rfl; rfl; rfl; exact bsl_J0; clear M; (try clear C); intro b w9 h_b M; have C := M.ruleAll; simp only [Go.Proofs.Ytinjjaoikofkdaa.ruleAll] at C); have M9 := M.asRow 0 rfl w.heap.size 0 1 h_b rfl (Nat.zero_le _); simp only [List.set_cons_zero] at M9; clear M; (try clear C); have M := M9; clear M9; have C := M.ruleAll; simp only [Go.Proofs.Ytinjjaoikofkdaa.ruleAll] at C) | ((with_reducible apply wpM_appN M 22 0 w.heap.size (.slice (some ⟨b, 0, none⟩) 0 0) 0 [] 9 1 16 ⟨g, 0, none⟩ l.length c (nmR l)); rfl; rfl; rfl; rfl; rfl; exact .inl (Nat.le_refl _); exact M.size; exact HL.out; exact HC.out _ M.below; exact HO.out; exact und_slJ; exact inf_elJ; rfl; decide; exact hl2; omega; intro v2 w9 far M; simp only [List.set_cons_zero] at M))
  go_ret
  exact ⟨_, rfl, by rw [Nat.zero_add, List.nil_append] at M; exact M⟩

theorem eql_nilQ (a : Option Addr) (l c : Nat) (w : World) : (binOp .eql 27 (.slice a l c) (.slice none 0 0)).run Try.prog w = .ok (.bool a.isNone) w := by
  simp [binOp, run_equal_slice_nil w 27 43 a l c und_sqH]
set_option maxRecDepth 100000 in
set_option maxHeartbeats 1000000 in
theorem cloneQ_any (l : List Sqr) (hl : l.length ≤ 1048576) (w : World) (g c : Nat) (h : rds w g (l.length * 101) (fun j => (slC l).getD j undef)) :
    Calls Try.prog 35 #[.slice (some ⟨g, 0, none⟩) l.length c] w fun e w' => ∃ v, e = .returned v ∧ Mm no w w' [.row w.heap.size v l.length (slC l) 43 101] := by
  have M := Mm.start no w
  have HC := Hid2.mk (fun w1 (hb : Below w.heap.size w w1) j u (hj : (slC l)[j]? = some u) => (show w1.cell? ((⟨g, 0, none⟩ : Addr).add j) = some u from by
    rw [add_none, Nat.zero_add]
    have hlt := (List.getElem?_eq_some_iff.1 hj).1
    rw [show (slC l).length = l.length * 101 from rowC_len sqC_size l] at hlt
    rw [(h.later hb).at_ j (by omega)]
    rw [List.getD_eq_getElem?_getD, hj]; rfl))
  have he := eql_nilQ (some ⟨g, 0, none⟩) l.length c
  have hl2 : 0 + l.length ≤ maxLen := by simp only [maxLen]; omega
  have HL := Hid2.mk (show (slC l).length = l.length * 101 from by rw [show (slC l).length = l.length * 101 from rowC_len sqC_size l])
  have HO := Hid2.mk (cloneQ_any_one l)
  clear h
  go_enter Try.func35, Try.ntmps35
  go_wp2_with (first | (((with_reducible apply wpM_bsl' M 27 0 43 ([]) (#[])); rfl; rfl; rfl; exact bsl_Q0; clear M; (try clear C); intro b w9 h_b M; have C := M.ruleAll; simp only [Go.Proofs.Ytinjjaoikofkdaa.ruleAll] at C); have M9 := M.asRow 0 rfl w.heap.size 0 101 h_b rfl (Nat.zero_le _); simp only [List.set_cons_zero] at M9; clear M; (try clear C); have M := M9; clear M9; have C := M.ruleAll; simp only [Go.Proofs.Ytinjjaoikofkdaa.ruleAll] at C) | ((with_reducible apply wpM_appN M 27 0 w.heap.size (.slice (some ⟨b, 0, none⟩) 0 0) 0 [] 43 101 112 ⟨g, 0, none⟩ l.length c (slC l)); rfl; rfl; rfl; rfl; rfl; exact .inl (Nat.le_refl _); exact M.size; exact HL.out; exact HC.out _ M.below; exact HO.out; exact und_sqH; exact inf_sqH; rfl; decide; exact hl2; omega; intro v2 w9 far M; simp only [List.set_cons_zero] at M))
  go_ret
  exact ⟨_, rfl, by rw [Nat.zero_add, List.nil_append] at M; exact M⟩
end Go.Proofs.Ytinjjaoikofkdaa

/- DropLoop of the reference: contract. -/
namespace Go.Proofs.Ytinjjaoikofkdaa
set_option linter.unusedSimpArgs false
set_option linter.unusedVariables false
open Go Go.RowKit

/-- The first k members without the one with number p. -/
def drT {α : Type} (l : List α) (p k : Nat) : List α := (l.take k).eraseIdx p
theorem drT_next {α : Type} {l : List α} {p k : Nat} (hk : k < l.length) (h : k ≠ p) : drT l p (k + 1) = drT l p k ++ [l[k]] := by
  unfold drT
  rw [List.take_succ_eq_append_getElem hk]
  rcases Nat.lt_or_gt_of_ne h with h1 | h1
  · rw [List.eraseIdx_of_length_le (by simp; omega), List.eraseIdx_of_length_le (by simp; omega)]
  · rw [List.eraseIdx_append_of_lt_length (by simp; omega)]
theorem drT_at {α : Type} {l : List α} {k : Nat} (hk : k < l.length) : drT l k (k + 1) = drT l k k := by
  unfold drT
  rw [List.take_succ_eq_append_getElem hk, List.eraseIdx_append_of_length_le (by simp; omega), List.eraseIdx_of_length_le (l := l.take k) (by simp; omega)]
  simp [Nat.min_eq_left (Nat.le_of_lt hk)]
theorem drT_len {α : Type} (l : List α) (p k : Nat) : (drT l p k).length ≤ k := by
  unfold drT
  have := List.length_eraseIdx_le (l.take k) p
  have := List.length_take_le k l
  omega
theorem nmR_snoc (l : List ByteArray) (x : ByteArray) : nmR (l ++ [x]) = nmR l ++ [.string x] := by simp [nmR]
theorem slC_snocH (l : List Sqr) (q : Sqr) : slC (l ++ [q]) = slC l ++ (sqs q.n q.t).toList := by simp [slC, rowC, sqC]
theorem flat_bkv (p1 : Option Addr) (c1 : Nat) (p2 : Option Addr) (c2 n m : Nat) : flat (bkV p1 c1 p2 c2 n m) := fun u hu => by
  simp only [bkV, List.mem_cons, List.not_mem_nil, or_false] at hu
  rcases hu with rfl | rfl <;> rfl
theorem build_bkH (w : World) : (Instr.build 29 #[]).run Try.prog w = .ok (.agg (bkV none 0 none 0 0 0)) w := by kernel_rfl
theorem zero_bkH (w : World) : (zeroValue 29).run Try.prog w = .ok (.agg (bkV none 0 none 0 0 0)) w := by kernel_rfl
theorem namedR_len {ns : List ByteArray} {ls : List Sqr} {s : ByteArray} (h : (namedR ns ls s).2 = 0) : ls.length = ns.length := by
  cases hb : isBk ns ls with
  | false => rw [namedR_1 hb] at h; exact absurd h (by decide)
  | true => exact isBk_len hb
/-- The book without a loop, and a code. -/
noncomputable def dropN (ns : List ByteArray) (ls : List Sqr) (s : ByteArray) : List ByteArray := if (namedR ns ls s).2 = 0 then ns.eraseIdx (namedR ns ls s).1.toNat else []
noncomputable def dropL (ns : List ByteArray) (ls : List Sqr) (s : ByteArray) : List Sqr := if (namedR ns ls s).2 = 0 then ls.eraseIdx (namedR ns ls s).1.toNat else []

set_option maxRecDepth 100000 in
set_option maxHeartbeats 4000000 in
theorem specDropLoop_any {ns : List ByteArray} {ls : List Sqr} (h : BkIn ns ls) (s : ByteArray) (hs : s.size ≤ 1048576) (w : World) {g1 g2 : Nat} (h1 : BkHere ns ls w g1 g2) (c1 c2 : Nat) :
    Calls Try.prog 8 #[.agg (bkA g1 c1 g2 c2 ns.length ls.length), .string s] w fun e w' => BkNew (dropN ns ls s) (dropL ns ls s) (namedR ns ls s).2 w e w' := by
  have M := Mm.start no w
  have k0 : (bkA g1 c1 g2 c2 ns.length ls.length)[0]? = some (.slice (some ⟨g1, 0, none⟩) ns.length c1) := rfl
  have k1 : (bkA g1 c1 g2 c2 ns.length ls.length)[1]? = some (.slice (some ⟨g2, 0, none⟩) ls.length c2) := rfl
  have HP := fun w1 (hb : Below w.heap.size w w1) => l11Named_any h s hs w1 (h1.later hb) c1 c2
  have hbd := build_bkH
  rcases namedR_ok (ns := ns) (ls := ls) (s := s) with ⟨hne, hp0⟩ | ⟨he, p, _, hk, hpk⟩
  · have HR1 := Hid2.mk (show dropN ns ls s = [] from if_neg hne)
    have HR2 := Hid2.mk (show dropL ns ls s = [] from if_neg hne)
    generalize namedR ns ls s = r at hne hp0 HP
    obtain ⟨p, d⟩ := r
    have hd : (d == 0) = false := beq_eq_false_iff_ne.2 hne
    clear h h1 hne hp0
    go_enter Try.func8, Try.ntmps8
    go_wp2_with (first | ((with_reducible apply wpM_box' M 29 (bkA g1 c1 g2 c2 ns.length ls.length)); rfl; exact ⟨rfl, rfl⟩; clear M; (try clear C); intro bb w9 h_bb M; have C := M.ruleAll; simp only [Go.Proofs.Ytinjjaoikofkdaa.ruleAll] at C) | ((with_reducible apply wpM_alloc' M 29 (bkV none 0 none 0 0 0)); rfl; exact ⟨rfl, _, zero_bkH _, rfl⟩; clear M; (try clear C); intro b4 w9 h_b4 M; have C := M.ruleAll; simp only [Go.Proofs.Ytinjjaoikofkdaa.ruleAll] at C) | ((with_reducible apply wpM_lda' M 1 29 0 (bkA g1 c1 g2 c2 ns.length ls.length)); rfl; rfl; rfl; exact ⟨rfl, inf_bok.trans (congrArg some (bok_size ..).symm), _, und_bok, rfl⟩; exact whole_of rfl) | (go_at_call 29; ((with_reducible refine (HP _ M.below).mono ?_); rintro e w1 ⟨rfl, hb⟩; have hsz := M.size; (try (have G9 := G.later hb; clear G; have G := G9; clear G9)); have M9 := M.later hb; clear M; (try clear C); have M := M9; clear M9; have C := M.ruleAll; simp only [Go.Proofs.Ytinjjaoikofkdaa.ruleAll] at C)) | (refine wpList_build 29 _ rfl rfl [] rfl _ (build_bkH _) ?_) | ((with_reducible apply wpM_sta' M 0 29 (bkV none 0 none 0 0 0)); rfl; rfl; rfl; rfl; (first | exact .inl (by assumption) | exact .inr rfl | exact .inr (by assumption)); exact ⟨rfl, inf_bok.trans (congrArg some (bkv_size ..).symm), flat_bkv _ _ _ _ _ _⟩; (simp only [entCells, List.getElem?_cons_zero, List.getElem?_cons_succ, bkv_size, bkv_size]); clear M; (try clear C); intro w9 M; simp only [List.set_cons_zero, List.set_cons_succ, entBlk, entT, List.getElem?_cons_zero, List.getElem?_cons_succ] at M; have C := M.ruleAll; simp only [Go.Proofs.Ytinjjaoikofkdaa.ruleAll] at C))
    refine bodyPost_ret (v := .tuple #[.agg (bkV none 0 none 0 0 0), .int .i64 d]) (by exact results_part2 rfl _ _ _ _ (bkV none 0 none 0 0 0) _ rfl und_bok rfl inf_bok (cells_of_blk0 (M.box 0 rfl)) _ rfl) rfl ?_
    unfold BkNew
    rw [HR1.out, HR2.out]
    exact ⟨none, 0, none, 0, rfl, ((Mm.start no w).later M.below |>.nilRow w.heap.size 43 101).nilRow w.heap.size 9 1⟩
  · have HR1 := Hid2.mk (show dropN ns ls s = drT ns p ns.length by unfold dropN drT; rw [if_pos he, hpk, Int.toNat_natCast, List.take_length])
    have HR2 := Hid2.mk (show dropL ns ls s = drT ls p ls.length by unfold dropL drT; rw [if_pos he, hpk, Int.toNat_natCast, List.take_length])
    have hmn := namedR_len he
    have HLEN := Hid2.mk hmn
    have HMN := Hid2.mk (show ∀ k, k < ns.length → k < ls.length from fun k h => by rw [hmn]; exact h)
    generalize namedR ns ls s = r at he hpk HP
    obtain ⟨p', d⟩ := r
    obtain rfl : d = 0 := he
    obtain rfl : p' = (p : Int) := hpk
    have hnb := h.n
    have HQ := Hid2.mk (fun (j : Nat) (hj : j < ls.length) w1 (hb : Below w.heap.size w w1) => sq_cells (h1.later hb).r2 hj)
    have M9 := M.add (x := .rd g1 ns.length (nmF ns)) h1.r1 fun _ h => by cases h
    clear M h h1 hmn
    have M := M9
    clear M9
    have hdd : ((0 : Int) == 0) = true := rfl
    go_enter Try.func8, Try.ntmps8
    go_wp2_with (first | ((with_reducible apply wpM_box' M 29 (bkA g1 c1 g2 c2 ns.length ls.length)); rfl; exact ⟨rfl, rfl⟩; clear M; (try clear C); intro bb w9 h_bb M; have C := M.ruleAll; simp only [Go.Proofs.Ytinjjaoikofkdaa.ruleAll] at C) | ((fail_if_success have := h_b4); ((with_reducible apply wpM_alloc' M 29 (bkV none 0 none 0 0 0)); rfl; exact ⟨rfl, _, zero_bkH _, rfl⟩; clear M; (try clear C); intro b4 w9 h_b4 M; have C := M.ruleAll; simp only [Go.Proofs.Ytinjjaoikofkdaa.ruleAll] at C)) | ((with_reducible apply wpM_alloc' M 29 (bkV none 0 none 0 0 0)); rfl; exact ⟨rfl, _, zero_bkH _, rfl⟩; clear M; (try clear C); intro b8 w9 h_b8 M; have C := M.ruleAll; simp only [Go.Proofs.Ytinjjaoikofkdaa.ruleAll] at C) | ((with_reducible apply wpM_lda' M 1 29 0 (bkA g1 c1 g2 c2 ns.length ls.length)); rfl; rfl; rfl; exact ⟨rfl, inf_bok.trans (congrArg some (bok_size ..).symm), _, und_bok, rfl⟩; exact whole_of rfl) | (go_at_call 29; ((with_reducible refine (HP _ M.below).mono ?_); rintro e w1 ⟨rfl, hb⟩; have hsz := M.size; (try (have G9 := G.later hb; clear G; have G := G9; clear G9)); have M9 := M.later hb; clear M; (try clear C); have M := M9; clear M9; have C := M.ruleAll; simp only [Go.Proofs.Ytinjjaoikofkdaa.ruleAll] at C)) | (refine wpList_build 29 _ rfl rfl [] rfl _ (build_bkH _) ?_) | ((with_reducible apply wpM_sta' M 0 29 (bkV none 0 none 0 0 0)); rfl; rfl; rfl; rfl; (first | exact .inl (by assumption) | exact .inr rfl | exact .inr (by assumption)); exact ⟨rfl, inf_bok.trans (congrArg some (bkv_size ..).symm), flat_bkv _ _ _ _ _ _⟩; (simp only [entCells, List.getElem?_cons_zero, List.getElem?_cons_succ, bkv_size, bkv_size]); clear M; (try clear C); intro w9 M; simp only [List.set_cons_zero, List.set_cons_succ, entBlk, entT, List.getElem?_cons_zero, List.getElem?_cons_succ] at M; have C := M.ruleAll; simp only [Go.Proofs.Ytinjjaoikofkdaa.ruleAll] at C))
    have M9 := (M.nilRow w.heap.size 43 101).nilRow w.heap.size 9 1
    clear M; (try clear C)
    have M := M9
    clear M9 HP
    go_loopw [9] (fun i wr => ∃ (k : Nat) (pp1 : Option Addr) (d1 : Nat) (pp2 : Option Addr) (d2 : Nat), k ≤ ns.length ∧ i = .int .i64 (k : Int) ∧ Mm no w wr [.row w.heap.size (.slice pp1 (drT ns p k).length d1) (drT ns p k).length (nmR (drT ns p k)) 9 1, .row w.heap.size (.slice pp2 (drT ls p k).length d2) (drT ls p k).length (slC (drT ls p k)) 43 101, .box b8 (bkV pp1 d1 pp2 d2 (drT ns p k).length (drT ls p k).length) 29, .box b4 (bkV none 0 none 0 0 0) 29, .box bb (bkA g1 c1 g2 c2 ns.length ls.length) 29, .rd g1 ns.length (nmF ns)]) (fun i _ => ns.length - (intOf i).toNat)
    case atStart => exact ⟨0, none, 0, none, 0, by omega, rfl, M⟩
    case round =>
      obtain ⟨k, pp1, d1, pp2, d2, hkn, rfl, M9⟩ := hrel
      clear M; (try clear C)
      have M := M9
      clear M9
      by_cases hlt : k < ns.length
      · have hlt' : (k : Int) < (ns.length : Int) := by omega
        have hltm : k < ls.length := HMN.out k hlt
        have hltm' : (k : Int) < (ls.length : Int) := by omega
        have dlt : decide ((k : Int) < (ns.length : Int)) = true := decide_eq_true hlt'
        by_cases hkp : k = p
        · have e1 : drT ns p (k + 1) = drT ns p k := by rw [hkp]; exact drT_at (by omega)
          have e2 : drT ls p (k + 1) = drT ls p k := by rw [hkp]; exact drT_at (by omega)
          have hc : ((k : Int) == (p : Int)) = true := by simp [hkp]
          have HE1 := Hid2.mk e1
          have HE2 := Hid2.mk e2
          clear e1 e2 hkp
          generalize drT ns p k = A1 at *
          generalize drT ls p k = A2 at *
          have C := M.ruleAll; simp only [Go.Proofs.Ytinjjaoikofkdaa.ruleAll] at C
          go_wp2
          go_roundw
          case rel => exact ⟨k + 1, pp1, d1, pp2, d2, by omega, by go_num, by rw [HE1.out, HE2.out]; exact M⟩
          case measure => simp [intOf]; omega
        · have e1 : drT ns p (k + 1) = drT ns p k ++ [ns.getD k .empty] := by rw [drT_next hlt hkp, getD_at hlt]
          have e2 := drT_next (l := ls) hltm hkp
          have hl1 := drT_len ns p k
          have hl2 := drT_len ls p k
          have hc : ((k : Int) == (p : Int)) = false := by rw [beq_eq_false_iff_ne]; omega
          obtain ⟨x, hx⟩ : ∃ x, x = ns.getD k .empty := ⟨_, rfl⟩
          rw [← hx] at e1
          have hnx : nmF ns k = .string x := by rw [hx]; rfl
          clear hx
          have HE1 := Hid2.mk e1
          have HQ1 := Hid2.mk (HQ.out k hltm)
          generalize ls[k] = q at e2 HQ1
          have HE2 := Hid2.mk e2
          clear e1 e2 hkp HQ
          generalize drT ns p k = A1 at *
          generalize drT ls p k = A2 at *
          have j0 : (bkV pp1 d1 pp2 d2 A1.length A2.length)[0]? = some (.slice pp1 A1.length d1) := rfl
          have j1 : (bkV pp1 d1 pp2 d2 A1.length A2.length)[1]? = some (.slice pp2 A2.length d2) := rfl
          have C := M.ruleAll; simp only [Go.Proofs.Ytinjjaoikofkdaa.ruleAll] at C
          go_wp2
          apply wp_region_mmb M [0, 1, 2, 3, 4, 5, 6] 7 8 _ 22 1 9 ([(0, .string x)]) (#[.string x]) (by kernel_rfl) (by kernel_rfl) rfl rfl rfl; (case ht => repeat (first | exact wpTextG_nil | (apply wpTextG_cons; (intro g9 w2 hG; obtain ⟨Lg9, hSt9, G⟩ := hG; have M := G.suffix; have C := M.ruleAll; simp only [Go.Proofs.Ytinjjaoikofkdaa.ruleAll] at C; go_wp2_with (first | (refine wpList_load_part rfl 43 _ rfl (g2) (k * 101) rfl (sqs q.n q.t) _ und_sqs rfl inf_sqs (HQ1.out _ M.below) ?_)); exact ⟨rfl, rfl, Lg9, hSt9, G⟩); rfl))); rfl; exact bsl_J1 _; (clear M; (try clear C); intro bx w2 h_bx M; simp only [List.drop_succ_cons, List.drop_zero]; have C := M.ruleAll; simp only [Go.Proofs.Ytinjjaoikofkdaa.ruleAll] at C)
          go_wp2_with (first | ((with_reducible apply wpM_app' M 22 1 0 (w.heap.size) (.slice pp1 A1.length d1) (A1.length) (nmR A1) 9 1 16); rfl; rfl; rfl; rfl; rfl; rfl; rfl; (first | exact .inl (Nat.le_refl _) | exact .inl (by assumption) | exact .inr (by assumption) | exact .inr HDv.out); (first | exact M.size | (have hq := M.size; omega)); exact und_slJ; exact inf_elJ; rfl; decide; decide; rfl; exact rfl; exact flat_J1 _; omega; clear M; (try clear C); intro v3 w9 far_v3 M; simp only [List.set_cons_zero, List.set_cons_succ, entBlk, entT, List.getElem?_cons_zero, List.getElem?_cons_succ] at M; obtain ⟨pp_v3, cap_v3, rfl⟩ := own_form (M.row 1 rfl); have C := M.ruleAll; simp only [Go.Proofs.Ytinjjaoikofkdaa.ruleAll] at C) | ((with_reducible apply wpM_st' M 3 22 (0) (bkV pp_v3 cap_v3 pp2 d2 (A1.length + 1) A2.length)); rfl; rfl; rfl; (first | exact .inl (by assumption) | exact .inr rfl | exact .inr (by assumption)); exact ⟨rfl, rfl, by kernel_rfl⟩; (exact Nat.lt_of_lt_of_eq (by omega) (bkv_size ..).symm); exact rfl; clear M; (try clear C); intro w9 M; simp only [List.set_cons_zero, List.set_cons_succ, entBlk, entT, List.getElem?_cons_zero, List.getElem?_cons_succ] at M; have C := M.ruleAll; simp only [Go.Proofs.Ytinjjaoikofkdaa.ruleAll] at C))
          have j2 : (bkV pp_v3 cap_v3 pp2 d2 (A1.length + 1) A2.length)[0]? = some (.slice pp_v3 (A1.length + 1) cap_v3) := rfl
          have j3 : (bkV pp_v3 cap_v3 pp2 d2 (A1.length + 1) A2.length)[1]? = some (.slice pp2 A2.length d2) := rfl
          go_wp2
          apply wp_region_mmb M [0, 1, 2, 3, 4, 5, 6] 7 8 _ 27 1 43 ([(0, .agg (sqs q.n q.t))]) (sqs q.n q.t) (by kernel_rfl) (by kernel_rfl) rfl rfl rfl; (case ht => repeat (first | exact wpTextG_nil | (apply wpTextG_cons; (intro g9 w2 hG; obtain ⟨Lg9, hSt9, G⟩ := hG; have M := G.suffix; have C := M.ruleAll; simp only [Go.Proofs.Ytinjjaoikofkdaa.ruleAll] at C; go_wp2_with (first | (refine wpList_load_part rfl 43 _ rfl (g2) (k * 101) rfl (sqs q.n q.t) _ und_sqs rfl inf_sqs (HQ1.out _ M.below) ?_)); exact ⟨rfl, rfl, Lg9, hSt9, G⟩); rfl))); rfl; exact bsl_Q1 q; (clear M; (try clear C); intro by_ w2 h_by_ M; simp only [List.drop_succ_cons, List.drop_zero]; have C := M.ruleAll; simp only [Go.Proofs.Ytinjjaoikofkdaa.ruleAll] at C)
          go_wp2_with (first | ((with_reducible apply wpM_app' M 27 3 0 (w.heap.size) (.slice pp2 A2.length d2) (A2.length) (slC A2) 43 101 112); rfl; rfl; rfl; rfl; rfl; rfl; rfl; (first | exact .inl (Nat.le_refl _) | exact .inl (by assumption) | exact .inr (by assumption) | exact .inr HDv.out); (first | exact M.size | (have hq := M.size; omega)); exact und_sqH; exact inf_sqH; rfl; decide; decide; rfl; exact sqs_size ..; exact flat_sqs _ _; omega; clear M; (try clear C); intro v4 w9 far_v4 M; simp only [List.set_cons_zero, List.set_cons_succ, entBlk, entT, List.getElem?_cons_zero, List.getElem?_cons_succ] at M; obtain ⟨pp_v4, cap_v4, rfl⟩ := own_form (M.row 3 rfl); have C := M.ruleAll; simp only [Go.Proofs.Ytinjjaoikofkdaa.ruleAll] at C) | ((with_reducible apply wpM_st' M 4 27 (1) (bkV pp_v3 cap_v3 pp_v4 cap_v4 (A1.length + 1) (A2.length + 1))); rfl; rfl; rfl; (first | exact .inl (by assumption) | exact .inr rfl | exact .inr (by assumption)); exact ⟨rfl, rfl, by kernel_rfl⟩; (exact Nat.lt_of_lt_of_eq (by omega) (bkv_size ..).symm); exact rfl; clear M; (try clear C); intro w9 M; simp only [List.set_cons_zero, List.set_cons_succ, entBlk, entT, List.getElem?_cons_zero, List.getElem?_cons_succ] at M; have C := M.ruleAll; simp only [Go.Proofs.Ytinjjaoikofkdaa.ruleAll] at C))
          go_roundw
          case rel => exact ⟨k + 1, pp_v3, cap_v3, pp_v4, cap_v4, by omega, by go_num, by
            rw [HE1.out, HE2.out, nmR_snoc, slC_snocH, List.length_append, List.length_append]
            exact (M.sub [2, 3, 4, 5, 6, 7] (by decide)).eq rfl⟩
          case measure => simp [intOf]; omega
      · obtain rfl : k = ns.length := by omega
        have hge : ¬ ((ns.length : Int) < (ns.length : Int)) := by omega
        have HR3 := Hid2.mk (show dropL ns ls s = drT ls p ns.length by rw [HR2.out, HLEN.out])
        clear HR2 HQ HMN
        generalize drT ns p ns.length = A1 at *
        generalize drT ls p ns.length = A2 at *
        have C := M.ruleAll; simp only [Go.Proofs.Ytinjjaoikofkdaa.ruleAll] at C
        go_wp2_with (first | ((with_reducible apply wpM_lda' M 2 29 0 (bkV pp1 d1 pp2 d2 A1.length A2.length)); rfl; rfl; rfl; exact ⟨rfl, inf_bok.trans (congrArg some (bkv_size ..).symm), _, und_bok, rfl⟩; exact whole_of rfl) | ((with_reducible apply wpM_sta' M 3 29 (bkV pp1 d1 pp2 d2 A1.length A2.length)); rfl; rfl; rfl; rfl; (first | exact .inl (by assumption) | exact .inr rfl | exact .inr (by assumption)); exact ⟨rfl, inf_bok.trans (congrArg some (bkv_size ..).symm), flat_bkv _ _ _ _ _ _⟩; (simp only [entCells, List.getElem?_cons_zero, List.getElem?_cons_succ, bkv_size, bkv_size]); clear M; (try clear C); intro w9 M; simp only [List.set_cons_zero, List.set_cons_succ, entBlk, entT, List.getElem?_cons_zero, List.getElem?_cons_succ] at M; have C := M.ruleAll; simp only [Go.Proofs.Ytinjjaoikofkdaa.ruleAll] at C))
        refine bodyPost_ret (v := .tuple #[.agg (bkV pp1 d1 pp2 d2 A1.length A2.length), .int .i64 0]) (by exact results_part2 rfl _ _ _ _ (bkV pp1 d1 pp2 d2 A1.length A2.length) _ rfl und_bok rfl inf_bok (cells_of_blk0 (M.box 3 rfl)) _ rfl) rfl ?_
        unfold BkNew
        rw [HR1.out, HR3.out]
        exact ⟨pp1, d1, pp2, d2, rfl, (M.sub [0, 1] (by decide)).eq rfl⟩

theorem newRows {w w' : World} {v1 v2 : Value} {n1 n2 : Nat} {xs1 xs2 : List Value} {e1 s1 e2 s2 : Nat} (M : Mm no w w' [.row w.heap.size v1 n1 xs1 e1 s1, .row w.heap.size v2 n2 xs2 e2 s2]) : ∀ x ∈ [Ent.row w.heap.size v1 n1 xs1 e1 s1, .row w.heap.size v2 n2 xs2 e2 s2], ∀ b, x.place b → w.heap.size ≤ b := fun x hx b hb => by
  simp only [List.mem_cons, List.not_mem_nil, or_false] at hx
  rcases hx with rfl | rfl
  · exact own_ge (M.row 0 rfl) hb
  · exact own_ge (M.row 1 rfl) hb
theorem slR_rdq {w : World} {B c : Nat} {p : Option Addr} {ls : List Sqr} (h : w.ownsRow B 43 101 (.slice p ls.length c) ls.length (slC ls)) : rdq w p (ls.length * 101) (fun j => (slC ls).getD j undef) := rdq_of_own h
theorem heldBook1_any (n m c1 c2 : Nat) (p1 p2 : Option Addr) (hn : n ≤ 1048576) (hm : m ≤ 1048576) (w : World) (f : Nat → Value) (h1 : rdq w p1 n (mkS 1)) (h2 : rdq w p2 (m * 101) f) (hf : ∀ j, j < m → f (j * 101) = .int .i64 ((1 + n + j : Nat) : Int)) :
    Calls Try.prog 13 #[.agg (bkV p1 c1 p2 c2 n m), .int .i64 1] w fun e w' => e = .returned (.int .i64 ((1 + n + m : Nat) : Int)) ∧ Below w.heap.size w w' := heldBook_any n m c1 c2 p1 p2 1 hn hm (by omega) w f h1 h2 hf
/-- The rows of a book are marked. -/
theorem Mm.markd {w0 w w' : World} {Y : List Ent} {B n m c1 c2 : Nat} {p1 p2 : Option Addr} {xs1 xs2 ys1 ys2 : List Value} {e1 e2 s2 : Nat} (M : Mm no w0 w (.row B (.slice p1 n c1) n xs1 e1 1 :: .row B (.slice p2 m c2) m xs2 e2 s2 :: Y)) (hB : w0.heap.size ≤ B)
    (M' : Mm (BkD (.slice p1 n c1) (.slice p2 m c2)) w w' [.row B (.slice p1 n c1) n ys1 e1 1, .row B (.slice p2 m c2) m ys2 e2 s2]) : Mm no w0 w' (.row B (.slice p1 n c1) n ys1 e1 1 :: .row B (.slice p2 m c2) m ys2 e2 s2 :: Y) := by
  have h1 := M.row 0 rfl
  have h2 := M.row 1 rfl
  refine Mm.callD (X := [.row B (.slice p1 n c1) n xs1 e1 1, .row B (.slice p2 m c2) m xs2 e2 s2]) (X' := [.row B (.slice p1 n c1) n ys1 e1 1, .row B (.slice p2 m c2) m ys2 e2 s2]) M M' (fun b h => ?_) (fun x hx b h => .inl ?_) (fun b hb h => ?_)
  · rcases h with h | h
    · exact ⟨_, List.mem_cons_self .., h⟩
    · exact ⟨_, List.mem_cons_of_mem _ (List.mem_cons_self ..), h⟩
  · simp only [List.mem_cons, List.not_mem_nil, or_false] at hx
    rcases hx with rfl | rfl
    · exact ⟨_, List.mem_cons_self .., h⟩
    · exact ⟨_, List.mem_cons_of_mem _ (List.mem_cons_self ..), h⟩
  · rcases h with h | h
    · have := own_ge h1 h; omega
    · have := own_ge h2 h; omega
end Go.Proofs.Ytinjjaoikofkdaa

