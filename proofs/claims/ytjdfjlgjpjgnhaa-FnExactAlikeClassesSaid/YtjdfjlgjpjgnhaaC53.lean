/- Lists of lists of numbers: compared, marked and held; contracts. -/
import Derived.Test.YtjdfjlgjpjgnhaaC52
import Derived.Test.YtjdfjlgjpjgnhaaC49
namespace Go.Proofs.Ytjdfjlgjpjgnhaa
set_option linter.unusedSimpArgs false
set_option linter.unusedVariables false
open Go Go.RowKit

theorem rdq.congr {w : World} {p : Option Addr} {n : Nat} {f f' : Nat → Value} (h : rdq w p n f) (he : ∀ j, j < n → f j = f' j) : rdq w p n f' := fun hn => by
  obtain ⟨g, e, hr⟩ := h hn
  exact ⟨g, e, hr.lt, fun j hj => by rw [← he j hj]; exact hr.at_ j hj⟩
def toI (c : List Nat) : List Int := c.map fun (i : Nat) => (i : Int)
theorem toI_len (c : List Nat) : (toI c).length = c.length := by simp [toI]
theorem ints_getD (c : List Nat) {j : Nat} (hj : j < c.length) : (ints c).getD j undef = intF (toI c) j := by
  unfold intF elI toI ints
  rw [List.getD_eq_getElem?_getD, List.getD_eq_getElem?_getD, List.getElem?_map, List.getElem?_map, List.getElem?_eq_getElem hj]
  rfl
/-- A list of lists of numbers that a slice of slices holds, read. -/
def ClsHere (w : World) (v : Value) (cls : List (List Nat)) : Prop :=
  ∃ (pp : Option Addr) (cap : Nat) (vs : List Value), v = .slice pp cls.length cap ∧ vs.length = cls.length ∧ rdq w pp cls.length (fun j => vs.getD j undef) ∧ ∀ k (hk : k < cls.length), ∃ p c, vs.getD k undef = .slice p cls[k].length c ∧ rdq w p cls[k].length (intF (toI cls[k]))
theorem ClsHere.kept {w w' : World} {v : Value} {cls : List (List Nat)} (h : ClsHere w v cls) (hk : ∀ p n f, rdq w p n f → rdq w' p n f) : ClsHere w' v cls := by
  obtain ⟨pp, cap, vs, e, hl, hr, hc⟩ := h
  exact ⟨pp, cap, vs, e, hl, hk _ _ _ hr, fun k hk' => by
    obtain ⟨p, c, e, hr⟩ := hc k hk'
    exact ⟨p, c, e, hk _ _ _ hr⟩⟩
theorem ClsHere.later {w w' : World} {v : Value} {cls : List (List Nat)} (h : ClsHere w v cls) (hb : Below w.heap.size w w') : ClsHere w' v cls := h.kept fun _ _ _ h => h.later hb
theorem ClsHere.of {w : World} {B eo ei : Nat} {v : Value} {vs : List Value} {cls : List (List Nat)} (hvl : vs.length = cls.length) (hE : ∀ x ∈ Ent.row B v cls.length vs eo 1 :: clsE B ei vs cls, x.holds w) : ClsHere w v cls := by
  have h0 : w.ownsRow B eo 1 v cls.length vs := hE _ (List.mem_cons_self ..)
  obtain ⟨pp, cap, rfl⟩ := own_form h0
  have hr := rdq_of_own h0
  rw [Nat.mul_one] at hr
  refine ⟨pp, cap, vs, rfl, hvl, hr, fun k hk => ?_⟩
  have h1 : w.ownsRow B ei 1 (vs[k]'(by omega)) cls[k].length (ints cls[k]) := hE (.row B (vs[k]'(by omega)) cls[k].length (ints cls[k]) ei 1) (List.mem_cons_of_mem _ (List.mem_of_getElem? (clsE_get (by omega) hk)))
  obtain ⟨p, c, e⟩ := own_form h1
  rw [e] at h1
  have hr1 := rdq_of_own h1
  rw [Nat.mul_one] at hr1
  exact ⟨p, c, by rw [getD_at (by omega)]; exact e, hr1.congr fun j hj => ints_getD _ hj⟩

set_option maxRecDepth 100000 in
set_option maxHeartbeats 1000000 in
theorem eqInt64SS_any (cls : List (List Nat)) (hn : cls.length ≤ 1048576) (hc : ∀ c ∈ cls, c.length ≤ 1048576) (w : World) (v1 v2 : Value) (h1 : ClsHere w v1 cls) (h2 : ClsHere w v2 cls) :
    Calls Try.prog 35 #[v1, v2] w fun e w' => e = .returned (.bool true) ∧ Below w.heap.size w w' := by
  obtain ⟨p1, c1, vs1, rfl, hl1, hr1, hk1⟩ := h1
  obtain ⟨p2, c2, vs2, rfl, hl2, hr2, hk2⟩ := h2
  have M := Mm.start no w
  have he : ((cls.length : Int) == (cls.length : Int)) = true := by simp
  have F1 := Hid2.mk (fun w1 (hb : Below w.heap.size w w1) => hr1.later hb)
  have F2 := Hid2.mk (fun w1 (hb : Below w.heap.size w w1) => hr2.later hb)
  have HK1 := Hid2.mk hk1
  have HK2 := Hid2.mk hk2
  have HC := Hid2.mk hc
  clear hr1 hr2 hk1 hk2 hc
  go_enter Try.func35, Try.ntmps35
  go_wp2
  go_loopw [5] (fun i wr => ∃ k : Nat, k ≤ cls.length ∧ i = .int .i64 (k : Int) ∧ Mm no w wr []) (fun i _ => cls.length - (intOf i).toNat)
  case atStart => exact ⟨0, by omega, rfl, M⟩
  case round =>
    obtain ⟨k, hk, rfl, M9⟩ := hrel
    clear M
    have M := M9
    clear M9
    by_cases hlt : k < cls.length
    · have hlt' : (k : Int) < (cls.length : Int) := by omega
      obtain ⟨g1, rfl, _⟩ := F1.out _ M.below (by omega)
      obtain ⟨g2, rfl, _⟩ := F2.out _ M.below (by omega)
      obtain ⟨q1, d1, e1, hq1⟩ := HK1.out k hlt
      obtain ⟨q2, d2, e2, hq2⟩ := HK2.out k hlt
      have hc1 : ∀ w1, Below w.heap.size w w1 → w1.cell? ⟨g1, k, none⟩ = some (.slice q1 cls[k].length d1) := fun w1 hb => by
        obtain ⟨g, e, hr⟩ := F1.out w1 hb (by omega)
        cases e
        rw [hr.at_ k hlt, e1]
      have hc2 : ∀ w1, Below w.heap.size w w1 → w1.cell? ⟨g2, k, none⟩ = some (.slice q2 cls[k].length d2) := fun w1 hb => by
        obtain ⟨g, e, hr⟩ := F2.out w1 hb (by omega)
        cases e
        rw [hr.at_ k hlt, e2]
      have HE := fun w1 (hb : Below w.heap.size w w1) => eqInt64S_any (toI cls[k]) (by rw [toI_len]; have := HC.out _ (List.getElem_mem hlt); omega) w1 q1 q2 d1 d2 (by rw [toI_len]; exact hq1.later hb) (by rw [toI_len]; exact hq2.later hb)
      rw [toI_len] at HE
      have C1 := Hid2.mk hc1
      have C2 := Hid2.mk hc2
      clear hc1 hc2 e1 e2 hq1 hq2
      go_wp2
      apply wp_region_mm M 8 (by kernel_rfl) (by kernel_rfl)
      · simp only [List.take_succ_cons, List.take_zero]
        repeat (first | exact wpText_nil | (apply wpText_cons; (intro w2 M; have hd1 := C1.out _ M.below; have hd2 := C2.out _ M.below; go_wp2; exact ⟨rfl, rfl, M⟩); rfl))
      clear M
      intro w2 M
      simp only [List.drop_succ_cons, List.drop_zero]
      go_wp2_with (first | (go_at_call 82; ((with_reducible refine (HE _ M.below).mono ?_); rintro e w1 ⟨rfl, hb⟩; have hsz := M.size; have M9 := M.later hb; clear M; (try clear C); have M := M9; clear M9; (try simp only [List.set_cons_zero, List.set_cons_succ] at M); have C := M.ruleAll; simp only [Go.Proofs.Ytjdfjlgjpjgnhaa.ruleAll] at C)))
      go_roundw
      case rel => exact ⟨k + 1, by omega, by go_num, M⟩
      case measure => simp [intOf]; omega
    · obtain rfl : k = cls.length := by omega
      have hge : ¬ ((cls.length : Int) < (cls.length : Int)) := by omega
      go_wp2
      go_ret
      exact ⟨rfl, M.below⟩

/-- n numbers from k on. -/
def mkV (k : Int) (n : Nat) : List Value := (List.range n).map fun (j : Nat) => .int .i64 (k + (j : Int))
theorem mkV_get {k : Int} {n j : Nat} (hj : j < n) : (mkV k n)[j]? = some (.int .i64 (k + (j : Int))) := by
  unfold mkV; rw [List.getElem?_map, List.getElem?_range hj]; rfl

set_option maxRecDepth 100000 in
set_option maxHeartbeats 1000000 in
theorem markInt64S_any (B : Nat) (v : Value) (n : Nat) (xs : List Value) (k : Int) (h0 : 0 ≤ k) (h1 : k + (n : Int) ≤ 4611686018427387904) (w : World) (h : w.ownsRow B 2 1 v n xs) :
    Calls Try.prog 83 #[v, .int .i64 k] w fun e w' => e = .returned (.int .i64 (k + (n : Int))) ∧ Kept (fun b => v.ownBlock = some b) w w' ∧ w'.ownsRow B 2 1 v n (mkV k n) := by
  have hlen : xs.length = n := by have := h.1; omega
  have M := ((Mm.start no w).only (fun b => v.ownBlock = some b)).add (x := .row B v n xs 2 1) h fun _ h => by cases h
  obtain ⟨pp, cap, rfl⟩ := own_form h
  clear h
  go_enter Try.func83, Try.ntmps83
  go_wp2
  go_loopw [5, 1] (fun i z wr => ∃ j : Nat, j ≤ n ∧ i = .int .i64 (j : Int) ∧ z = .int .i64 (k + (j : Int)) ∧ ∃ cur : List Value, cur.length = n ∧ (∀ t, t < j → cur[t]? = some (.int .i64 (k + (t : Int)))) ∧ Mm (fun b => (Value.slice pp n cap).ownBlock = some b) w wr [.row B (.slice pp n cap) n cur 2 1]) (fun i _ _ => n - (intOf i).toNat)
  case atStart => exact ⟨0, by omega, rfl, by simp, xs, hlen, fun t h => by omega, M⟩
  case round =>
    obtain ⟨j, hj, rfl, rfl, cur, hcl, hcur, M9⟩ := hrel
    clear M
    have M := M9
    clear M9
    have HCU := Hid2.mk hcur
    clear hcur
    by_cases hlt : j < n
    · have hlt' : (j : Int) < (n : Int) := by omega
      obtain ⟨g, cap', he, _, _, _⟩ := own_rds (M.row 0 rfl) (by omega)
      cases he
      have hown := M.row 0 rfl
      have hcell := World.ownsRow.cellAt hown j (by omega)
      rw [List.getElem?_eq_getElem (show j < cur.length by omega)] at hcell
      have hw : wrap64 (k + (j : Int) + 1) = k + ((j + 1 : Nat) : Int) := by rw [wrap_small _ (by omega) (by omega)]; omega
      clear hown
      go_wp2_with (first | ((with_reducible apply wpM_rst' M 0 2 B g n cap 2 cur j (.int .i64 (k + (j : Int)))); rfl; rfl; rfl; rfl; exact ⟨rfl, rfl, by kernel_rfl⟩; exact .inr rfl; exact hlt; (clear M; intro w9 M)))
      go_roundw
      case rel =>
        refine ⟨j + 1, by omega, by go_num, by first | rfl | (congr 1; omega), cur.set j (.int .i64 (k + (j : Int))), by rw [List.length_set]; exact hcl, fun t ht => ?_, M⟩
        rw [List.getElem?_set]
        split
        · rename_i e; subst e; rw [if_pos (by omega)]
        · exact HCU.out t (by omega)
      case measure => simp [intOf]; omega
    · obtain rfl : j = n := by omega
      have hge : ¬ ((j : Int) < (j : Int)) := by omega
      have e : cur = mkV k j := by
        apply List.ext_getElem?
        intro t
        rcases Nat.lt_or_ge t j with ht | ht
        · rw [HCU.out t ht, mkV_get ht]
        · rw [List.getElem?_eq_none (by omega), List.getElem?_eq_none (by simp [mkV]; exact ht)]
      have HE := Hid2.mk e
      clear e
      go_wp2
      go_ret
      exact ⟨rfl, M.kept, by rw [← HE.out]; exact M.row 0 rfl⟩

set_option maxRecDepth 100000 in
set_option maxHeartbeats 1000000 in
theorem heldInt64S_any (p : Option Addr) (n cap : Nat) (k : Int) (h0 : 0 ≤ k) (h1 : k + (n : Int) ≤ 4611686018427387904) (w : World) (h : rdq w p n (fun j => .int .i64 (k + (j : Int)))) :
    Calls Try.prog 84 #[.slice p n cap, .int .i64 k] w fun e w' => e = .returned (.int .i64 (k + (n : Int))) ∧ Below w.heap.size w w' := by
  have M := Mm.start no w
  have F1 := Hid2.mk (fun w1 (hb : Below w.heap.size w w1) => h.later hb)
  clear h
  go_enter Try.func84, Try.ntmps84
  go_wp2
  go_loopw [5, 1] (fun i z wr => ∃ j : Nat, j ≤ n ∧ i = .int .i64 (j : Int) ∧ z = .int .i64 (k + (j : Int)) ∧ Mm no w wr []) (fun i _ _ => n - (intOf i).toNat)
  case atStart => exact ⟨0, by omega, rfl, by simp, M⟩
  case round =>
    obtain ⟨j, hj, rfl, rfl, M9⟩ := hrel
    clear M
    have M := M9
    clear M9
    by_cases hlt : j < n
    · have hlt' : (j : Int) < (n : Int) := by omega
      obtain ⟨g, rfl, hr⟩ := F1.out _ M.below (by omega)
      have hcell := hr.at_ j hlt
      have hx : (k + (j : Int) == k + (j : Int)) = true := by simp
      have hw : wrap64 (k + (j : Int) + 1) = k + ((j + 1 : Nat) : Int) := by rw [wrap_small _ (by omega) (by omega)]; omega
      clear hr
      go_wp2
      go_roundw
      case rel => exact ⟨j + 1, by omega, by go_num, by first | rfl | (congr 1; omega), M⟩
      case measure => simp [intOf]; omega
    · obtain rfl : j = n := by omega
      have hge : ¬ ((j : Int) < (j : Int)) := by omega
      go_wp2
      go_ret
      exact ⟨rfl, M.below⟩

set_option maxRecDepth 100000 in
set_option maxHeartbeats 1000000 in
theorem markSquareS_any (g n t : Nat) (cs : Array Value) (hcs : cs.size = n * 101) (hn : n ≤ 1048576) (cap : Nat) (k : Int) (h0 : 0 ≤ k) (h1 : k ≤ 1048576) (w : World) (h : blk w g cs t) :
    Calls Try.prog 37 #[.slice (some ⟨g, 0, none⟩) n cap, .int .i64 k] w fun e w' => e = .returned (.int .i64 (k + (n : Int))) ∧ w.grownBy w' (some g) ∧ ∃ cs' : Array Value, blk w' g cs' t := by
  have M := ((Mm.start no w).only (fun b => b = g)).add (x := .box g cs t) h fun _ h => by cases h
  clear h
  have C := M.ruleAll; simp only [Go.Proofs.Ytjdfjlgjpjgnhaa.ruleAll] at C
  go_enter Try.func37, Try.ntmps37
  go_wp2
  go_loopw [5, 1] (fun i z wr => ∃ j : Nat, j ≤ n ∧ i = .int .i64 (j : Int) ∧ z = .int .i64 (k + (j : Int)) ∧ ∃ cur : Array Value, cur.size = n * 101 ∧ Mm (fun b => b = g) w wr [.box g cur t]) (fun i _ _ => n - (intOf i).toNat)
  case atStart => exact ⟨0, by omega, rfl, by simp, cs, hcs, M⟩
  case round =>
    obtain ⟨j, hj, rfl, rfl, cur, hcl, M9⟩ := hrel
    clear M; (try clear C)
    have M := M9
    clear M9
    have C := M.ruleAll; simp only [Go.Proofs.Ytjdfjlgjpjgnhaa.ruleAll] at C
    by_cases hlt : j < n
    · have hlt' : (j : Int) < (n : Int) := by omega
      have hw : wrap64 (k + (j : Int) + 1) = k + ((j + 1 : Nat) : Int) := by rw [wrap_small _ (by omega) (by omega)]; omega
      go_wp2_with (first | ((with_reducible apply wpM_st' M 0 2 (j * 101) (cur.setIfInBounds (j * 101) (.int .i64 (k + (j : Int))))); rfl; rfl; rfl; exact .inr rfl; exact ⟨rfl, rfl, by kernel_rfl⟩; exact Nat.lt_of_lt_of_eq (show j * 101 < n * 101 by omega) hcl.symm; exact rfl; (clear M; (try clear C); intro w9 M; simp only [List.set_cons_zero, entBlk, entT, List.getElem?_cons_zero] at M; have C := M.ruleAll; simp only [Go.Proofs.Ytjdfjlgjpjgnhaa.ruleAll] at C)))
      go_roundw
      case rel => exact ⟨j + 1, by omega, by go_num, by first | rfl | (congr 1; omega), _, by rw [Array.size_setIfInBounds]; exact hcl, M⟩
      case measure => simp [intOf]; omega
    · obtain rfl : j = n := by omega
      have hge : ¬ ((j : Int) < (j : Int)) := by omega
      go_wp2
      go_ret
      exact ⟨rfl, M.kept.grown, cur, M.box 0 rfl⟩
end Go.Proofs.Ytjdfjlgjpjgnhaa
