/- Lists of numbers and of bytes in the laws: laid anew, compared, marked and held; contracts. -/
import Derived.Test.YteonahoboligdaaDoorK12
import Derived.Test.YteonahoboligdaaDoorC1
import Derived.Test.YteonahoboligdaaDoorK9
namespace Go.Proofs.YteonahoboligdaaDoor
set_option linter.unusedSimpArgs false
set_option linter.unusedVariables false
open Go Go.RowKit

theorem rdp.later {w w' : World} {p : Option Addr} {n : Nat} {f : Nat → Value} (h : rdp w p n f) (hb : Below w.heap.size w w') : rdp w' p n f := h.kept (.of_below hb no) fun _ _ _ h => h
theorem rdq.later {w w' : World} {p : Option Addr} {n : Nat} {f : Nat → Value} (h : rdq w p n f) (hb : Below w.heap.size w w') : rdq w' p n f := h.kept (.of_below hb no) fun _ _ _ h => h
theorem rdq.congr {w : World} {p : Option Addr} {n : Nat} {f f' : Nat → Value} (h : rdq w p n f) (he : ∀ j, j < n → f j = f' j) : rdq w p n f' := fun hn => by
  obtain ⟨g, e, hr⟩ := h hn
  exact ⟨g, e, hr.lt, fun j hj => by rw [← he j hj]; exact hr.at_ j hj⟩
theorem wrap_small (x : Int) (h1 : -9223372036854775808 ≤ x) (h2 : x ≤ 9223372036854775807) : wrap64 x = x := by
  unfold wrap64; omega

theorem new_box {B g t : Nat} {cs : Array Value} (h : B ≤ g) : ∀ x ∈ [Ent.box g cs t], ∀ b, x.place b → B ≤ b := fun x hx b hb => by
  simp only [List.mem_singleton] at hx; subst hx; cases hb; exact h
theorem Mm.join1 {D : Nat → Prop} {w0 w w' : World} {L : List Ent} {x : Ent} (M : Mm D w0 w L) (M' : Mm no w w' [x]) (hn : ∀ y ∈ [x], ∀ b, y.place b → w.heap.size ≤ b) : Mm D w0 w' (x :: L) := M.join M' hn
theorem new_box2 {B g t g' t' : Nat} {cs cs' : Array Value} (h : B ≤ g) (h' : B ≤ g') : ∀ x ∈ [Ent.box g cs t, Ent.box g' cs' t'], ∀ b, x.place b → B ≤ b := fun x hx b hb => by
  simp only [List.mem_cons, List.not_mem_nil, or_false] at hx
  rcases hx with rfl | rfl <;> cases hb <;> assumption
/-- The number at a place. -/
def elI (xs : List Int) (j : Nat) : Int := xs.getD j 0
/-- A row of numbers. -/
def intF (xs : List Int) (j : Nat) : Value := .int .i64 (elI xs j)
theorem und_sl64 : Tryd.prog.underlying 26 = some (.slice 2) := by kernel_rfl
theorem inf_el64 : (Tryd.prog.info? 2).map (fun i => (i.zero, i.size, i.bytes)) = some (some (.int .i64 0), 1, 8) := by kernel_rfl
def intC (xs : List Int) (cs : Array Value) : Prop := cs.size = xs.length ∧ ∀ j, j < xs.length → cs[j]? = some (intF xs j)

set_option maxRecDepth 100000 in
set_option maxHeartbeats 1000000 in
theorem eqInt64S_any (xs : List Int) (hn : xs.length ≤ 9223372036854775807) (w : World) (p1 p2 : Option Addr) (c1 c2 : Nat) (h1 : rdq w p1 xs.length (intF xs)) (h2 : rdq w p2 xs.length (intF xs)) :
    Calls Tryd.prog 10 #[.slice p1 xs.length c1, .slice p2 xs.length c2] w fun e w' => e = .returned (.bool true) ∧ Below w.heap.size w w' := by
  have M := Mm.start no w
  have he : ((xs.length : Int) == (xs.length : Int)) = true := by simp
  have F1 := Hid2.mk (fun w1 (hb : Below w.heap.size w w1) => h1.later hb)
  have F2 := Hid2.mk (fun w1 (hb : Below w.heap.size w w1) => h2.later hb)
  clear h1 h2
  go_enter Tryd.func10, Tryd.ntmps10
  go_wp2
  go_loopw [5] (fun i wr => ∃ k : Nat, k ≤ xs.length ∧ i = .int .i64 (k : Int) ∧ Mm no w wr []) (fun i _ => xs.length - (intOf i).toNat)
  case atStart => exact ⟨0, by omega, rfl, M⟩
  case round =>
    obtain ⟨k, hk, rfl, M9⟩ := hrel
    clear M
    have M := M9
    clear M9
    by_cases hlt : k < xs.length
    · have hlt' : (k : Int) < (xs.length : Int) := by omega
      obtain ⟨g1, rfl, _⟩ := F1.out _ M.below (by omega)
      obtain ⟨g2, rfl, _⟩ := F2.out _ M.below (by omega)
      have hc1 : ∀ w1, Below w.heap.size w w1 → w1.cell? ⟨g1, k, none⟩ = some (.int .i64 (elI xs k)) := fun w1 hb => by
        obtain ⟨g, e, hr⟩ := F1.out w1 hb (by omega)
        cases e
        exact hr.at_ k hlt
      have hc2 : ∀ w1, Below w.heap.size w w1 → w1.cell? ⟨g2, k, none⟩ = some (.int .i64 (elI xs k)) := fun w1 hb => by
        obtain ⟨g, e, hr⟩ := F2.out w1 hb (by omega)
        cases e
        exact hr.at_ k hlt
      generalize elI xs k = x at hc1 hc2
      have hx : (x == x) = true := by simp
      have C1 := Hid2.mk hc1
      have C2 := Hid2.mk hc2
      clear hc1 hc2
      go_wp2
      apply wp_region_mm M 8 (by kernel_rfl) (by kernel_rfl)
      · simp only [List.take_succ_cons, List.take_zero]
        repeat (first | exact wpText_nil | (apply wpText_cons; (intro w2 M; have hd1 := C1.out _ M.below; have hd2 := C2.out _ M.below; go_wp2; exact ⟨rfl, rfl, M⟩); rfl))
      clear M
      intro w2 M
      simp only [List.drop_succ_cons, List.drop_zero]
      go_wp2
      go_roundw
      case rel => exact ⟨k + 1, by omega, by go_num, M⟩
      case measure => simp [intOf]; omega
    · obtain rfl : k = xs.length := by omega
      have hge : ¬ ((xs.length : Int) < (xs.length : Int)) := by omega
      go_wp2
      go_ret
      exact ⟨rfl, M.below⟩
/-- n numbers from k on. -/
def mkV (k : Int) (n : Nat) : List Value := (List.range n).map fun (j : Nat) => .int .i64 (k + (j : Int))
theorem mkV_get {k : Int} {n j : Nat} (hj : j < n) : (mkV k n)[j]? = some (.int .i64 (k + (j : Int))) := by
  unfold mkV; rw [List.getElem?_map, List.getElem?_range hj]; rfl

set_option maxRecDepth 100000 in
set_option maxHeartbeats 1000000 in
theorem markInt64S_any (B : Nat) (v : Value) (n : Nat) (xs : List Value) (k : Int) (h0 : 0 ≤ k) (h1 : k + (n : Int) ≤ 4611686018427387904) (w : World) (h : w.ownsRow B 2 1 v n xs) :
    Calls Tryd.prog 11 #[v, .int .i64 k] w fun e w' => e = .returned (.int .i64 (k + (n : Int))) ∧ Kept (fun b => v.ownBlock = some b) w w' ∧ w'.ownsRow B 2 1 v n (mkV k n) := by
  have hlen : xs.length = n := by have := h.1; omega
  have M := ((Mm.start no w).only (fun b => v.ownBlock = some b)).add (x := .row B v n xs 2 1) h fun _ h => by cases h
  obtain ⟨pp, cap, rfl⟩ := own_form h
  clear h
  go_enter Tryd.func11, Tryd.ntmps11
  go_wp2
  go_loopw [5, 1] (fun i z wr => ∃ j : Nat, j ≤ n ∧ i = .int .i64 (j : Int) ∧ z = .int .i64 (k + (j : Int)) ∧ ∃ cur : List Value, cur.length = n ∧ (∀ t, t < j → cur[t]? = some (.int .i64 (k + (t : Int)))) ∧ Mm (fun b => (Value.slice pp n cap).ownBlock = some b) w wr [.row B (.slice pp n cap) n cur 2 1]) (fun i _ _ => n - (intOf i).toNat)
  case atStart => exact ⟨0, by omega, rfl, by simp, xs, hlen, fun t h => by omega, M⟩
  case round =>
    obtain ⟨j, hj, rfl, rfl, cur, hcl, hcur, M9⟩ := hrel
    clear M
    have M := M9
    clear M9
    have HCU := Hid2.mk hcur
    clear hcur
    by_cases hlt : j < n
    · have hlt' : (j : Int) < (n : Int) := by omega
      obtain ⟨g, cap', he, _, _, _⟩ := own_rds (M.row 0 rfl) (by omega)
      cases he
      have hown := M.row 0 rfl
      have hcell := World.ownsRow.cellAt hown j (by omega)
      rw [List.getElem?_eq_getElem (show j < cur.length by omega)] at hcell
      have hw : wrap64 (k + (j : Int) + 1) = k + ((j + 1 : Nat) : Int) := by rw [wrap_small _ (by omega) (by omega)]; omega
      clear hown
      go_wp2_with (first | ((with_reducible apply wpM_rst' M 0 2 B g n cap 2 cur j (.int .i64 (k + (j : Int)))); rfl; rfl; rfl; rfl; exact ⟨rfl, rfl, by kernel_rfl⟩; exact .inr rfl; exact hlt; (clear M; intro w9 M)))
      go_roundw
      case rel =>
        refine ⟨j + 1, by omega, by go_num, by first | rfl | (congr 1; omega), cur.set j (.int .i64 (k + (j : Int))), by rw [List.length_set]; exact hcl, fun t ht => ?_, M⟩
        rw [List.getElem?_set]
        split
        · rename_i e; subst e; rw [if_pos (by omega)]
        · exact HCU.out t (by omega)
      case measure => simp [intOf]; omega
    · obtain rfl : j = n := by omega
      have hge : ¬ ((j : Int) < (j : Int)) := by omega
      have e : cur = mkV k j := by
        apply List.ext_getElem?
        intro t
        rcases Nat.lt_or_ge t j with ht | ht
        · rw [HCU.out t ht, mkV_get ht]
        · rw [List.getElem?_eq_none (by omega), List.getElem?_eq_none (by simp [mkV]; exact ht)]
      have HE := Hid2.mk e
      clear e
      go_wp2
      go_ret
      exact ⟨rfl, M.kept, by rw [← HE.out]; exact M.row 0 rfl⟩

set_option maxRecDepth 100000 in
set_option maxHeartbeats 1000000 in
theorem heldInt64S_any (p : Option Addr) (n cap : Nat) (k : Int) (h0 : 0 ≤ k) (h1 : k + (n : Int) ≤ 4611686018427387904) (w : World) (h : rdq w p n (fun j => .int .i64 (k + (j : Int)))) :
    Calls Tryd.prog 17 #[.slice p n cap, .int .i64 k] w fun e w' => e = .returned (.int .i64 (k + (n : Int))) ∧ Below w.heap.size w w' := by
  have M := Mm.start no w
  have F1 := Hid2.mk (fun w1 (hb : Below w.heap.size w w1) => h.later hb)
  clear h
  go_enter Tryd.func17, Tryd.ntmps17
  go_wp2
  go_loopw [5, 1] (fun i z wr => ∃ j : Nat, j ≤ n ∧ i = .int .i64 (j : Int) ∧ z = .int .i64 (k + (j : Int)) ∧ Mm no w wr []) (fun i _ _ => n - (intOf i).toNat)
  case atStart => exact ⟨0, by omega, rfl, by simp, M⟩
  case round =>
    obtain ⟨j, hj, rfl, rfl, M9⟩ := hrel
    clear M
    have M := M9
    clear M9
    by_cases hlt : j < n
    · have hlt' : (j : Int) < (n : Int) := by omega
      obtain ⟨g, rfl, hr⟩ := F1.out _ M.below (by omega)
      have hcell := hr.at_ j hlt
      have hx : (k + (j : Int) == k + (j : Int)) = true := by simp
      have hw : wrap64 (k + (j : Int) + 1) = k + ((j + 1 : Nat) : Int) := by rw [wrap_small _ (by omega) (by omega)]; omega
      clear hr
      go_wp2
      go_roundw
      case rel => exact ⟨j + 1, by omega, by go_num, by first | rfl | (congr 1; omega), M⟩
      case measure => simp [intOf]; omega
    · obtain rfl : j = n := by omega
      have hge : ¬ ((j : Int) < (j : Int)) := by omega
      go_wp2
      go_ret
      exact ⟨rfl, M.below⟩


/-- The byte at a place. -/
def elB (xs : List Nat) (j : Nat) : Nat := xs.getD j 0
/-- A row of bytes. -/
def bytF (xs : List Nat) (j : Nat) : Value := .int .u8 (elB xs j : Nat)
theorem und_sl8b : Tryd.prog.underlying 68 = some (.slice 5) := by kernel_rfl
theorem inf_el8b : (Tryd.prog.info? 5).map (fun i => (i.zero, i.size, i.bytes)) = some (some (.int .u8 0), 1, 1) := by kernel_rfl
def bytC (xs : List Nat) (cs : Array Value) : Prop := cs.size = xs.length ∧ ∀ j, j < xs.length → cs[j]? = some (bytF xs j)

end Go.Proofs.YteonahoboligdaaDoor
