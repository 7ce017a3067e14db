/- Lists of texts in the laws: measured, laid anew, compared; contracts. -/
import Derived.Test.YtpmemoabkbmljaaI1
import Derived.Test.YtpmemoabkbmljaaC82
namespace Go.Proofs.Ytpmemoabkbmljaa
set_option linter.unusedSimpArgs false
set_option linter.unusedVariables false
open Go Go.RowKit

def nmF (l : List ByteArray) (j : Nat) : Value := .string (l.getD j .empty)
theorem nmF_at {l : List ByteArray} {k : Nat} (h : k < l.length) : nmF l k = .string l[k] := by unfold nmF; rw [List.getD_eq_getElem?_getD, List.getElem?_eq_getElem h]; rfl
def strC (ns : List ByteArray) (cs : Array Value) : Prop := cs.size = ns.length ∧ ∀ j, j < ns.length → cs[j]? = some (nmF ns j)

set_option maxRecDepth 100000 in
set_option maxHeartbeats 1000000 in
theorem szStringS_any (ns : List ByteArray) (hn : ns.length ≤ 9223372036854775807) (hs : ∀ x ∈ ns, x.size ≤ 9223372036854775807) (w : World) (p : Option Addr) (cap : Nat) (left : Int) (h0 : 0 ≤ left) (h1 : left ≤ 1048576) (hr : rdp w p ns.length (nmF ns)) :
    Calls Try.prog 15 #[.slice p ns.length cap, .int .i64 left] w fun e w' => ∃ r : Int, e = .returned (.int .i64 r) ∧ (0 ≤ r → r ≤ left ∧ (ns.length : Int) ≤ left ∧ ∀ x ∈ ns, (x.size : Int) ≤ left) ∧ Below w.heap.size w w' := by
  have M := (Mm.start no w).add (x := Ent.inc ns.length p (nmF ns)) hr.ent fun _ h => by cases h
  have hw : wrap64 (left - (ns.length : Int)) = left - (ns.length : Int) := wrap_small _ (by omega) (by omega)
  clear hr
  have HS := Hid2.mk hs
  clear hs
  by_cases hneg : left - (ns.length : Int) < 0
  · go_enter Try.func15, Try.ntmps15
    go_wp2
    go_ret
    exact ⟨-1, rfl, fun h => by omega, M.below⟩
  · go_enter Try.func15, Try.ntmps15
    go_wp2
    clear hw
    go_loopw [5, 1] (fun i l wr => ∃ k : Nat, k ≤ ns.length ∧ i = .int .i64 (k : Int) ∧ ∃ z : Int, l = .int .i64 z ∧ 0 ≤ z ∧ z ≤ left ∧ (∀ j (h : j < ns.length), j < k → (ns[j].size : Int) ≤ left) ∧ Mm no w wr [Ent.inc ns.length p (nmF ns)]) (fun i _ _ => ns.length - (intOf i).toNat)
    case atStart => exact ⟨0, by omega, rfl, _, rfl, by omega, by omega, fun j _ h => by omega, M⟩
    case round =>
      obtain ⟨k, hk, rfl, z, rfl, hz0, hz1, hl, M9⟩ := hrel
      clear M
      have M := M9
      clear M9
      have HL := Hid2.mk hl
      clear hl
      by_cases hlt : k < ns.length
      · have hlt' : (k : Int) < (ns.length : Int) := by omega
        obtain ⟨b, off, rfl, _, hc⟩ := rdp_in M 0 rfl (by omega)
        have hck := hc k hlt
        rw [nmF_at hlt] at hck
        have hsz := HS.out ns[k] (List.getElem_mem hlt)
        have hnext : ((ns[k].size : Nat) : Int) ≤ left → ∀ j (h : j < ns.length), j < k + 1 → (ns[j].size : Int) ≤ left := fun h j hj h1 => by
          rcases Nat.lt_or_eq_of_le (Nat.lt_succ_iff.1 h1) with h2 | rfl
          · exact HL.out j hj h2
          · exact h
        have HN := Hid2.mk hnext
        generalize ns[k] = x at hck hsz HN
        clear hc hnext
        have hw : wrap64 (z - (x.size : Int)) = z - (x.size : Int) := wrap_small _ (by omega) (by omega)
        by_cases hng : z - (x.size : Int) < 0
        · go_wp2
          go_ret
          exact ⟨-1, rfl, fun h => by omega, M.below⟩
        · go_wp2
          go_roundw
          case rel => exact ⟨k + 1, by omega, by go_num, _, rfl, by omega, by omega, HN.out (by omega), M⟩
          case measure => simp [intOf]; omega
      · obtain rfl : k = ns.length := by omega
        have hge : ¬ ((ns.length : Int) < (ns.length : Int)) := by omega
        go_wp2
        go_ret
        exact ⟨z, rfl, fun _ => ⟨hz1, by omega, fun x hx => by
          obtain ⟨j, hj, rfl⟩ := List.getElem_of_mem hx
          exact HL.out j hj hj⟩, M.below⟩

set_option maxRecDepth 100000 in
set_option maxHeartbeats 1000000 in
theorem toStringS_any (ns : List ByteArray) (hn : ns.length ≤ 1048576) (w : World) (p : Option Addr) (cap : Nat) (hr : rdp w p ns.length (nmF ns)) :
    Calls Try.prog 17 #[.slice p ns.length cap] w fun e w' => ∃ g, e = .returned (.slice (some ⟨g, 0, none⟩) ns.length ns.length) ∧ w.heap.size ≤ g ∧ ∃ cs, strC ns cs ∧ Mm no w w' [.box g cs 9] := by
  have M := (Mm.start no w).add (x := Ent.inc ns.length p (nmF ns)) hr.ent fun _ h => by cases h
  clear hr
  go_enter Try.func17, Try.ntmps17
  go_wp2_with (first | ((with_reducible apply wpM_make' M 44 9 1 16 (.string .empty) (ns.length)); rfl; rfl; rfl; rfl; exact und_sls; exact inf_els; omega; omega; clear M; (try clear C); intro g w9 h_g M; have C := M.ruleAll; simp only [Go.Proofs.Ytpmemoabkbmljaa.ruleAll] at C))
  go_loopw [4] (fun i wr => ∃ k : Nat, k ≤ ns.length ∧ i = .int .i64 (k : Int) ∧ ∃ cs : Array Value, cs.size = ns.length ∧ (∀ j, j < k → cs[j]? = some (nmF ns j)) ∧ Mm no w wr [.box g cs 9, Ent.inc ns.length p (nmF ns)]) (fun i _ => ns.length - (intOf i).toNat)
  case atStart => exact ⟨0, by omega, rfl, _, by rw [size_madeCells, Nat.mul_one], fun j h => by omega, M⟩
  case round =>
    obtain ⟨k, hk, rfl, cs, hcs, hl, M9⟩ := hrel
    clear M; (try clear C)
    have M := M9
    clear M9
    have C := M.ruleAll; simp only [Go.Proofs.Ytpmemoabkbmljaa.ruleAll] at C
    have HL := Hid2.mk hl
    clear hl
    by_cases hlt : k < ns.length
    · have hlt' : (k : Int) < (ns.length : Int) := by omega
      obtain ⟨b, off, rfl, _, hc⟩ := rdp_in M 1 rfl (by omega)
      have hck := hc k hlt
      have HN := Hid2.mk (nmF_at hlt)
      rw [HN.out] at hck
      generalize ns[k] = x at hck HN
      clear hc
      go_wp2_with (first | ((with_reducible apply wpM_st' M 0 9 (k) (cs.setIfInBounds k (.string x))); rfl; rfl; rfl; (first | exact .inl (by assumption) | exact .inr rfl | exact .inr (by assumption)); exact ⟨rfl, rfl, by kernel_rfl⟩; (exact Nat.lt_of_lt_of_eq (by omega) (hcs).symm); exact rfl; clear M; (try clear C); intro w9 M; simp only [List.set_cons_zero, List.set_cons_succ, entBlk, entT, List.getElem?_cons_zero, List.getElem?_cons_succ] at M; have C := M.ruleAll; simp only [Go.Proofs.Ytpmemoabkbmljaa.ruleAll] at C))
      go_roundw
      case rel => exact ⟨k + 1, by omega, by go_num, _, by rw [Array.size_setIfInBounds]; exact hcs, fun j hj => by
        rw [Array.getElem?_setIfInBounds]
        split
        · rename_i e; subst e; rw [if_pos (by omega), HN.out]
        · exact HL.out j (by omega), M⟩
      case measure => simp [intOf]; omega
    · obtain rfl : k = ns.length := by omega
      have hge : ¬ ((ns.length : Int) < (ns.length : Int)) := by omega
      go_wp2
      go_ret
      exact ⟨g, rfl, h_g, cs, ⟨hcs, HL.out⟩, M.drop 1⟩

set_option maxRecDepth 100000 in
set_option maxHeartbeats 1000000 in
theorem eqStringS_any (ns : List ByteArray) (hn : ns.length ≤ 9223372036854775807) (w : World) (p1 p2 : Option Addr) (c1 c2 : Nat) (h1 : rdq w p1 ns.length (nmF ns)) (h2 : rdq w p2 ns.length (nmF ns)) :
    Calls Try.prog 19 #[.slice p1 ns.length c1, .slice p2 ns.length c2] w fun e w' => e = .returned (.bool true) ∧ Below w.heap.size w w' := by
  have M := Mm.start no w
  have he : ((ns.length : Int) == (ns.length : Int)) = true := by simp
  have F1 := Hid2.mk (fun w1 (hb : Below w.heap.size w w1) => h1.later hb)
  have F2 := Hid2.mk (fun w1 (hb : Below w.heap.size w w1) => h2.later hb)
  clear h1 h2
  go_enter Try.func19, Try.ntmps19
  go_wp2
  go_loopw [5] (fun i wr => ∃ k : Nat, k ≤ ns.length ∧ i = .int .i64 (k : Int) ∧ Mm no w wr []) (fun i _ => ns.length - (intOf i).toNat)
  case atStart => exact ⟨0, by omega, rfl, M⟩
  case round =>
    obtain ⟨k, hk, rfl, M9⟩ := hrel
    clear M
    have M := M9
    clear M9
    by_cases hlt : k < ns.length
    · have hlt' : (k : Int) < (ns.length : Int) := by omega
      obtain ⟨g1, rfl, _⟩ := F1.out _ M.below (by omega)
      obtain ⟨g2, rfl, _⟩ := F2.out _ M.below (by omega)
      have hc1 : ∀ w1, Below w.heap.size w w1 → w1.cell? ⟨g1, k, none⟩ = some (.string ns[k]) := fun w1 hb => by
        obtain ⟨g, e, hr⟩ := F1.out w1 hb (by omega)
        cases e
        rw [hr.at_ k hlt, nmF_at hlt]
      have hc2 : ∀ w1, Below w.heap.size w w1 → w1.cell? ⟨g2, k, none⟩ = some (.string ns[k]) := fun w1 hb => by
        obtain ⟨g, e, hr⟩ := F2.out w1 hb (by omega)
        cases e
        rw [hr.at_ k hlt, nmF_at hlt]
      generalize ns[k] = x at hc1 hc2
      have hx : (x.toList == x.toList) = true := by simp
      have C1 := Hid2.mk hc1
      have C2 := Hid2.mk hc2
      clear hc1 hc2
      go_wp2
      apply wp_region_mm M 8 (by kernel_rfl) (by kernel_rfl)
      · simp only [List.take_succ_cons, List.take_zero]
        repeat (first | exact wpText_nil | (apply wpText_cons; (intro w2 M; have hd1 := C1.out _ M.below; have hd2 := C2.out _ M.below; go_wp2; exact ⟨rfl, rfl, M⟩); rfl))
      clear M
      intro w2 M
      simp only [List.drop_succ_cons, List.drop_zero]
      go_wp2
      go_roundw
      case rel => exact ⟨k + 1, by omega, by go_num, M⟩
      case measure => simp [intOf]; omega
    · obtain rfl : k = ns.length := by omega
      have hge : ¬ ((ns.length : Int) < (ns.length : Int)) := by omega
      go_wp2
      go_ret
      exact ⟨rfl, M.below⟩
end Go.Proofs.Ytpmemoabkbmljaa
