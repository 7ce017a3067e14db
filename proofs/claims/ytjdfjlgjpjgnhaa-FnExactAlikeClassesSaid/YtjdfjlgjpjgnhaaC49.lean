/- Desks: contracts. -/
import Derived.Test.YtjdfjlgjpjgnhaaC48
namespace Go.Proofs.Ytjdfjlgjpjgnhaa
set_option linter.unusedSimpArgs false
set_option linter.unusedVariables false
open Go Go.RowKit

/-- The cells of a desk, told by a word that nothing unfolds. -/
theorem dsk_ex (q r : Sqr) (p0 : Option Addr) (k c0 : Nat) (p1 : Option Addr) (n c1 : Nat) (p2 : Option Addr) (m c2 : Nat) : ∃ cs : Array Value, cs = sqC q ++ sqC r ++ #[.slice p0 k c0, .slice p1 n c1, .slice p2 m c2] := ⟨_, rfl⟩
noncomputable def dskC (q r : Sqr) (p0 : Option Addr) (k c0 : Nat) (p1 : Option Addr) (n c1 : Nat) (p2 : Option Addr) (m c2 : Nat) : Array Value := Classical.choose (dsk_ex q r p0 k c0 p1 n c1 p2 m c2)
theorem dskC_eq (q r : Sqr) (p0 : Option Addr) (k c0 : Nat) (p1 : Option Addr) (n c1 : Nat) (p2 : Option Addr) (m c2 : Nat) : dskC q r p0 k c0 p1 n c1 p2 m c2 = sqC q ++ sqC r ++ #[.slice p0 k c0, .slice p1 n c1, .slice p2 m c2] := Classical.choose_spec (dsk_ex q r p0 k c0 p1 n c1 p2 m c2)
section
variable (q r : Sqr) (p0 : Option Addr) (k c0 : Nat) (p1 : Option Addr) (n c1 : Nat) (p2 : Option Addr) (m c2 : Nat)
theorem dsk_size : (dskC q r p0 k c0 p1 n c1 p2 m c2).size = 205 := by rw [dskC_eq]; simp [sqC_size]
theorem dsk_get (i : Nat) : (dskC q r p0 k c0 p1 n c1 p2 m c2)[i]? = if i < 101 then (sqC q)[i]? else if i < 202 then (sqC r)[i - 101]? else (#[.slice p0 k c0, .slice p1 n c1, .slice p2 m c2] : Array Value)[i - 202]? := by
  rw [dskC_eq]
  by_cases h1 : i < 202
  · rw [Array.getElem?_append_left (by simp [sqC_size]; omega)]
    by_cases h2 : i < 101
    · rw [if_pos h2, Array.getElem?_append_left (by rw [sqC_size]; exact h2)]
    · rw [if_neg h2, if_pos h1, Array.getElem?_append_right (by rw [sqC_size]; omega), sqC_size]
  · rw [if_neg (by omega), if_neg h1, Array.getElem?_append_right (by simp [sqC_size]; omega)]
    simp [sqC_size]
theorem dsk_p0 : ∀ j v, (sqs q.n q.t)[j]? = some v → (dskC q r p0 k c0 p1 n c1 p2 m c2)[0 + j]? = some v := fun j v hv => by
  have hj : j < 101 := by have := (Array.getElem?_eq_some_iff.1 hv).1; rwa [sqs_size] at this
  rw [Nat.zero_add, dsk_get, if_pos hj]; exact hv
theorem dsk_p1 : ∀ j v, (sqs r.n r.t)[j]? = some v → (dskC q r p0 k c0 p1 n c1 p2 m c2)[101 + j]? = some v := fun j v hv => by
  have hj : j < 101 := by have := (Array.getElem?_eq_some_iff.1 hv).1; rwa [sqs_size] at this
  rw [dsk_get, if_neg (by omega), if_pos (by omega), Nat.add_sub_cancel_left]; exact hv
theorem dsk_p2 : (dskC q r p0 k c0 p1 n c1 p2 m c2)[202]? = some (.slice p0 k c0) := by rw [dsk_get]; rfl
theorem dsk_p3 : ∀ j v, (bkV p1 c1 p2 c2 n m)[j]? = some v → (dskC q r p0 k c0 p1 n c1 p2 m c2)[203 + j]? = some v := fun j v hv => by
  have hj : j < 2 := (Array.getElem?_eq_some_iff.1 hv).1
  rw [dsk_get, if_neg (by omega), if_neg (by omega)]
  have : j = 0 ∨ j = 1 := by omega
  rcases this with rfl | rfl <;> exact hv
theorem dsk_p4 : ∀ j v, (#[.slice p1 n c1, .slice p2 m c2] : Array Value)[j]? = some v → (dskC q r p0 k c0 p1 n c1 p2 m c2)[203 + j]? = some v := dsk_p3 q r p0 k c0 p1 n c1 p2 m c2
theorem flat_dsk : flat (dskC q r p0 k c0 p1 n c1 p2 m c2) := fun u hu => by
  rw [dskC_eq] at hu
  simp only [Array.toList_append, List.mem_append] at hu
  rcases hu with (h | h) | h
  · exact flat_sqs _ _ u h
  · exact flat_sqs _ _ u h
  · simp at h; rcases h with rfl | rfl | rfl <;> simp
theorem dsk_set0 (q' : Sqr) : splice (dskC q r p0 k c0 p1 n c1 p2 m c2) 0 (sqs q'.n q'.t).toList = dskC q' r p0 k c0 p1 n c1 p2 m c2 := by
  apply Array.ext_getElem?
  intro i
  have hl : (sqs q'.n q'.t).toList.length = 101 := by rw [Array.length_toList, sqs_size]
  rcases Nat.lt_or_ge i 205 with hi | hi
  · rw [splice_get _ _ _ _ (by rw [dsk_size]; exact hi), hl, dsk_get, dsk_get]
    by_cases h : i < 101
    · rw [if_pos (by omega), if_pos h, Array.getElem?_toList]; rfl
    · rw [if_neg (by omega), if_neg h, if_neg h]
  · rw [Array.getElem?_eq_none (by rw [splice_size 0 _ _ 0, dsk_size]; exact hi), Array.getElem?_eq_none (by rw [dsk_size]; exact hi)]
theorem dsk_set1 (r' : Sqr) : splice (dskC q r p0 k c0 p1 n c1 p2 m c2) 101 (sqs r'.n r'.t).toList = dskC q r' p0 k c0 p1 n c1 p2 m c2 := by
  apply Array.ext_getElem?
  intro i
  have hl : (sqs r'.n r'.t).toList.length = 101 := by rw [Array.length_toList, sqs_size]
  rcases Nat.lt_or_ge i 205 with hi | hi
  · rw [splice_get _ _ _ _ (by rw [dsk_size]; exact hi), hl, dsk_get, dsk_get]
    by_cases h : i < 101
    · rw [if_neg (by omega), if_pos h, if_pos h]
    · by_cases h2 : i < 202
      · rw [if_pos (by omega), if_neg h, if_pos h2, Array.getElem?_toList]; rfl
      · rw [if_neg (by omega), if_neg h, if_neg h2, if_neg h, if_neg h2]
  · rw [Array.getElem?_eq_none (by rw [splice_size 0 _ _ 101, dsk_size]; exact hi), Array.getElem?_eq_none (by rw [dsk_size]; exact hi)]
theorem dsk_set2 (p0' : Option Addr) (k' c0' : Nat) : (dskC q r p0 k c0 p1 n c1 p2 m c2).setIfInBounds 202 (.slice p0' k' c0') = dskC q r p0' k' c0' p1 n c1 p2 m c2 := by
  apply Array.ext_getElem?
  intro i
  rw [Array.getElem?_setIfInBounds, dsk_size]
  by_cases h : 202 = i
  · subst h; rw [if_pos rfl, if_pos (by omega), dsk_get]; rfl
  · rw [if_neg h, dsk_get, dsk_get]
    by_cases h1 : i < 101
    · rw [if_pos h1, if_pos h1]
    · by_cases h2 : i < 202
      · rw [if_neg h1, if_pos h2, if_neg h1, if_pos h2]
      · rw [if_neg h1, if_neg h2, if_neg h1, if_neg h2]
        obtain ⟨d, hd⟩ : ∃ d, i - 202 = d + 1 := ⟨i - 203, by omega⟩
        rw [hd]; rfl
theorem dsk_set3 (g1 d1 g2 d2 n' m' : Nat) : splice (dskC q r p0 k c0 p1 n c1 p2 m c2) 203 (bkA g1 d1 g2 d2 n' m').toList = dskC q r p0 k c0 (some ⟨g1, 0, none⟩) n' d1 (some ⟨g2, 0, none⟩) m' d2 := by
  apply Array.ext_getElem?
  intro i
  have hl : (bkA g1 d1 g2 d2 n' m').toList.length = 2 := rfl
  rcases Nat.lt_or_ge i 205 with hi | hi
  · rw [splice_get _ _ _ _ (by rw [dsk_size]; exact hi), hl, dsk_get, dsk_get]
    by_cases h1 : i < 101
    · rw [if_neg (by omega), if_pos h1, if_pos h1]
    · by_cases h2 : i < 202
      · rw [if_neg (by omega), if_neg h1, if_pos h2, if_neg h1, if_pos h2]
      · rw [if_neg h1, if_neg h2]
        have : i = 202 ∨ i = 203 ∨ i = 204 := by omega
        rcases this with rfl | rfl | rfl <;> simp [dsk_get, bkA]
  · rw [Array.getElem?_eq_none (by rw [splice_size 0 _ _ 203, dsk_size]; exact hi), Array.getElem?_eq_none (by rw [dsk_size]; exact hi)]
end
theorem und_dsk : Try.prog.underlying 75 = some (.struct (Try.prog.fieldsOf 75)) := by kernel_rfl
theorem inf_dsk : (Try.prog.info? 75).map (·.size) = some 205 := by kernel_rfl
theorem und_dk0 : Try.prog.underlying 71 = some (.struct (Try.prog.fieldsOf 71)) := by kernel_rfl
theorem inf_dk0 : (Try.prog.info? 71).map (·.size) = some 205 := by kernel_rfl
theorem zero_dsk (w : World) : (zeroValue 75).run Try.prog w = .ok (.agg (dskC sq00 sq00 none 0 0 none 0 0 none 0 0)) w := by rw [dskC_eq]; kernel_rfl
theorem und_sl64 : Try.prog.underlying 69 = some (.slice 2) := by kernel_rfl
theorem inf_el64 : (Try.prog.info? 2).map (fun i => (i.zero, i.size, i.bytes)) = some (some (.int .i64 0), 1, 8) := by kernel_rfl
def intC (xs : List Int) (cs : Array Value) : Prop := cs.size = xs.length ∧ ∀ j, j < xs.length → cs[j]? = some (intF xs j)

set_option maxRecDepth 100000 in
set_option maxHeartbeats 1000000 in
theorem toInt64S_any (xs : List Int) (hn : xs.length ≤ 1048576) (w : World) (p : Option Addr) (cap : Nat) (hr : rdp w p xs.length (intF xs)) :
    Calls Try.prog 88 #[.slice p xs.length cap] w fun e w' => ∃ g, e = .returned (.slice (some ⟨g, 0, none⟩) xs.length xs.length) ∧ w.heap.size ≤ g ∧ ∃ cs, intC xs cs ∧ Mm no w w' [.box g cs 2] := by
  have M := (Mm.start no w).add (x := Ent.inc xs.length p (intF xs)) hr.ent fun _ h => by cases h
  clear hr
  go_enter Try.func88, Try.ntmps88
  go_wp2_with (first | ((with_reducible apply wpM_make' M 69 2 1 8 (.int .i64 0) (xs.length)); rfl; rfl; rfl; rfl; exact und_sl64; exact inf_el64; omega; omega; clear M; (try clear C); intro g w9 h_g M; have C := M.ruleAll; simp only [Go.Proofs.Ytjdfjlgjpjgnhaa.ruleAll] at C))
  go_loopw [4] (fun i wr => ∃ k : Nat, k ≤ xs.length ∧ i = .int .i64 (k : Int) ∧ ∃ cs : Array Value, cs.size = xs.length ∧ (∀ j, j < k → cs[j]? = some (intF xs j)) ∧ Mm no w wr [.box g cs 2, Ent.inc xs.length p (intF xs)]) (fun i _ => xs.length - (intOf i).toNat)
  case atStart => exact ⟨0, by omega, rfl, _, by rw [size_madeCells, Nat.mul_one], fun j h => by omega, M⟩
  case round =>
    obtain ⟨k, hk, rfl, cs, hcs, hl, M9⟩ := hrel
    clear M; (try clear C)
    have M := M9
    clear M9
    have C := M.ruleAll; simp only [Go.Proofs.Ytjdfjlgjpjgnhaa.ruleAll] at C
    have HL := Hid2.mk hl
    clear hl
    by_cases hlt : k < xs.length
    · have hlt' : (k : Int) < (xs.length : Int) := by omega
      obtain ⟨b, off, rfl, _, hc⟩ := rdp_in M 1 rfl (by omega)
      have hck := hc k hlt
      have HN := Hid2.mk (show intF xs k = .int .i64 (elI xs k) from rfl)
      rw [HN.out] at hck
      generalize elI xs k = x at hck HN
      clear hc
      go_wp2_with (first | ((with_reducible apply wpM_st' M 0 2 (k) (cs.setIfInBounds k (.int .i64 x))); rfl; rfl; rfl; (first | exact .inl (by assumption) | exact .inr rfl | exact .inr (by assumption)); exact ⟨rfl, rfl, by kernel_rfl⟩; (exact Nat.lt_of_lt_of_eq (by omega) (hcs).symm); exact rfl; clear M; (try clear C); intro w9 M; simp only [List.set_cons_zero, List.set_cons_succ, entBlk, entT, List.getElem?_cons_zero, List.getElem?_cons_succ] at M; have C := M.ruleAll; simp only [Go.Proofs.Ytjdfjlgjpjgnhaa.ruleAll] at C))
      go_roundw
      case rel => exact ⟨k + 1, by omega, by go_num, _, by rw [Array.size_setIfInBounds]; exact hcs, fun j hj => by
        rw [Array.getElem?_setIfInBounds]
        split
        · rename_i e; subst e; rw [if_pos (by omega), HN.out]
        · exact HL.out j (by omega), M⟩
      case measure => simp [intOf]; omega
    · obtain rfl : k = xs.length := by omega
      have hge : ¬ ((xs.length : Int) < (xs.length : Int)) := by omega
      go_wp2
      go_ret
      exact ⟨g, rfl, h_g, cs, ⟨hcs, HL.out⟩, M.drop 1⟩

set_option maxRecDepth 100000 in
set_option maxHeartbeats 400000 in
theorem szInt64S_any (n : Nat) (hn : n ≤ 9223372036854775807) (w : World) (p : Option Addr) (cap : Nat) (left : Int) (h0 : 0 ≤ left) (h1 : left ≤ 1048576) :
    Calls Try.prog 85 #[.slice p n cap, .int .i64 left] w fun e w' => ∃ r : Int, e = .returned (.int .i64 r) ∧ (0 ≤ r → r ≤ left ∧ (n : Int) ≤ left) ∧ Below w.heap.size w w' := by
  have M := Mm.start no w
  have hw : wrap64 (left - (n : Int)) = left - (n : Int) := wrap_small _ (by omega) (by omega)
  by_cases hneg : left - (n : Int) < 0
  · go_enter Try.func85, Try.ntmps85
    go_wp2
    go_ret
    exact ⟨-1, rfl, fun h => by omega, M.below⟩
  · go_enter Try.func85, Try.ntmps85
    go_wp2
    go_ret
    exact ⟨left - n, rfl, fun h => by omega, M.below⟩

set_option maxRecDepth 100000 in
set_option maxHeartbeats 1000000 in
theorem eqInt64S_any (xs : List Int) (hn : xs.length ≤ 9223372036854775807) (w : World) (p1 p2 : Option Addr) (c1 c2 : Nat) (h1 : rdq w p1 xs.length (intF xs)) (h2 : rdq w p2 xs.length (intF xs)) :
    Calls Try.prog 82 #[.slice p1 xs.length c1, .slice p2 xs.length c2] w fun e w' => e = .returned (.bool true) ∧ Below w.heap.size w w' := by
  have M := Mm.start no w
  have he : ((xs.length : Int) == (xs.length : Int)) = true := by simp
  have F1 := Hid2.mk (fun w1 (hb : Below w.heap.size w w1) => h1.later hb)
  have F2 := Hid2.mk (fun w1 (hb : Below w.heap.size w w1) => h2.later hb)
  clear h1 h2
  go_enter Try.func82, Try.ntmps82
  go_wp2
  go_loopw [5] (fun i wr => ∃ k : Nat, k ≤ xs.length ∧ i = .int .i64 (k : Int) ∧ Mm no w wr []) (fun i _ => xs.length - (intOf i).toNat)
  case atStart => exact ⟨0, by omega, rfl, M⟩
  case round =>
    obtain ⟨k, hk, rfl, M9⟩ := hrel
    clear M
    have M := M9
    clear M9
    by_cases hlt : k < xs.length
    · have hlt' : (k : Int) < (xs.length : Int) := by omega
      obtain ⟨g1, rfl, _⟩ := F1.out _ M.below (by omega)
      obtain ⟨g2, rfl, _⟩ := F2.out _ M.below (by omega)
      have hc1 : ∀ w1, Below w.heap.size w w1 → w1.cell? ⟨g1, k, none⟩ = some (.int .i64 (elI xs k)) := fun w1 hb => by
        obtain ⟨g, e, hr⟩ := F1.out w1 hb (by omega)
        cases e
        exact hr.at_ k hlt
      have hc2 : ∀ w1, Below w.heap.size w w1 → w1.cell? ⟨g2, k, none⟩ = some (.int .i64 (elI xs k)) := fun w1 hb => by
        obtain ⟨g, e, hr⟩ := F2.out w1 hb (by omega)
        cases e
        exact hr.at_ k hlt
      generalize elI xs k = x at hc1 hc2
      have hx : (x == x) = true := by simp
      have C1 := Hid2.mk hc1
      have C2 := Hid2.mk hc2
      clear hc1 hc2
      go_wp2
      apply wp_region_mm M 8 (by kernel_rfl) (by kernel_rfl)
      · simp only [List.take_succ_cons, List.take_zero]
        repeat (first | exact wpText_nil | (apply wpText_cons; (intro w2 M; have hd1 := C1.out _ M.below; have hd2 := C2.out _ M.below; go_wp2; exact ⟨rfl, rfl, M⟩); rfl))
      clear M
      intro w2 M
      simp only [List.drop_succ_cons, List.drop_zero]
      go_wp2
      go_roundw
      case rel => exact ⟨k + 1, by omega, by go_num, M⟩
      case measure => simp [intOf]; omega
    · obtain rfl : k = xs.length := by omega
      have hge : ¬ ((xs.length : Int) < (xs.length : Int)) := by omega
      go_wp2
      go_ret
      exact ⟨rfl, M.below⟩
end Go.Proofs.Ytjdfjlgjpjgnhaa
