/- The laws' own sizes, copies and comparisons of books: contracts. -/
import Derived.Test.YtinjjaoikofkdaaC32
import Derived.Test.YtinjjaoikofkdaaK12
import Derived.Test.YtinjjaoikofkdaaF4
import Derived.Test.YtinjjaoikofkdaaC5
namespace Go.Proofs.Ytinjjaoikofkdaa
set_option linter.unusedSimpArgs false
set_option linter.unusedVariables false
open Go Go.RowKit

theorem und_sq0 : Try.prog.underlying 39 = some (.struct (Try.prog.fieldsOf 39)) := by kernel_rfl
theorem inf_sq0 : (Try.prog.info? 39).map (·.size) = some 101 := by kernel_rfl
theorem wrap_small (x : Int) (h1 : -9223372036854775808 ≤ x) (h2 : x ≤ 9223372036854775807) : wrap64 x = x := by
  unfold wrap64; omega

set_option maxRecDepth 100000 in
set_option maxHeartbeats 400000 in
theorem szSquareS_any (n : Nat) (hn : n ≤ 9223372036854775807) (w : World) (p : Option Addr) (cap : Nat) (left : Int) (h0 : 0 ≤ left) (h1 : left ≤ 1048576) :
    Calls Try.prog 19 #[.slice p n cap, .int .i64 left] w fun e w' => ∃ r : Int, e = .returned (.int .i64 r) ∧ (0 ≤ r → r ≤ left ∧ (n : Int) ≤ left) ∧ Below w.heap.size w w' := by
  have M := Mm.start no w
  have hw : wrap64 (left - (n : Int)) = left - (n : Int) := wrap_small _ (by omega) (by omega)
  by_cases hneg : left - (n : Int) < 0
  · go_enter Try.func19, Try.ntmps19
    go_wp2
    go_ret
    exact ⟨-1, rfl, fun h => by omega, M.below⟩
  · go_enter Try.func19, Try.ntmps19
    go_wp2
    go_ret
    exact ⟨left - n, rfl, fun h => by omega, M.below⟩

set_option maxRecDepth 100000 in
set_option maxHeartbeats 1000000 in
theorem szStringS_any (ns : List ByteArray) (hn : ns.length ≤ 9223372036854775807) (hs : ∀ x ∈ ns, x.size ≤ 9223372036854775807) (w : World) (p : Option Addr) (cap : Nat) (left : Int) (h0 : 0 ≤ left) (h1 : left ≤ 1048576) (hr : rdp w p ns.length (nmF ns)) :
    Calls Try.prog 28 #[.slice p ns.length cap, .int .i64 left] w fun e w' => ∃ r : Int, e = .returned (.int .i64 r) ∧ (0 ≤ r → r ≤ left ∧ (ns.length : Int) ≤ left ∧ ∀ x ∈ ns, (x.size : Int) ≤ left) ∧ Below w.heap.size w w' := by
  have M := (Mm.start no w).add (x := Ent.inc ns.length p (nmF ns)) hr.ent fun _ h => by cases h
  have hw : wrap64 (left - (ns.length : Int)) = left - (ns.length : Int) := wrap_small _ (by omega) (by omega)
  clear hr
  have HS := Hid2.mk hs
  clear hs
  by_cases hneg : left - (ns.length : Int) < 0
  · go_enter Try.func28, Try.ntmps28
    go_wp2
    go_ret
    exact ⟨-1, rfl, fun h => by omega, M.below⟩
  · go_enter Try.func28, Try.ntmps28
    go_wp2
    clear hw
    go_loopw [5, 1] (fun i l wr => ∃ k : Nat, k ≤ ns.length ∧ i = .int .i64 (k : Int) ∧ ∃ z : Int, l = .int .i64 z ∧ 0 ≤ z ∧ z ≤ left ∧ (∀ j (h : j < ns.length), j < k → (ns[j].size : Int) ≤ left) ∧ Mm no w wr [Ent.inc ns.length p (nmF ns)]) (fun i _ _ => ns.length - (intOf i).toNat)
    case atStart => exact ⟨0, by omega, rfl, _, rfl, by omega, by omega, fun j _ h => by omega, M⟩
    case round =>
      obtain ⟨k, hk, rfl, z, rfl, hz0, hz1, hl, M9⟩ := hrel
      clear M
      have M := M9
      clear M9
      have HL := Hid2.mk hl
      clear hl
      by_cases hlt : k < ns.length
      · have hlt' : (k : Int) < (ns.length : Int) := by omega
        obtain ⟨b, off, rfl, _, hc⟩ := rdp_in M 0 rfl (by omega)
        have hck := hc k hlt
        rw [nmF_at hlt] at hck
        have hsz := HS.out ns[k] (List.getElem_mem hlt)
        have hnext : ((ns[k].size : Nat) : Int) ≤ left → ∀ j (h : j < ns.length), j < k + 1 → (ns[j].size : Int) ≤ left := fun h j hj h1 => by
          rcases Nat.lt_or_eq_of_le (Nat.lt_succ_iff.1 h1) with h2 | rfl
          · exact HL.out j hj h2
          · exact h
        have HN := Hid2.mk hnext
        generalize ns[k] = x at hck hsz HN
        clear hc hnext
        have hw : wrap64 (z - (x.size : Int)) = z - (x.size : Int) := wrap_small _ (by omega) (by omega)
        by_cases hng : z - (x.size : Int) < 0
        · go_wp2
          go_ret
          exact ⟨-1, rfl, fun h => by omega, M.below⟩
        · go_wp2
          go_roundw
          case rel => exact ⟨k + 1, by omega, by go_num, _, rfl, by omega, by omega, HN.out (by omega), M⟩
          case measure => simp [intOf]; omega
      · obtain rfl : k = ns.length := by omega
        have hge : ¬ ((ns.length : Int) < (ns.length : Int)) := by omega
        go_wp2
        go_ret
        exact ⟨z, rfl, fun _ => ⟨hz1, by omega, fun x hx => by
          obtain ⟨j, hj, rfl⟩ := List.getElem_of_mem hx
          exact HL.out j hj hj⟩, M.below⟩

set_option maxRecDepth 100000 in
set_option maxHeartbeats 400000 in
theorem szBook_any (ns : List ByteArray) (hn : ns.length ≤ 9223372036854775807) (hs : ∀ x ∈ ns, x.size ≤ 9223372036854775807) (m : Nat) (hm : m ≤ 9223372036854775807) (w : World) (p1 p2 : Option Addr) (c1 c2 : Nat) (left : Int) (h0 : 0 ≤ left) (h1 : left ≤ 1048576) (hr : rdp w p1 ns.length (nmF ns)) :
    Calls Try.prog 7 #[.agg (bkV p1 c1 p2 c2 ns.length m), .int .i64 left] w fun e w' => ∃ r : Int, e = .returned (.int .i64 r) ∧ (0 ≤ r → r ≤ left ∧ (ns.length : Int) ≤ left ∧ (∀ x ∈ ns, (x.size : Int) ≤ left) ∧ (m : Int) ≤ left) ∧ Below w.heap.size w w' := by
  have M := (Mm.start no w).add (x := Ent.inc ns.length p1 (nmF ns)) hr.ent fun _ h => by cases h
  have k0 : (bkV p1 c1 p2 c2 ns.length m)[0]? = some (.slice p1 ns.length c1) := rfl
  have k1 : (bkV p1 c1 p2 c2 ns.length m)[1]? = some (.slice p2 m c2) := rfl
  have H1 : ∀ (b : Nat) (w1 : World), Mm no w w1 [.box b (bkV p1 c1 p2 c2 ns.length m) 25, Ent.inc ns.length p1 (nmF ns)] → _ := fun b w1 M => szStringS_any ns hn hs w1 p1 c1 left h0 h1 (rdp_in M 1 rfl)
  have H2 := fun w1 (z : Int) (g0 : 0 ≤ z) (g1 : z ≤ left) => szSquareS_any m hm w1 p2 c2 z g0 (by omega)
  clear hr hs
  go_enter Try.func7, Try.ntmps7
  go_wp2_with (first | ((with_reducible apply wpM_box' M 25 (bkV p1 c1 p2 c2 ns.length m)); rfl; exact ⟨rfl, rfl⟩; clear M; (try clear C); intro bb w9 h_bb M; have C := M.ruleAll; simp only [Go.Proofs.Ytinjjaoikofkdaa.ruleAll] at C))
  refine (H1 _ _ M).mono ?_
  rintro e w1 ⟨r, rfl, hr, hb⟩
  have M9 := M.later hb
  clear M; (try clear C)
  have M := M9
  clear M9
  have C := M.ruleAll; simp only [Go.Proofs.Ytinjjaoikofkdaa.ruleAll] at C
  by_cases hneg : r < 0
  · go_wp2
    go_ret
    exact ⟨-1, rfl, fun h => by omega, M.below⟩
  · obtain ⟨q1, q2, q3⟩ := hr (by omega)
    have Q3 := Hid2.mk q3
    clear hr q3
    go_wp2_with (first | (go_at_call 19; ((with_reducible refine (H2 _ _ (by omega) q1).mono ?_); rintro e w1 ⟨r2, rfl, hr2, hb⟩; have hsz := M.size; have M9 := M.later hb; clear M; (try clear C); have M := M9; clear M9; (try simp only [List.set_cons_zero, List.set_cons_succ] at M); have C := M.ruleAll; simp only [Go.Proofs.Ytinjjaoikofkdaa.ruleAll] at C)))
    all_goals go_ret
    · exact ⟨-1, rfl, fun h => by omega, M.below⟩
    · obtain ⟨q4, q5⟩ := hr2 (by omega)
      exact ⟨r2, rfl, fun _ => ⟨by omega, q2, Q3.out, by omega⟩, M.below⟩
end Go.Proofs.Ytinjjaoikofkdaa

/- The laws' own comparison of squares: contracts. -/
namespace Go.Proofs.Ytinjjaoikofkdaa
set_option linter.unusedSimpArgs false
set_option linter.unusedVariables false
open Go Go.RowKit

set_option maxRecDepth 100000 in
set_option maxHeartbeats 1000000 in
theorem eqByteA10_any (f : Nat → Nat) (w : World) : Calls Try.prog 100 #[.agg (bys f), .agg (bys f)] w fun e w' => e = .returned (.bool true) ∧ Below w.heap.size w w' := by
  have M := Mm.start no w
  go_enter Try.func100, Try.ntmps100
  go_wp2_with (first | (have hq := h_bf; clear hq; ((with_reducible apply wpM_box' M 36 (bys f)); rfl; exact ⟨rfl, rfl⟩; clear M; (try clear C); intro bg w9 h_bg M; have C := M.ruleAll; simp only [Go.Proofs.Ytinjjaoikofkdaa.ruleAll] at C)) | ((with_reducible apply wpM_box' M 36 (bys f)); rfl; exact ⟨rfl, rfl⟩; clear M; (try clear C); intro bf w9 h_bf M; have C := M.ruleAll; simp only [Go.Proofs.Ytinjjaoikofkdaa.ruleAll] at C))
  go_loopw [5] (fun i wr => ∃ k : Nat, k ≤ 10 ∧ i = .int .i64 (k : Int) ∧ Mm no w wr [.box bg (bys f) 36, .box bf (bys f) 36]) (fun i _ => 10 - (intOf i).toNat)
  case atStart => exact ⟨0, by omega, rfl, M⟩
  case round =>
    obtain ⟨k, hk, rfl, M9⟩ := hrel
    clear M; (try clear C)
    have M := M9
    clear M9
    have C := M.ruleAll; simp only [Go.Proofs.Ytinjjaoikofkdaa.ruleAll] at C
    by_cases hlt : k < 10
    · have hlt' : (k : Int) < 10 := by omega
      have c1 := bys_get (f := f) hlt
      have he' : ((f k : Int) == (f k : Int)) = true := by simp
      go_wp2
      apply wp_region_mm M 6 (by kernel_rfl) (by kernel_rfl); (simp only [List.take_succ_cons, List.take_zero]; repeat (first | exact wpText_nil | (apply wpText_cons; (intro w2 M; have C := M.ruleAll; simp only [Go.Proofs.Ytinjjaoikofkdaa.ruleAll] at C; go_wp2; exact ⟨rfl, rfl, M⟩); rfl))); (clear M; (try clear C); intro w2 M; simp only [List.drop_succ_cons, List.drop_zero]; have C := M.ruleAll; simp only [Go.Proofs.Ytinjjaoikofkdaa.ruleAll] at C)
      go_wp2
      go_roundw
      case rel => exact ⟨k + 1, by omega, by go_num, M⟩
      case measure => simp [intOf]; omega
    · obtain rfl : k = 10 := by omega
      go_wp2
      go_ret
      exact ⟨rfl, M.below⟩

set_option maxRecDepth 100000 in
set_option maxHeartbeats 1000000 in
theorem eqTable_any (t : Nat → Nat → Nat) (w : World) : Calls Try.prog 82 #[.agg (tbs t), .agg (tbs t)] w fun e w' => e = .returned (.bool true) ∧ Below w.heap.size w w' := by
  have M := Mm.start no w
  go_enter Try.func82, Try.ntmps82
  go_wp2_with (first | (have hq := h_bf; clear hq; ((with_reducible apply wpM_box' M 41 (tbs t)); rfl; exact ⟨rfl, rfl⟩; clear M; (try clear C); intro bg w9 h_bg M; have C := M.ruleAll; simp only [Go.Proofs.Ytinjjaoikofkdaa.ruleAll] at C)) | ((with_reducible apply wpM_box' M 41 (tbs t)); rfl; exact ⟨rfl, rfl⟩; clear M; (try clear C); intro bf w9 h_bf M; have C := M.ruleAll; simp only [Go.Proofs.Ytinjjaoikofkdaa.ruleAll] at C))
  go_loopw [5] (fun i wr => ∃ k : Nat, k ≤ 10 ∧ i = .int .i64 (k : Int) ∧ Mm no w wr [.box bg (tbs t) 41, .box bf (tbs t) 41]) (fun i _ => 10 - (intOf i).toNat)
  case atStart => exact ⟨0, by omega, rfl, M⟩
  case round =>
    obtain ⟨k, hk, rfl, M9⟩ := hrel
    clear M; (try clear C)
    have M := M9
    clear M9
    have C := M.ruleAll; simp only [Go.Proofs.Ytinjjaoikofkdaa.ruleAll] at C
    by_cases hlt : k < 10
    · have hlt' : (k : Int) < 10 := by omega
      have H := fun w1 => eqByteA10_any (t k) w1
      go_wp2
      apply wp_region_mm M 6 (by kernel_rfl) (by kernel_rfl); (simp only [List.take_succ_cons, List.take_zero]; repeat (first | exact wpText_nil | (apply wpText_cons; (intro w2 M; have C := M.ruleAll; simp only [Go.Proofs.Ytinjjaoikofkdaa.ruleAll] at C; go_wp2_with (first | ((with_reducible apply wpM_lda' M 1 36 (k * 10) (bys (t k))); rfl; rfl; rfl; exact ⟨rfl, inf_bys.trans (congrArg some (bys_size ..).symm), _, und_bys, rfl⟩; exact tbs_row hlt) | ((with_reducible apply wpM_lda' M 0 36 (k * 10) (bys (t k))); rfl; rfl; rfl; exact ⟨rfl, inf_bys.trans (congrArg some (bys_size ..).symm), _, und_bys, rfl⟩; exact tbs_row hlt)); exact ⟨rfl, rfl, M⟩); rfl))); (clear M; (try clear C); intro w2 M; simp only [List.drop_succ_cons, List.drop_zero]; have C := M.ruleAll; simp only [Go.Proofs.Ytinjjaoikofkdaa.ruleAll] at C)
      go_wp2_with (first | (go_at_call 100; ((with_reducible refine (H _).mono ?_); rintro e w1 ⟨rfl, hb⟩; have hsz := M.size; (try (have G9 := G.later hb; clear G; have G := G9; clear G9)); have M9 := M.later hb; clear M; (try clear C); have M := M9; clear M9; have C := M.ruleAll; simp only [Go.Proofs.Ytinjjaoikofkdaa.ruleAll] at C)))
      go_roundw
      case rel => exact ⟨k + 1, by omega, by go_num, M⟩
      case measure => simp [intOf]; omega
    · obtain rfl : k = 10 := by omega
      go_wp2
      go_ret
      exact ⟨rfl, M.below⟩

set_option maxRecDepth 100000 in
set_option maxHeartbeats 1000000 in
theorem eqSquare_any (n : Int) (t : Nat → Nat → Nat) (w : World) : Calls Try.prog 63 #[.agg (sqs n t), .agg (sqs n t)] w fun e w' => e = .returned (.bool true) ∧ Below w.heap.size w w' := by
  have M := Mm.start no w
  have so := sqs_order n t
  have he : (n == n) = true := by simp
  have H := fun w1 => eqTable_any t w1
  go_enter Try.func63, Try.ntmps63
  go_wp2_with (first | (have hq := h_bf; clear hq; ((with_reducible apply wpM_box' M 43 (sqs n t)); rfl; exact ⟨rfl, rfl⟩; clear M; (try clear C); intro bg w9 h_bg M; have C := M.ruleAll; simp only [Go.Proofs.Ytinjjaoikofkdaa.ruleAll] at C)) | ((with_reducible apply wpM_box' M 43 (sqs n t)); rfl; exact ⟨rfl, rfl⟩; clear M; (try clear C); intro bf w9 h_bf M; have C := M.ruleAll; simp only [Go.Proofs.Ytinjjaoikofkdaa.ruleAll] at C) | ((with_reducible apply wpM_lda' M 1 41 (1) (tbs t)); rfl; rfl; rfl; exact ⟨rfl, inf_tbl.trans (congrArg some (tbs_size ..).symm), _, und_tbl, rfl⟩; exact sqs_tbs) | ((with_reducible apply wpM_lda' M 0 41 (1) (tbs t)); rfl; rfl; rfl; exact ⟨rfl, inf_tbl.trans (congrArg some (tbs_size ..).symm), _, und_tbl, rfl⟩; exact sqs_tbs) | (go_at_call 82; ((with_reducible refine (H _).mono ?_); rintro e w1 ⟨rfl, hb⟩; have hsz := M.size; (try (have G9 := G.later hb; clear G; have G := G9; clear G9)); have M9 := M.later hb; clear M; (try clear C); have M := M9; clear M9; have C := M.ruleAll; simp only [Go.Proofs.Ytinjjaoikofkdaa.ruleAll] at C)))
  go_ret
  exact ⟨rfl, M.below⟩

/-- Cells that hold names; cells that hold squares. -/
def strC (ns : List ByteArray) (cs : Array Value) : Prop := cs.size = ns.length ∧ ∀ j, j < ns.length → cs[j]? = some (nmF ns j)
def sqaC (ls : List Sqr) (cs : Array Value) : Prop := cs.size = ls.length * 101 ∧ ∀ j, j < ls.length * 101 → cs[j]? = some ((slC ls).getD j undef)
theorem und_sls : Try.prog.underlying 22 = some (.slice 9) := by kernel_rfl
theorem inf_els : (Try.prog.info? 9).map (fun i => (i.zero, i.size, i.bytes)) = some (some (.string .empty), 1, 16) := by kernel_rfl
theorem und_slQ : Try.prog.underlying 27 = some (.slice 43) := by kernel_rfl
theorem inf_elQ : (Try.prog.info? 43).map (fun i => (i.zero, i.size, i.bytes)) = some (some (.agg (sqs 0 fun _ _ => 0)), 101, 112) := by kernel_rfl

set_option maxRecDepth 100000 in
set_option maxHeartbeats 1000000 in
theorem toStringS_any (ns : List ByteArray) (hn : ns.length ≤ 1048576) (w : World) (p : Option Addr) (cap : Nat) (hr : rdp w p ns.length (nmF ns)) :
    Calls Try.prog 30 #[.slice p ns.length cap] w fun e w' => ∃ g, e = .returned (.slice (some ⟨g, 0, none⟩) ns.length ns.length) ∧ w.heap.size ≤ g ∧ ∃ cs, strC ns cs ∧ Mm no w w' [.box g cs 9] := by
  have M := (Mm.start no w).add (x := Ent.inc ns.length p (nmF ns)) hr.ent fun _ h => by cases h
  clear hr
  go_enter Try.func30, Try.ntmps30
  go_wp2_with (first | ((with_reducible apply wpM_make' M 22 9 1 16 (.string .empty) (ns.length)); rfl; rfl; rfl; rfl; exact und_sls; exact inf_els; omega; omega; clear M; (try clear C); intro g w9 h_g M; have C := M.ruleAll; simp only [Go.Proofs.Ytinjjaoikofkdaa.ruleAll] at C))
  go_loopw [4] (fun i wr => ∃ k : Nat, k ≤ ns.length ∧ i = .int .i64 (k : Int) ∧ ∃ cs : Array Value, cs.size = ns.length ∧ (∀ j, j < k → cs[j]? = some (nmF ns j)) ∧ Mm no w wr [.box g cs 9, Ent.inc ns.length p (nmF ns)]) (fun i _ => ns.length - (intOf i).toNat)
  case atStart => exact ⟨0, by omega, rfl, _, by rw [size_madeCells, Nat.mul_one], fun j h => by omega, M⟩
  case round =>
    obtain ⟨k, hk, rfl, cs, hcs, hl, M9⟩ := hrel
    clear M; (try clear C)
    have M := M9
    clear M9
    have C := M.ruleAll; simp only [Go.Proofs.Ytinjjaoikofkdaa.ruleAll] at C
    have HL := Hid2.mk hl
    clear hl
    by_cases hlt : k < ns.length
    · have hlt' : (k : Int) < (ns.length : Int) := by omega
      obtain ⟨b, off, rfl, _, hc⟩ := rdp_in M 1 rfl (by omega)
      have hck := hc k hlt
      have HN := Hid2.mk (nmF_at hlt)
      rw [HN.out] at hck
      generalize ns[k] = x at hck HN
      clear hc
      go_wp2_with (first | ((with_reducible apply wpM_st' M 0 9 (k) (cs.setIfInBounds k (.string x))); rfl; rfl; rfl; (first | exact .inl (by assumption) | exact .inr rfl | exact .inr (by assumption)); exact ⟨rfl, rfl, by kernel_rfl⟩; (exact Nat.lt_of_lt_of_eq (by omega) (hcs).symm); exact rfl; clear M; (try clear C); intro w9 M; simp only [List.set_cons_zero, List.set_cons_succ, entBlk, entT, List.getElem?_cons_zero, List.getElem?_cons_succ] at M; have C := M.ruleAll; simp only [Go.Proofs.Ytinjjaoikofkdaa.ruleAll] at C))
      go_roundw
      case rel => exact ⟨k + 1, by omega, by go_num, _, by rw [Array.size_setIfInBounds]; exact hcs, fun j hj => by
        rw [Array.getElem?_setIfInBounds]
        split
        · rename_i e; subst e; rw [if_pos (by omega), HN.out]
        · exact HL.out j (by omega), M⟩
      case measure => simp [intOf]; omega
    · obtain rfl : k = ns.length := by omega
      have hge : ¬ ((ns.length : Int) < (ns.length : Int)) := by omega
      go_wp2
      go_ret
      exact ⟨g, rfl, h_g, cs, ⟨hcs, HL.out⟩, M.drop 1⟩

theorem sqa_step {ls : List Sqr} {k : Nat} {cs : Array Value} (hk : k < ls.length) (hcs : cs.size = ls.length * 101) (h : ∀ j, j < k * 101 → cs[j]? = some ((slC ls).getD j undef)) :
    (splice cs (k * 101) (sqs ls[k].n ls[k].t).toList).size = ls.length * 101 ∧ ∀ j, j < (k + 1) * 101 → (splice cs (k * 101) (sqs ls[k].n ls[k].t).toList)[j]? = some ((slC ls).getD j undef) := by
  refine ⟨by rw [splice_size 0 _ cs (k * 101)]; exact hcs, fun j hj => ?_⟩
  have hlen : (sqs ls[k].n ls[k].t).toList.length = 101 := by rw [Array.length_toList, sqs_size]
  rw [splice_get _ cs (k * 101) j (by rw [hcs]; omega), hlen]
  split
  · rename_i hin
    have h3 := rowC_get (f := sqC) sqC_size ls hk (j := j - k * 101) (by omega)
    rw [show k * 101 + (j - k * 101) = j by omega] at h3
    rw [List.getD_eq_getElem?_getD]
    show _ = some (((rowC sqC ls)[j]?).getD undef)
    rw [h3, Array.getElem?_toList]
    show (sqC ls[k])[j - k * 101]? = _
    rw [Array.getElem?_eq_getElem (show j - k * 101 < (sqC ls[k]).size by rw [sqC_size]; omega)]; rfl
  · exact h j (by omega)

set_option maxRecDepth 100000 in
set_option maxHeartbeats 1000000 in
theorem toSquareS_any (ls : List Sqr) (hn : ls.length ≤ 1048576) (w : World) (p : Option Addr) (cap : Nat) (hr : rdp w p (ls.length * 101) (fun j => (slC ls).getD j undef)) :
    Calls Try.prog 21 #[.slice p ls.length cap] w fun e w' => ∃ g, e = .returned (.slice (some ⟨g, 0, none⟩) ls.length ls.length) ∧ w.heap.size ≤ g ∧ ∃ cs, sqaC ls cs ∧ Mm no w w' [.box g cs 43] := by
  have M := (Mm.start no w).add (x := Ent.inc (ls.length * 101) p (fun j => (slC ls).getD j undef)) hr.ent fun _ h => by cases h
  clear hr
  have hz := zero_sqs
  go_enter Try.func21, Try.ntmps21
  go_wp2_with (first | ((with_reducible apply wpM_make' M 27 43 101 112 (.agg (sqs 0 fun _ _ => 0)) (ls.length)); rfl; rfl; rfl; rfl; exact und_slQ; exact inf_elQ; omega; omega; clear M; (try clear C); intro g w9 h_g M; have C := M.ruleAll; simp only [Go.Proofs.Ytinjjaoikofkdaa.ruleAll] at C))
  go_loopw [4] (fun i wr => ∃ k : Nat, k ≤ ls.length ∧ i = .int .i64 (k : Int) ∧ ∃ cs : Array Value, cs.size = ls.length * 101 ∧ (∀ j, j < k * 101 → cs[j]? = some ((slC ls).getD j undef)) ∧ Mm no w wr [.box g cs 43, Ent.inc (ls.length * 101) p (fun j => (slC ls).getD j undef)]) (fun i _ => ls.length - (intOf i).toNat)
  case atStart => exact ⟨0, by omega, rfl, _, by rw [size_madeCells], fun j h => by omega, M⟩
  case round =>
    obtain ⟨k, hk, rfl, cs, hcs, hl, M9⟩ := hrel
    clear M; (try clear C)
    have M := M9
    clear M9
    have C := M.ruleAll; simp only [Go.Proofs.Ytinjjaoikofkdaa.ruleAll] at C
    by_cases hlt : k < ls.length
    · have hlt' : (k : Int) < (ls.length : Int) := by omega
      obtain ⟨b, off, rfl, _, hc⟩ := rdp_in M 1 rfl (by omega)
      have HS := Hid2.mk (sqa_step hlt hcs hl)
      have hcells : ∀ {w3 : World}, rdp w3 (some ⟨b, off, none⟩) (ls.length * 101) (fun j => (slC ls).getD j undef) → ∀ j v, (sqs ls[k].n ls[k].t)[j]? = some v → w3.cell? ⟨b, off + k * 101 + j, none⟩ = some v := fun h j v hv => by
        obtain ⟨b', off', e, _, hc⟩ := h (by omega)
        cases e
        have hj : j < 101 := by have := (Array.getElem?_eq_some_iff.1 hv).1; rwa [sqs_size] at this
        have h3 := rowC_get (f := sqC) sqC_size ls hlt (j := j) hj
        rw [Nat.add_assoc, hc (k * 101 + j) (by omega)]
        show some ((slC ls).getD (k * 101 + j) undef) = _
        rw [List.getD_eq_getElem?_getD]
        show some (((rowC sqC ls)[k * 101 + j]?).getD undef) = _
        rw [h3]
        show some (((sqs ls[k].n ls[k].t)[j]?).getD undef) = _
        rw [hv]; rfl
      have HCE := Hid2.mk @hcells
      generalize ls[k] = q at HS HCE
      clear hc hcells hl
      have H := fun w1 => toSquare_any q.n q.t w1
      go_wp2_with (first | (refine wpList_load_part rfl 39 _ rfl (b) (off + k * 101) rfl (sqs q.n q.t) _ und_sq0 rfl inf_sq0 (HCE.out (rdp_in M 1 rfl)) ?_) | (go_at_call 15; ((with_reducible refine (H _).mono ?_); rintro e w1 ⟨rfl, hb⟩; have hsz := M.size; (try (have G9 := G.later hb; clear G; have G := G9; clear G9)); have M9 := M.later hb; clear M; (try clear C); have M := M9; clear M9; have C := M.ruleAll; simp only [Go.Proofs.Ytinjjaoikofkdaa.ruleAll] at C)) | ((with_reducible apply wpM_stp' M 0 43 (k * 101) (sqs q.n q.t) (splice cs (k * 101) (sqs q.n q.t).toList)); rfl; rfl; rfl; rfl; (first | exact .inl (by assumption) | exact .inr rfl | exact .inr (by assumption)); exact ⟨rfl, inf_sqs.trans (congrArg some (sqs_size ..).symm), flat_sqs _ _⟩; (simp only [entCells, List.getElem?_cons_zero, sqs_size]; omega); exact rfl; clear M; (try clear C); intro w9 M; simp only [List.set_cons_zero, List.set_cons_succ, entBlk, entT, List.getElem?_cons_zero, List.getElem?_cons_succ] at M; have C := M.ruleAll; simp only [Go.Proofs.Ytinjjaoikofkdaa.ruleAll] at C))
      go_roundw
      case rel => exact ⟨k + 1, by omega, by go_num, _, HS.out.1, HS.out.2, M⟩
      case measure => simp [intOf]; omega
    · obtain rfl : k = ls.length := by omega
      have hge : ¬ ((ls.length : Int) < (ls.length : Int)) := by omega
      go_wp2
      go_ret
      exact ⟨g, rfl, h_g, cs, ⟨hcs, hl⟩, M.drop 1⟩
end Go.Proofs.Ytinjjaoikofkdaa

/- The laws' own copies and comparisons of books: contracts. -/
namespace Go.Proofs.Ytinjjaoikofkdaa
set_option linter.unusedSimpArgs false
set_option linter.unusedVariables false
open Go Go.RowKit

theorem rdp.later {w w' : World} {p : Option Addr} {n : Nat} {f : Nat → Value} (h : rdp w p n f) (hb : Below w.heap.size w w') : rdp w' p n f := h.kept (.of_below hb no) fun _ _ _ h => h
theorem rdq.later {w w' : World} {p : Option Addr} {n : Nat} {f : Nat → Value} (h : rdq w p n f) (hb : Below w.heap.size w w') : rdq w' p n f := h.kept (.of_below hb no) fun _ _ _ h => h
theorem new_box {B g t : Nat} {cs : Array Value} (h : B ≤ g) : ∀ x ∈ [Ent.box g cs t], ∀ b, x.place b → B ≤ b := fun x hx b hb => by
  simp only [List.mem_singleton] at hx; subst hx; cases hb; exact h
theorem Mm.join1 {D : Nat → Prop} {w0 w w' : World} {L : List Ent} {x : Ent} (M : Mm D w0 w L) (M' : Mm no w w' [x]) (hn : ∀ y ∈ [x], ∀ b, y.place b → w.heap.size ≤ b) : Mm D w0 w' (x :: L) := M.join M' hn
theorem Mm.join2 {D : Nat → Prop} {w0 w w' : World} {L : List Ent} {x y : Ent} (M : Mm D w0 w L) (M' : Mm no w w' [x, y]) (hn : ∀ z ∈ [x, y], ∀ b, z.place b → w.heap.size ≤ b) : Mm D w0 w' (x :: y :: L) := M.join M' hn
theorem new_box2 {B g t g' t' : Nat} {cs cs' : Array Value} (h : B ≤ g) (h' : B ≤ g') : ∀ x ∈ [Ent.box g cs t, Ent.box g' cs' t'], ∀ b, x.place b → B ≤ b := fun x hx b hb => by
  simp only [List.mem_cons, List.not_mem_nil, or_false] at hx
  rcases hx with rfl | rfl <;> cases hb <;> assumption
/-- The cells of a book that holds nothing. -/
def bkZ : Array Value := #[.slice none 0 0, .slice none 0 0]
theorem bkz_size : bkZ.size = 2 := rfl
theorem zero_bok (w : World) : (zeroValue 29).run Try.prog w = .ok (.agg bkZ) w := by kernel_rfl

/-- A book in new memory. -/
def BookNew (ns : List ByteArray) (ls : List Sqr) (w : World) (e : Ending) (w' : World) : Prop :=
  ∃ g1 g2 cs1 cs2, e = .returned (.agg (bkA g1 ns.length g2 ls.length ns.length ls.length)) ∧ w.heap.size ≤ g1 ∧ w.heap.size ≤ g2 ∧ strC ns cs1 ∧ sqaC ls cs2 ∧ Mm no w w' [.box g1 cs1 9, .box g2 cs2 43]

set_option maxRecDepth 100000 in
set_option maxHeartbeats 1000000 in
theorem toBook_any (ns : List ByteArray) (ls : List Sqr) (hn : ns.length ≤ 1048576) (hm : ls.length ≤ 1048576) (w : World) (p1 p2 : Option Addr) (c1 c2 : Nat) (hr1 : rdp w p1 ns.length (nmF ns)) (hr2 : rdp w p2 (ls.length * 101) (fun j => (slC ls).getD j undef)) :
    Calls Try.prog 9 #[.agg (bkV p1 c1 p2 c2 ns.length ls.length)] w (BookNew ns ls w) := by
  have M := Mm.start no w
  have k0 : (bkV p1 c1 p2 c2 ns.length ls.length)[0]? = some (.slice p1 ns.length c1) := rfl
  have k1 : (bkV p1 c1 p2 c2 ns.length ls.length)[1]? = some (.slice p2 ls.length c2) := rfl
  have H1 := fun w1 (hb : Below w.heap.size w w1) => toStringS_any ns hn w1 p1 c1 (hr1.later hb)
  have H2 := fun w1 (hb : Below w.heap.size w w1) => toSquareS_any ls hm w1 p2 c2 (hr2.later hb)
  have hz := zero_bok
  clear hr1 hr2
  go_enter Try.func9, Try.ntmps9
  go_wp2_with (first | ((with_reducible apply wpM_box' M 25 (bkV p1 c1 p2 c2 ns.length ls.length)); rfl; exact ⟨rfl, rfl⟩; clear M; (try clear C); intro bb w9 h_bb M; have C := M.ruleAll; simp only [Go.Proofs.Ytinjjaoikofkdaa.ruleAll] at C) | (have hq := h_b2; clear hq; ((with_reducible apply wpM_alloc' M 29 (bkZ)); rfl; exact ⟨rfl, _, zero_bok _, rfl⟩; clear M; (try clear C); intro b3 w9 h_b3 M; have C := M.ruleAll; simp only [Go.Proofs.Ytinjjaoikofkdaa.ruleAll] at C)) | ((with_reducible apply wpM_alloc' M 29 (bkZ)); rfl; exact ⟨rfl, _, zero_bok _, rfl⟩; clear M; (try clear C); intro b2 w9 h_b2 M; have C := M.ruleAll; simp only [Go.Proofs.Ytinjjaoikofkdaa.ruleAll] at C) | (go_at_call 30; ((with_reducible refine (H1 _ M.below).mono ?_); rintro e w1 ⟨g1, rfl, hg1, cs1, hs1, M'⟩; have hsz := M.size; have M9 := (M.join1 M' (new_box hg1)); clear M; (try clear C); have M := M9; clear M9; (try simp only [List.set_cons_zero, List.set_cons_succ] at M); have C := M.ruleAll; simp only [Go.Proofs.Ytinjjaoikofkdaa.ruleAll] at C)) | (go_at_call 21; ((with_reducible refine (H2 _ M.below).mono ?_); rintro e w1 ⟨g2, rfl, hg2, cs2, hs2, M'⟩; have hsz := M.size; have M9 := (M.join1 M' (new_box hg2)); clear M; (try clear C); have M := M9; clear M9; (try simp only [List.set_cons_zero, List.set_cons_succ] at M); have C := M.ruleAll; simp only [Go.Proofs.Ytinjjaoikofkdaa.ruleAll] at C)) | ((with_reducible apply wpM_st' M 1 22 (0) (#[.slice (some ⟨g1, 0, none⟩) ns.length ns.length, .slice none 0 0])); rfl; rfl; rfl; (first | exact .inl (by assumption) | exact .inr rfl | exact .inr (by assumption)); exact ⟨rfl, rfl, by kernel_rfl⟩; (exact Nat.lt_of_lt_of_eq (by omega) (bkz_size).symm); exact rfl; clear M; (try clear C); intro w9 M; simp only [List.set_cons_zero, List.set_cons_succ, entBlk, entT, List.getElem?_cons_zero, List.getElem?_cons_succ] at M; have C := M.ruleAll; simp only [Go.Proofs.Ytinjjaoikofkdaa.ruleAll] at C) | ((with_reducible apply wpM_st' M 2 27 (1) (bkA g1 ns.length g2 ls.length ns.length ls.length)); rfl; rfl; rfl; (first | exact .inl (by assumption) | exact .inr rfl | exact .inr (by assumption)); exact ⟨rfl, rfl, by kernel_rfl⟩; (exact Nat.lt_of_lt_of_eq (by omega) ((show (#[.slice (some ⟨g1, 0, none⟩) ns.length ns.length, .slice none 0 0] : Array Value).size = 2 from rfl)).symm); exact rfl; clear M; (try clear C); intro w9 M; simp only [List.set_cons_zero, List.set_cons_succ, entBlk, entT, List.getElem?_cons_zero, List.getElem?_cons_succ] at M; have C := M.ruleAll; simp only [Go.Proofs.Ytinjjaoikofkdaa.ruleAll] at C) | ((with_reducible apply wpM_lda' M 2 29 0 (bkA g1 ns.length g2 ls.length ns.length ls.length)); rfl; rfl; rfl; exact ⟨rfl, inf_bok.trans (congrArg some (bok_size ..).symm), _, und_bok, rfl⟩; exact whole_of rfl) | ((with_reducible apply wpM_sta' M 3 29 (bkA g1 ns.length g2 ls.length ns.length ls.length)); rfl; rfl; rfl; rfl; (first | exact .inl (by assumption) | exact .inr rfl | exact .inr (by assumption)); exact ⟨rfl, inf_bok.trans (congrArg some (bok_size ..).symm), flat_bok _ _ _ _ _ _⟩; (simp only [entCells, List.getElem?_cons_zero, List.getElem?_cons_succ, bok_size, bkz_size]); clear M; (try clear C); intro w9 M; simp only [List.set_cons_zero, List.set_cons_succ, entBlk, entT, List.getElem?_cons_zero, List.getElem?_cons_succ] at M; have C := M.ruleAll; simp only [Go.Proofs.Ytinjjaoikofkdaa.ruleAll] at C))
  refine bodyPost_ret (v := .agg (bkA g1 ns.length g2 ls.length ns.length ls.length)) (by exact results_part rfl _ _ _ _ _ _ rfl und_bok rfl inf_bok (cells_of_blk0 (M.box 3 rfl))) rfl ?_
  exact ⟨g1, g2, cs1, cs2, rfl, by have := M.size; omega, by omega, hs1, hs2, (M.sub [1, 0] (by decide))⟩

set_option maxRecDepth 100000 in
set_option maxHeartbeats 1000000 in
theorem eqStringS_any (ns : List ByteArray) (hn : ns.length ≤ 9223372036854775807) (w : World) (p1 p2 : Option Addr) (c1 c2 : Nat) (h1 : rdq w p1 ns.length (nmF ns)) (h2 : rdq w p2 ns.length (nmF ns)) :
    Calls Try.prog 36 #[.slice p1 ns.length c1, .slice p2 ns.length c2] w fun e w' => e = .returned (.bool true) ∧ Below w.heap.size w w' := by
  have M := Mm.start no w
  have he : ((ns.length : Int) == (ns.length : Int)) = true := by simp
  have F1 := Hid2.mk (fun w1 (hb : Below w.heap.size w w1) => h1.later hb)
  have F2 := Hid2.mk (fun w1 (hb : Below w.heap.size w w1) => h2.later hb)
  clear h1 h2
  go_enter Try.func36, Try.ntmps36
  go_wp2
  go_loopw [5] (fun i wr => ∃ k : Nat, k ≤ ns.length ∧ i = .int .i64 (k : Int) ∧ Mm no w wr []) (fun i _ => ns.length - (intOf i).toNat)
  case atStart => exact ⟨0, by omega, rfl, M⟩
  case round =>
    obtain ⟨k, hk, rfl, M9⟩ := hrel
    clear M
    have M := M9
    clear M9
    by_cases hlt : k < ns.length
    · have hlt' : (k : Int) < (ns.length : Int) := by omega
      obtain ⟨g1, rfl, _⟩ := F1.out _ M.below (by omega)
      obtain ⟨g2, rfl, _⟩ := F2.out _ M.below (by omega)
      have hc1 : ∀ w1, Below w.heap.size w w1 → w1.cell? ⟨g1, k, none⟩ = some (.string ns[k]) := fun w1 hb => by
        obtain ⟨g, e, hr⟩ := F1.out w1 hb (by omega)
        cases e
        rw [hr.at_ k hlt, nmF_at hlt]
      have hc2 : ∀ w1, Below w.heap.size w w1 → w1.cell? ⟨g2, k, none⟩ = some (.string ns[k]) := fun w1 hb => by
        obtain ⟨g, e, hr⟩ := F2.out w1 hb (by omega)
        cases e
        rw [hr.at_ k hlt, nmF_at hlt]
      generalize ns[k] = x at hc1 hc2
      have hx : (x.toList == x.toList) = true := by simp
      have C1 := Hid2.mk hc1
      have C2 := Hid2.mk hc2
      clear hc1 hc2
      go_wp2
      apply wp_region_mm M 8 (by kernel_rfl) (by kernel_rfl)
      · simp only [List.take_succ_cons, List.take_zero]
        repeat (first | exact wpText_nil | (apply wpText_cons; (intro w2 M; have hd1 := C1.out _ M.below; have hd2 := C2.out _ M.below; go_wp2; exact ⟨rfl, rfl, M⟩); rfl))
      clear M
      intro w2 M
      simp only [List.drop_succ_cons, List.drop_zero]
      go_wp2
      go_roundw
      case rel => exact ⟨k + 1, by omega, by go_num, M⟩
      case measure => simp [intOf]; omega
    · obtain rfl : k = ns.length := by omega
      have hge : ¬ ((ns.length : Int) < (ns.length : Int)) := by omega
      go_wp2
      go_ret
      exact ⟨rfl, M.below⟩

set_option maxRecDepth 100000 in
set_option maxHeartbeats 1000000 in
theorem eqSquareS_any (ls : List Sqr) (hn : ls.length ≤ 10000000) (w : World) (p1 p2 : Option Addr) (c1 c2 : Nat) (h1 : rdq w p1 (ls.length * 101) (fun j => (slC ls).getD j undef)) (h2 : rdq w p2 (ls.length * 101) (fun j => (slC ls).getD j undef)) :
    Calls Try.prog 24 #[.slice p1 ls.length c1, .slice p2 ls.length c2] w fun e w' => e = .returned (.bool true) ∧ Below w.heap.size w w' := by
  have M := Mm.start no w
  have he : ((ls.length : Int) == (ls.length : Int)) = true := by simp
  have F1 := Hid2.mk (fun w1 (hb : Below w.heap.size w w1) => h1.later hb)
  have F2 := Hid2.mk (fun w1 (hb : Below w.heap.size w w1) => h2.later hb)
  clear h1 h2
  go_enter Try.func24, Try.ntmps24
  go_wp2
  go_loopw [5] (fun i wr => ∃ k : Nat, k ≤ ls.length ∧ i = .int .i64 (k : Int) ∧ Mm no w wr []) (fun i _ => ls.length - (intOf i).toNat)
  case atStart => exact ⟨0, by omega, rfl, M⟩
  case round =>
    obtain ⟨k, hk, rfl, M9⟩ := hrel
    clear M
    have M := M9
    clear M9
    by_cases hlt : k < ls.length
    · have hlt' : (k : Int) < (ls.length : Int) := by omega
      obtain ⟨g1, rfl, _⟩ := F1.out _ M.below (by omega)
      obtain ⟨g2, rfl, _⟩ := F2.out _ M.below (by omega)
      have hc1 : ∀ w1, Below w.heap.size w w1 → ∀ j v, (sqs ls[k].n ls[k].t)[j]? = some v → w1.cell? ⟨g1, k * 101 + j, none⟩ = some v := fun w1 hb => by
        obtain ⟨g, e, hr⟩ := F1.out w1 hb (by omega)
        cases e
        exact sq_cells hr hlt
      have hc2 : ∀ w1, Below w.heap.size w w1 → ∀ j v, (sqs ls[k].n ls[k].t)[j]? = some v → w1.cell? ⟨g2, k * 101 + j, none⟩ = some v := fun w1 hb => by
        obtain ⟨g, e, hr⟩ := F2.out w1 hb (by omega)
        cases e
        exact sq_cells hr hlt
      generalize ls[k] = q at hc1 hc2
      have C1 := Hid2.mk hc1
      have C2 := Hid2.mk hc2
      clear hc1 hc2
      have H := fun w1 => eqSquare_any q.n q.t w1
      go_wp2
      apply wp_region_mm M 8 (by kernel_rfl) (by kernel_rfl)
      · simp only [List.take_succ_cons, List.take_zero]
        repeat (first | exact wpText_nil | (apply wpText_cons; (intro w2 M; go_wp2_with (first | (refine wpList_load_part rfl 43 _ rfl (g1) (k * 101) rfl (sqs q.n q.t) _ und_sqs rfl inf_sqs (C1.out _ M.below) ?_) | (refine wpList_load_part rfl 43 _ rfl (g2) (k * 101) rfl (sqs q.n q.t) _ und_sqs rfl inf_sqs (C2.out _ M.below) ?_)); exact ⟨rfl, rfl, M⟩); rfl))
      clear M
      intro w2 M
      simp only [List.drop_succ_cons, List.drop_zero]
      go_wp2_with (first | (go_at_call 63; ((with_reducible refine (H _).mono ?_); rintro e w1 ⟨rfl, hb⟩; have hsz := M.size; have M9 := M.later hb; clear M; (try clear C); have M := M9; clear M9; (try simp only [List.set_cons_zero, List.set_cons_succ] at M); have C := M.ruleAll; simp only [Go.Proofs.Ytinjjaoikofkdaa.ruleAll] at C)))
      go_roundw
      case rel => exact ⟨k + 1, by omega, by go_num, M⟩
      case measure => simp [intOf]; omega
    · obtain rfl : k = ls.length := by omega
      have hge : ¬ ((ls.length : Int) < (ls.length : Int)) := by omega
      go_wp2
      go_ret
      exact ⟨rfl, M.below⟩

set_option maxRecDepth 100000 in
set_option maxHeartbeats 1000000 in
theorem eqBook_any (ns : List ByteArray) (ls : List Sqr) (hn : ns.length ≤ 10000000) (hm : ls.length ≤ 10000000) (w : World) (p1 p2 p3 p4 : Option Addr) (c1 c2 c3 c4 : Nat) (h1 : rdq w p1 ns.length (nmF ns)) (h2 : rdq w p2 (ls.length * 101) (fun j => (slC ls).getD j undef)) (h3 : rdq w p3 ns.length (nmF ns)) (h4 : rdq w p4 (ls.length * 101) (fun j => (slC ls).getD j undef)) :
    Calls Try.prog 11 #[.agg (bkV p1 c1 p2 c2 ns.length ls.length), .agg (bkV p3 c3 p4 c4 ns.length ls.length)] w fun e w' => e = .returned (.bool true) ∧ Below w.heap.size w w' := by
  have M := Mm.start no w
  have k0 : (bkV p1 c1 p2 c2 ns.length ls.length)[0]? = some (.slice p1 ns.length c1) := rfl
  have k1 : (bkV p1 c1 p2 c2 ns.length ls.length)[1]? = some (.slice p2 ls.length c2) := rfl
  have k2 : (bkV p3 c3 p4 c4 ns.length ls.length)[0]? = some (.slice p3 ns.length c3) := rfl
  have k3 : (bkV p3 c3 p4 c4 ns.length ls.length)[1]? = some (.slice p4 ls.length c4) := rfl
  have H1 := fun w1 (hb : Below w.heap.size w w1) => eqStringS_any ns (by omega) w1 p1 p3 c1 c3 (h1.later hb) (h3.later hb)
  have H2 := fun w1 (hb : Below w.heap.size w w1) => eqSquareS_any ls hm w1 p2 p4 c2 c4 (h2.later hb) (h4.later hb)
  clear h1 h2 h3 h4
  go_enter Try.func11, Try.ntmps11
  go_wp2_with (first | (have hq := h_b2; clear hq; ((with_reducible apply wpM_box' M 29 (bkV p3 c3 p4 c4 ns.length ls.length)); rfl; exact ⟨rfl, rfl⟩; clear M; (try clear C); intro b3 w9 h_b3 M; have C := M.ruleAll; simp only [Go.Proofs.Ytinjjaoikofkdaa.ruleAll] at C)) | ((with_reducible apply wpM_box' M 29 (bkV p1 c1 p2 c2 ns.length ls.length)); rfl; exact ⟨rfl, rfl⟩; clear M; (try clear C); intro b2 w9 h_b2 M; have C := M.ruleAll; simp only [Go.Proofs.Ytinjjaoikofkdaa.ruleAll] at C) | (go_at_call 36; ((with_reducible refine (H1 _ M.below).mono ?_); rintro e w1 ⟨rfl, hb⟩; have hsz := M.size; (try (have G9 := G.later hb; clear G; have G := G9; clear G9)); have M9 := M.later hb; clear M; (try clear C); have M := M9; clear M9; have C := M.ruleAll; simp only [Go.Proofs.Ytinjjaoikofkdaa.ruleAll] at C)) | (go_at_call 24; ((with_reducible refine (H2 _ M.below).mono ?_); rintro e w1 ⟨rfl, hb⟩; have hsz := M.size; (try (have G9 := G.later hb; clear G; have G := G9; clear G9)); have M9 := M.later hb; clear M; (try clear C); have M := M9; clear M9; have C := M.ruleAll; simp only [Go.Proofs.Ytinjjaoikofkdaa.ruleAll] at C)))
  go_ret
  exact ⟨rfl, M.below⟩
end Go.Proofs.Ytinjjaoikofkdaa

