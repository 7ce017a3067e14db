/- A list of squares, a list of names and a book that come in, opened. -/
import Derived.Test.YtocejggobgfccaaGreatDoorQ1
import Derived.Test.YtocejggobgfccaaGreatDoorQ2
import Derived.Test.YtocejggobgfccaaGreatDoorQ6
import Derived.SliceStrings
import Derived.Test.YtocejggobgfccaaGreatDoorQ4
import Derived.Test.YtocejggobgfccaaGreatDoorQ3
import Derived.Maps.AppendAt
import Derived.Test.YtocejggobgfccaaGreatDoorQ5
namespace Go.Proofs.YtocejggobgfccaaGreatDoor
set_option linter.unusedSimpArgs false
set_option linter.unusedVariables false
open Go.ChangeShapes Go.WideShapes Go.ChangeAt Go.RowKit

theorem Tryz.cellsBk : Tryz.prog.cellsOf 25 = 2 := by kernel_rfl
theorem Tryz.cellsNs : Tryz.prog.cellsOf 22 = 1 := by kernel_rfl
theorem Tryz.cellsLs : Tryz.prog.cellsOf 23 = 1 := by kernel_rfl
theorem Tryz.cellsStr : Tryz.prog.cellsOf 9 = 1 := by kernel_rfl

section
variable {H : Type} {enc : TypeId × Value → H} {w : World} {base : Nat} {spare : Nat → Bool} {held : Bool}

theorem cell_addr {a : Addr} {v : Value} (h : w.cell? a = some v) : a = ⟨a.block, a.off, none⟩ ∧ a.block < w.heap.size := by
  obtain ⟨b, off, sp⟩ := a
  refine ⟨?_, World.block_lt_of_cell? w _ h⟩
  cases sp with
  | none => rfl
  | some k =>
    unfold World.cell? at h
    split at h <;> simp at h
theorem cells_each {a : Addr} {n : Nat} {cs : List Value} (h : w.cells? base a n = some cs) : cs.length = n ∧ ∀ j, j < n → w.cell? (a.add j) = cs[j]? := by
  obtain ⟨_, h1, h2⟩ := World.cells?_some h
  exact ⟨h1, h2⟩
theorem add_add (a : Addr) (i j : Nat) (hs : a.spot = none) : (a.add i).add j = a.add (i + j) := by
  obtain ⟨b, off, sp⟩ := a
  cases hs
  rw [add_none, add_none, add_none, Nat.add_assoc]

/-- The cells of a square. -/
theorem trod_square {fuel : Nat} {cs : List Value} {x : DataW H × List MemPlace} (h : DataW.trod enc Tryz.prog w base spare held fuel 70 cs = some x) : ∃ q : Sqr, Byt2 q.t ∧ cs = (sqC q).toList := by
  obtain ⟨xs, m, _, _, hlen, hxl, hfs⟩ := DataW.trod_struct Tryz.underlying70 h
  rw [Tryz.cellsSq] at hlen
  have g0 : DataW.trod enc Tryz.prog w base spare held m 2 ((cs.drop 0).take (Tryz.prog.cellsOf 2)) = xs[0]? := hfs 0 _ rfl
  have g1 : DataW.trod enc Tryz.prog w base spare held m 47 ((cs.drop 1).take (Tryz.prog.cellsOf 47)) = xs[1]? := hfs 1 _ rfl
  rw [Tryz.cellsI64] at g0
  rw [Tryz.cellsTb] at g1
  have hx2 : xs.length = 2 := hxl
  have e0 : xs[0]? = some (xs[0]'(by omega)) := List.getElem?_eq_getElem _
  have e1 : xs[1]? = some (xs[1]'(by omega)) := List.getElem?_eq_getElem _
  rw [e0] at g0
  rw [e1] at g1
  obtain ⟨n, hn, _, _⟩ := DataW.trod_int Tryz.underlying2 g0
  have g2 := trod_table g1
  have hn' : cs[0]? = some (.int .i64 n) := by
    have := take_one hn
    simpa using this
  have hc : ∀ i j, i < 10 → j < 10 → ∃ b : Nat, b < 256 ∧ cs[1 + i * 10 + j]? = some (.int .u8 (b : Int)) := fun i j hi hj => by
    obtain ⟨b, hb, h3⟩ := g2 i j hi hj
    rw [List.getElem?_take, if_pos (by omega), List.getElem?_drop] at h3
    exact ⟨b, hb, by rw [← h3]; congr 1; omega⟩
  refine ⟨⟨n, fun i j => byteOf cs[1 + i * 10 + j]?⟩, ⟨fun i j hi hj => ?_⟩, ?_⟩
  · obtain ⟨b, hb, h3⟩ := hc i j hi hj
    show byteOf cs[1 + i * 10 + j]? < 256
    rw [h3]
    simpa [byteOf] using hb
  · have : cs.toArray = sqC ⟨n, fun i j => byteOf cs[1 + i * 10 + j]?⟩ := by
      refine tab_of (by simpa using hlen) fun i hi => ?_
      rw [List.getElem?_toArray]
      by_cases h0 : i = 0
      · subst h0; rw [if_pos rfl]; exact hn'
      · rw [if_neg h0]
        obtain ⟨b, hb, h3⟩ := hc ((i - 1) / 10) ((i - 1) % 10) (by omega) (by omega)
        have hi' : 1 + (i - 1) / 10 * 10 + (i - 1) % 10 = i := by omega
        rw [hi'] at h3
        show cs[i]? = some (.int .u8 ((byteOf cs[1 + (i - 1) / 10 * 10 + (i - 1) % 10]? : Nat) : Int))
        rw [hi', h3]
        simp [byteOf]
    rw [← this]

/-- A list of squares that comes in. -/
theorem trod_squares {fuel : Nat} {cs : List Value} {x : DataW H × List MemPlace} (h : DataW.trod enc Tryz.prog w base spare held fuel 23 cs = some x) :
    ∃ (p : Option Addr) (cap : Nat) (ls : List Sqr), cs = [.slice p ls.length cap] ∧ (∀ q ∈ ls, Byt2 q.t) ∧ rdp w p (ls.length * 101) (fun j => (slC ls).getD j undef) ∧ ls.length ≤ maxLen := by
  rcases DataW.trod_slice Tryz.underlying23 h with ⟨rfl, _⟩ | ⟨a, len, cap, elems, rest, n, _, rfl, _, hb, hl, hm, hlen, hel, _, _⟩
  · exact ⟨none, 0, [], rfl, (fun _ h => by cases h), (fun h => absurd h (by simp)), Nat.zero_le _⟩
  · have each : ∀ i, ∃ q : Sqr, i < len → Byt2 q.t ∧ ∀ j, j < 101 → w.cell? ((a.add (i * 101)).add j) = (sqC q)[j]? := fun i => by
      by_cases hi : i < len
      · have h1 := hel i hi
        rw [List.getElem?_eq_getElem (by omega), Tryz.cellsSq, Option.bind_eq_some_iff] at h1
        obtain ⟨cs', hc, ht⟩ := h1
        obtain ⟨q, hq, rfl⟩ := trod_square ht
        obtain ⟨_, h2⟩ := cells_each hc
        exact ⟨q, fun _ => ⟨hq, fun j hj => by rw [h2 j hj, Array.getElem?_toList]⟩⟩
      · exact ⟨⟨0, fun _ _ => 0⟩, fun h => absurd h hi⟩
    obtain ⟨g, hg⟩ := Classical.axiomOfChoice each
    have hll : ((List.range len).map g).length = len := by simp
    refine ⟨some a, cap, (List.range len).map g, by rw [hll], fun q hq => ?_, fun hn => ?_, by rw [hll]; omega⟩
    · obtain ⟨i, hi, rfl⟩ := List.mem_map.1 hq
      exact (hg i (List.mem_range.1 hi)).1
    · rw [hll] at hn ⊢
      have h0 := (hg 0 (by omega)).2 0 (by omega)
      have h00 : (sqC (g 0))[0]? = some (.int .i64 (g 0).n) := sqs_order ..
      rw [Nat.zero_mul, h00] at h0
      have ea : (a.add 0).add 0 = a := by simp [Addr.add]
      rw [ea] at h0
      obtain ⟨e1, hlt⟩ := cell_addr h0
      refine ⟨a.block, a.off, by rw [← e1], hlt, fun j hj => ?_⟩
      have h1 := (hg (j / 101) (by omega)).2 (j % 101) (by omega)
      rw [add_add _ _ _ (by rw [e1]), show j / 101 * 101 + j % 101 = j by omega] at h1
      have e2 : a.add j = ⟨a.block, a.off + j, none⟩ := by rw [e1, add_none]
      rw [← e2, h1]
      have h3 := rowC_get (f := sqC) sqC_size ((List.range len).map g) (k := j / 101) (j := j % 101) (by simp; omega) (by omega)
      rw [show j / 101 * 101 + j % 101 = j by omega, List.getElem_map, List.getElem_range] at h3
      show _ = some ((rowC sqC ((List.range len).map g)).getD j undef)
      rw [List.getD_eq_getElem?_getD, h3]
      rw [Array.getElem?_eq_getElem (show j % 101 < (sqC (g (j / 101))).size by rw [sqC_size]; omega)]; rfl

/-- A list of names that comes in. -/
theorem trod_names {fuel : Nat} {cs : List Value} {x : DataW H × List MemPlace} (h : DataW.trod enc Tryz.prog w base spare held fuel 22 cs = some x) :
    ∃ (p : Option Addr) (cap : Nat) (ns : List ByteArray), cs = [.slice p ns.length cap] ∧ rdp w p ns.length (nmF ns) ∧ ns.length ≤ maxLen ∧ ∀ x ∈ ns, x.size ≤ maxLen := by
  rcases open_strings Tryz.underlying22 Tryz.underlying9 Tryz.cellsStr h with ⟨rfl, _⟩ | ⟨a, len, cap, ss, rfl, _, hl, hm, hss, _, hcell, hsz⟩
  · exact ⟨none, 0, [], rfl, (fun h => absurd h (by simp)), Nat.zero_le _, (fun _ h => by cases h)⟩
  · have hle : len ≤ ss.length := by rw [hss]; split <;> omega
    have hll : (ss.take len).length = len := by rw [List.length_take]; omega
    refine ⟨some a, cap, ss.take len, by rw [hll], fun hn => ?_, by omega, fun x hx => hsz x (List.mem_of_mem_take hx)⟩
    rw [hll] at hn ⊢
    have h0 := hcell 0 (by omega)
    rw [show a.add 0 = a by simp [Addr.add]] at h0
    obtain ⟨e1, hlt⟩ := cell_addr h0
    refine ⟨a.block, a.off, by rw [← e1], hlt, fun j hj => ?_⟩
    have e2 : a.add j = ⟨a.block, a.off + j, none⟩ := by rw [e1, add_none]
    rw [← e2, hcell j (by omega)]
    unfold nmF
    rw [List.getD_eq_getElem?_getD, List.getD_eq_getElem?_getD, List.getElem?_take, if_pos hj]

/-- A book that comes in. -/
def bkV (p1 : Option Addr) (c1 : Nat) (p2 : Option Addr) (c2 n m : Nat) : Array Value := #[.slice p1 n c1, .slice p2 m c2]
set_option maxRecDepth 100000 in
theorem trod_book {fuel : Nat} {cs : List Value} {x : DataW H × List MemPlace} (h : DataW.trod enc Tryz.prog w base spare held fuel 25 cs = some x) :
    ∃ (p1 p2 : Option Addr) (c1 c2 : Nat) (ns : List ByteArray) (ls : List Sqr), cs = (bkV p1 c1 p2 c2 ns.length ls.length).toList ∧ rdp w p1 ns.length (nmF ns) ∧ rdp w p2 (ls.length * 101) (fun j => (slC ls).getD j undef) ∧
      ns.length ≤ maxLen ∧ ls.length ≤ maxLen ∧ (∀ x ∈ ns, x.size ≤ maxLen) ∧ ∀ q ∈ ls, Byt2 q.t := by
  obtain ⟨xs, m, _, _, hlen, hxl, hfs⟩ := DataW.trod_struct Tryz.underlying25 h
  rw [Tryz.cellsBk] at hlen
  have g0 : DataW.trod enc Tryz.prog w base spare held m 22 ((cs.drop 0).take (Tryz.prog.cellsOf 22)) = xs[0]? := hfs 0 _ rfl
  have g1 : DataW.trod enc Tryz.prog w base spare held m 23 ((cs.drop 1).take (Tryz.prog.cellsOf 23)) = xs[1]? := hfs 1 _ rfl
  rw [Tryz.cellsNs] at g0
  rw [Tryz.cellsLs] at g1
  have hx2 : xs.length = 2 := hxl
  rw [List.getElem?_eq_getElem (by omega)] at g0 g1
  obtain ⟨p1, c1, ns, h1, r1, n1, s1⟩ := trod_names g0
  obtain ⟨p2, c2, ls, h2, b2, r2, n2⟩ := trod_squares g1
  refine ⟨p1, p2, c1, c2, ns, ls, ?_, r1, r2, n1, n2, s1, b2⟩
  match cs, hlen with
  | [x, y], _ =>
    simp at h1 h2
    subst h1 h2
    rfl
set_option maxRecDepth 100000 in
theorem open_book {r : Reach} {b0 : Nat} {v : Value} {d : DataW H} {p : List MemPlace} (hv : Value.okWide Tryz.prog w r b0 25 v) (h : DataW.Trod enc Tryz.prog w base spare held 25 v d p) :
    ∃ (p1 p2 : Option Addr) (c1 c2 : Nat) (ns : List ByteArray) (ls : List Sqr), v = .agg (bkV p1 c1 p2 c2 ns.length ls.length) ∧ rdp w p1 ns.length (nmF ns) ∧ rdp w p2 (ls.length * 101) (fun j => (slC ls).getD j undef) ∧
      ns.length ≤ maxLen ∧ ls.length ≤ maxLen ∧ (∀ x ∈ ns, x.size ≤ maxLen) ∧ ∀ q ∈ ls, Byt2 q.t := by
  obtain ⟨cs, rfl, _⟩ := okWide_struct Tryz.underlying25 hv
  obtain ⟨fuel, hf⟩ := h
  obtain ⟨p1, p2, c1, c2, ns, ls, h1, h2⟩ := trod_book hf
  exact ⟨p1, p2, c1, c2, ns, ls, by
    have : cs = bkV p1 c1 p2 c2 ns.length ls.length := by apply Array.ext'; exact h1
    rw [this], h2⟩
end
end Go.Proofs.YtocejggobgfccaaGreatDoor

/- The laws' own sizes, copies and comparisons of books: contracts. -/
namespace Go.Proofs.YtocejggobgfccaaGreatDoor
set_option linter.unusedSimpArgs false
set_option linter.unusedVariables false
open Go Go.RowKit

theorem und_sq0 : Tryz.prog.underlying 70 = some (.struct (Tryz.prog.fieldsOf 70)) := by kernel_rfl
theorem inf_sq0 : (Tryz.prog.info? 70).map (·.size) = some 101 := by kernel_rfl

set_option maxRecDepth 100000 in
set_option maxHeartbeats 400000 in
theorem szSquareS_any (n : Nat) (hn : n ≤ 9223372036854775807) (w : World) (p : Option Addr) (cap : Nat) (left : Int) (h0 : 0 ≤ left) (h1 : left ≤ 1048576) :
    Calls Tryz.prog 14 #[.slice p n cap, .int .i64 left] w fun e w' => ∃ r : Int, e = .returned (.int .i64 r) ∧ (0 ≤ r → r ≤ left ∧ (n : Int) ≤ left) ∧ Below w.heap.size w w' := by
  have M := Mm.start no w
  have hw : wrap64 (left - (n : Int)) = left - (n : Int) := wrap_small _ (by omega) (by omega)
  by_cases hneg : left - (n : Int) < 0
  · go_enter Tryz.func14, Tryz.ntmps14
    go_wp2
    go_ret
    exact ⟨-1, rfl, fun h => by omega, M.below⟩
  · go_enter Tryz.func14, Tryz.ntmps14
    go_wp2
    go_ret
    exact ⟨left - n, rfl, fun h => by omega, M.below⟩

set_option maxRecDepth 100000 in
set_option maxHeartbeats 1000000 in
theorem szStringS_any (ns : List ByteArray) (hn : ns.length ≤ 9223372036854775807) (hs : ∀ x ∈ ns, x.size ≤ 9223372036854775807) (w : World) (p : Option Addr) (cap : Nat) (left : Int) (h0 : 0 ≤ left) (h1 : left ≤ 1048576) (hr : rdp w p ns.length (nmF ns)) :
    Calls Tryz.prog 13 #[.slice p ns.length cap, .int .i64 left] w fun e w' => ∃ r : Int, e = .returned (.int .i64 r) ∧ (0 ≤ r → r ≤ left ∧ (ns.length : Int) ≤ left ∧ ∀ x ∈ ns, (x.size : Int) ≤ left) ∧ Below w.heap.size w w' := by
  have M := (Mm.start no w).add (x := Ent.inc ns.length p (nmF ns)) hr.ent fun _ h => by cases h
  have hw : wrap64 (left - (ns.length : Int)) = left - (ns.length : Int) := wrap_small _ (by omega) (by omega)
  clear hr
  have HS := Hid2.mk hs
  clear hs
  by_cases hneg : left - (ns.length : Int) < 0
  · go_enter Tryz.func13, Tryz.ntmps13
    go_wp2
    go_ret
    exact ⟨-1, rfl, fun h => by omega, M.below⟩
  · go_enter Tryz.func13, Tryz.ntmps13
    go_wp2
    clear hw
    go_loopw [5, 1] (fun i l wr => ∃ k : Nat, k ≤ ns.length ∧ i = .int .i64 (k : Int) ∧ ∃ z : Int, l = .int .i64 z ∧ 0 ≤ z ∧ z ≤ left ∧ (∀ j (h : j < ns.length), j < k → (ns[j].size : Int) ≤ left) ∧ Mm no w wr [Ent.inc ns.length p (nmF ns)]) (fun i _ _ => ns.length - (intOf i).toNat)
    case atStart => exact ⟨0, by omega, rfl, _, rfl, by omega, by omega, fun j _ h => by omega, M⟩
    case round =>
      obtain ⟨k, hk, rfl, z, rfl, hz0, hz1, hl, M9⟩ := hrel
      clear M
      have M := M9
      clear M9
      have HL := Hid2.mk hl
      clear hl
      by_cases hlt : k < ns.length
      · have hlt' : (k : Int) < (ns.length : Int) := by omega
        obtain ⟨b, off, rfl, _, hc⟩ := rdp_in M 0 rfl (by omega)
        have hck := hc k hlt
        rw [nmF_at hlt] at hck
        have hsz := HS.out ns[k] (List.getElem_mem hlt)
        have hnext : ((ns[k].size : Nat) : Int) ≤ left → ∀ j (h : j < ns.length), j < k + 1 → (ns[j].size : Int) ≤ left := fun h j hj h1 => by
          rcases Nat.lt_or_eq_of_le (Nat.lt_succ_iff.1 h1) with h2 | rfl
          · exact HL.out j hj h2
          · exact h
        have HN := Hid2.mk hnext
        generalize ns[k] = x at hck hsz HN
        clear hc hnext
        have hw : wrap64 (z - (x.size : Int)) = z - (x.size : Int) := wrap_small _ (by omega) (by omega)
        by_cases hng : z - (x.size : Int) < 0
        · go_wp2
          go_ret
          exact ⟨-1, rfl, fun h => by omega, M.below⟩
        · go_wp2
          go_roundw
          case rel => exact ⟨k + 1, by omega, by go_num, _, rfl, by omega, by omega, HN.out (by omega), M⟩
          case measure => simp [intOf]; omega
      · obtain rfl : k = ns.length := by omega
        have hge : ¬ ((ns.length : Int) < (ns.length : Int)) := by omega
        go_wp2
        go_ret
        exact ⟨z, rfl, fun _ => ⟨hz1, by omega, fun x hx => by
          obtain ⟨j, hj, rfl⟩ := List.getElem_of_mem hx
          exact HL.out j hj hj⟩, M.below⟩

set_option maxRecDepth 100000 in
set_option maxHeartbeats 400000 in
theorem szBook_any (ns : List ByteArray) (hn : ns.length ≤ 9223372036854775807) (hs : ∀ x ∈ ns, x.size ≤ 9223372036854775807) (m : Nat) (hm : m ≤ 9223372036854775807) (w : World) (p1 p2 : Option Addr) (c1 c2 : Nat) (left : Int) (h0 : 0 ≤ left) (h1 : left ≤ 1048576) (hr : rdp w p1 ns.length (nmF ns)) :
    Calls Tryz.prog 4 #[.agg (bkV p1 c1 p2 c2 ns.length m), .int .i64 left] w fun e w' => ∃ r : Int, e = .returned (.int .i64 r) ∧ (0 ≤ r → r ≤ left ∧ (ns.length : Int) ≤ left ∧ (∀ x ∈ ns, (x.size : Int) ≤ left) ∧ (m : Int) ≤ left) ∧ Below w.heap.size w w' := by
  have M := (Mm.start no w).add (x := Ent.inc ns.length p1 (nmF ns)) hr.ent fun _ h => by cases h
  have k0 : (bkV p1 c1 p2 c2 ns.length m)[0]? = some (.slice p1 ns.length c1) := rfl
  have k1 : (bkV p1 c1 p2 c2 ns.length m)[1]? = some (.slice p2 m c2) := rfl
  have H1 : ∀ (b : Nat) (w1 : World), Mm no w w1 [.box b (bkV p1 c1 p2 c2 ns.length m) 25, Ent.inc ns.length p1 (nmF ns)] → _ := fun b w1 M => szStringS_any ns hn hs w1 p1 c1 left h0 h1 (rdp_in M 1 rfl)
  have H2 := fun w1 (z : Int) (g0 : 0 ≤ z) (g1 : z ≤ left) => szSquareS_any m hm w1 p2 c2 z g0 (by omega)
  clear hr hs
  go_enter Tryz.func4, Tryz.ntmps4
  go_wp2_with (first | ((with_reducible apply wpM_box' M 25 (bkV p1 c1 p2 c2 ns.length m)); rfl; exact ⟨rfl, rfl⟩; clear M; (try clear C); intro bb w9 h_bb M; have C := M.ruleAll; simp only [Go.Proofs.YtocejggobgfccaaGreatDoor.ruleAll] at C))
  refine (H1 _ _ M).mono ?_
  rintro e w1 ⟨r, rfl, hr, hb⟩
  have M9 := M.later hb
  clear M; (try clear C)
  have M := M9
  clear M9
  have C := M.ruleAll; simp only [Go.Proofs.YtocejggobgfccaaGreatDoor.ruleAll] at C
  by_cases hneg : r < 0
  · go_wp2
    go_ret
    exact ⟨-1, rfl, fun h => by omega, M.below⟩
  · obtain ⟨q1, q2, q3⟩ := hr (by omega)
    have Q3 := Hid2.mk q3
    clear hr q3
    go_wp2_with (first | (go_at_call 14; ((with_reducible refine (H2 _ _ (by omega) q1).mono ?_); rintro e w1 ⟨r2, rfl, hr2, hb⟩; have hsz := M.size; have M9 := M.later hb; clear M; (try clear C); have M := M9; clear M9; (try simp only [List.set_cons_zero, List.set_cons_succ] at M); have C := M.ruleAll; simp only [Go.Proofs.YtocejggobgfccaaGreatDoor.ruleAll] at C)))
    all_goals go_ret
    · exact ⟨-1, rfl, fun h => by omega, M.below⟩
    · obtain ⟨q4, q5⟩ := hr2 (by omega)
      exact ⟨r2, rfl, fun _ => ⟨by omega, q2, Q3.out, by omega⟩, M.below⟩
end Go.Proofs.YtocejggobgfccaaGreatDoor

/- The laws' own comparison of squares: contracts. -/
namespace Go.Proofs.YtocejggobgfccaaGreatDoor
set_option linter.unusedSimpArgs false
set_option linter.unusedVariables false
open Go Go.RowKit

set_option maxRecDepth 100000 in
set_option maxHeartbeats 1000000 in
theorem eqByteA10_any (f : Nat → Nat) (w : World) : Calls Tryz.prog 86 #[.agg (bys f), .agg (bys f)] w fun e w' => e = .returned (.bool true) ∧ Below w.heap.size w w' := by
  have M := Mm.start no w
  go_enter Tryz.func86, Tryz.ntmps86
  go_wp2_with (first | (have hq := h_bf; clear hq; ((with_reducible apply wpM_box' M 46 (bys f)); rfl; exact ⟨rfl, rfl⟩; clear M; (try clear C); intro bg w9 h_bg M; have C := M.ruleAll; simp only [Go.Proofs.YtocejggobgfccaaGreatDoor.ruleAll] at C)) | ((with_reducible apply wpM_box' M 46 (bys f)); rfl; exact ⟨rfl, rfl⟩; clear M; (try clear C); intro bf w9 h_bf M; have C := M.ruleAll; simp only [Go.Proofs.YtocejggobgfccaaGreatDoor.ruleAll] at C))
  go_loopw [5] (fun i wr => ∃ k : Nat, k ≤ 10 ∧ i = .int .i64 (k : Int) ∧ Mm no w wr [.box bg (bys f) 46, .box bf (bys f) 46]) (fun i _ => 10 - (intOf i).toNat)
  case atStart => exact ⟨0, by omega, rfl, M⟩
  case round =>
    obtain ⟨k, hk, rfl, M9⟩ := hrel
    clear M; (try clear C)
    have M := M9
    clear M9
    have C := M.ruleAll; simp only [Go.Proofs.YtocejggobgfccaaGreatDoor.ruleAll] at C
    by_cases hlt : k < 10
    · have hlt' : (k : Int) < 10 := by omega
      have c1 := bys_get (f := f) hlt
      have he' : ((f k : Int) == (f k : Int)) = true := by simp
      go_wp2
      apply wp_region_mm M 6 (by kernel_rfl) (by kernel_rfl); (simp only [List.take_succ_cons, List.take_zero]; repeat (first | exact wpText_nil | (apply wpText_cons; (intro w2 M; have C := M.ruleAll; simp only [Go.Proofs.YtocejggobgfccaaGreatDoor.ruleAll] at C; go_wp2; exact ⟨rfl, rfl, M⟩); rfl))); (clear M; (try clear C); intro w2 M; simp only [List.drop_succ_cons, List.drop_zero]; have C := M.ruleAll; simp only [Go.Proofs.YtocejggobgfccaaGreatDoor.ruleAll] at C)
      go_wp2
      go_roundw
      case rel => exact ⟨k + 1, by omega, by go_num, M⟩
      case measure => simp [intOf]; omega
    · obtain rfl : k = 10 := by omega
      go_wp2
      go_ret
      exact ⟨rfl, M.below⟩

set_option maxRecDepth 100000 in
set_option maxHeartbeats 1000000 in
theorem eqTable_any (t : Nat → Nat → Nat) (w : World) : Calls Tryz.prog 66 #[.agg (tbs t), .agg (tbs t)] w fun e w' => e = .returned (.bool true) ∧ Below w.heap.size w w' := by
  have M := Mm.start no w
  go_enter Tryz.func66, Tryz.ntmps66
  go_wp2_with (first | (have hq := h_bf; clear hq; ((with_reducible apply wpM_box' M 48 (tbs t)); rfl; exact ⟨rfl, rfl⟩; clear M; (try clear C); intro bg w9 h_bg M; have C := M.ruleAll; simp only [Go.Proofs.YtocejggobgfccaaGreatDoor.ruleAll] at C)) | ((with_reducible apply wpM_box' M 48 (tbs t)); rfl; exact ⟨rfl, rfl⟩; clear M; (try clear C); intro bf w9 h_bf M; have C := M.ruleAll; simp only [Go.Proofs.YtocejggobgfccaaGreatDoor.ruleAll] at C))
  go_loopw [5] (fun i wr => ∃ k : Nat, k ≤ 10 ∧ i = .int .i64 (k : Int) ∧ Mm no w wr [.box bg (tbs t) 48, .box bf (tbs t) 48]) (fun i _ => 10 - (intOf i).toNat)
  case atStart => exact ⟨0, by omega, rfl, M⟩
  case round =>
    obtain ⟨k, hk, rfl, M9⟩ := hrel
    clear M; (try clear C)
    have M := M9
    clear M9
    have C := M.ruleAll; simp only [Go.Proofs.YtocejggobgfccaaGreatDoor.ruleAll] at C
    by_cases hlt : k < 10
    · have hlt' : (k : Int) < 10 := by omega
      have H := fun w1 => eqByteA10_any (t k) w1
      go_wp2
      apply wp_region_mm M 6 (by kernel_rfl) (by kernel_rfl); (simp only [List.take_succ_cons, List.take_zero]; repeat (first | exact wpText_nil | (apply wpText_cons; (intro w2 M; have C := M.ruleAll; simp only [Go.Proofs.YtocejggobgfccaaGreatDoor.ruleAll] at C; go_wp2_with (first | ((with_reducible apply wpM_lda' M 1 46 (k * 10) (bys (t k))); rfl; rfl; rfl; exact ⟨rfl, inf_bys.trans (congrArg some (bys_size ..).symm), _, und_bys, rfl⟩; exact tbs_row hlt) | ((with_reducible apply wpM_lda' M 0 46 (k * 10) (bys (t k))); rfl; rfl; rfl; exact ⟨rfl, inf_bys.trans (congrArg some (bys_size ..).symm), _, und_bys, rfl⟩; exact tbs_row hlt)); exact ⟨rfl, rfl, M⟩); rfl))); (clear M; (try clear C); intro w2 M; simp only [List.drop_succ_cons, List.drop_zero]; have C := M.ruleAll; simp only [Go.Proofs.YtocejggobgfccaaGreatDoor.ruleAll] at C)
      go_wp2_with (first | (go_at_call 86; ((with_reducible refine (H _).mono ?_); rintro e w1 ⟨rfl, hb⟩; have hsz := M.size; (try (have G9 := G.later hb; clear G; have G := G9; clear G9)); have M9 := M.later hb; clear M; (try clear C); have M := M9; clear M9; have C := M.ruleAll; simp only [Go.Proofs.YtocejggobgfccaaGreatDoor.ruleAll] at C)))
      go_roundw
      case rel => exact ⟨k + 1, by omega, by go_num, M⟩
      case measure => simp [intOf]; omega
    · obtain rfl : k = 10 := by omega
      go_wp2
      go_ret
      exact ⟨rfl, M.below⟩

set_option maxRecDepth 100000 in
set_option maxHeartbeats 1000000 in
theorem eqSquare_any (n : Int) (t : Nat → Nat → Nat) (w : World) : Calls Tryz.prog 46 #[.agg (sqs n t), .agg (sqs n t)] w fun e w' => e = .returned (.bool true) ∧ Below w.heap.size w w' := by
  have M := Mm.start no w
  have so := sqs_order n t
  have he : (n == n) = true := by simp
  have H := fun w1 => eqTable_any t w1
  go_enter Tryz.func46, Tryz.ntmps46
  go_wp2_with (first | (have hq := h_bf; clear hq; ((with_reducible apply wpM_box' M 50 (sqs n t)); rfl; exact ⟨rfl, rfl⟩; clear M; (try clear C); intro bg w9 h_bg M; have C := M.ruleAll; simp only [Go.Proofs.YtocejggobgfccaaGreatDoor.ruleAll] at C)) | ((with_reducible apply wpM_box' M 50 (sqs n t)); rfl; exact ⟨rfl, rfl⟩; clear M; (try clear C); intro bf w9 h_bf M; have C := M.ruleAll; simp only [Go.Proofs.YtocejggobgfccaaGreatDoor.ruleAll] at C) | ((with_reducible apply wpM_lda' M 1 48 (1) (tbs t)); rfl; rfl; rfl; exact ⟨rfl, inf_tbl.trans (congrArg some (tbs_size ..).symm), _, und_tbl, rfl⟩; exact sqs_tbs) | ((with_reducible apply wpM_lda' M 0 48 (1) (tbs t)); rfl; rfl; rfl; exact ⟨rfl, inf_tbl.trans (congrArg some (tbs_size ..).symm), _, und_tbl, rfl⟩; exact sqs_tbs) | (go_at_call 66; ((with_reducible refine (H _).mono ?_); rintro e w1 ⟨rfl, hb⟩; have hsz := M.size; (try (have G9 := G.later hb; clear G; have G := G9; clear G9)); have M9 := M.later hb; clear M; (try clear C); have M := M9; clear M9; have C := M.ruleAll; simp only [Go.Proofs.YtocejggobgfccaaGreatDoor.ruleAll] at C)))
  go_ret
  exact ⟨rfl, M.below⟩

/-- Cells that hold names; cells that hold squares. -/
def strC (ns : List ByteArray) (cs : Array Value) : Prop := cs.size = ns.length ∧ ∀ j, j < ns.length → cs[j]? = some (nmF ns j)
def sqaC (ls : List Sqr) (cs : Array Value) : Prop := cs.size = ls.length * 101 ∧ ∀ j, j < ls.length * 101 → cs[j]? = some ((slC ls).getD j undef)
theorem und_slQ : Tryz.prog.underlying 29 = some (.slice 50) := by kernel_rfl
theorem inf_elQ : (Tryz.prog.info? 50).map (fun i => (i.zero, i.size, i.bytes)) = some (some (.agg (sqs 0 fun _ _ => 0)), 101, 112) := by kernel_rfl

set_option maxRecDepth 100000 in
set_option maxHeartbeats 1000000 in
theorem toStringS_any (ns : List ByteArray) (hn : ns.length ≤ 1048576) (w : World) (p : Option Addr) (cap : Nat) (hr : rdp w p ns.length (nmF ns)) :
    Calls Tryz.prog 19 #[.slice p ns.length cap] w fun e w' => ∃ g, e = .returned (.slice (some ⟨g, 0, none⟩) ns.length ns.length) ∧ w.heap.size ≤ g ∧ ∃ cs, strC ns cs ∧ Mm no w w' [.box g cs 9] := by
  have M := (Mm.start no w).add (x := Ent.inc ns.length p (nmF ns)) hr.ent fun _ h => by cases h
  clear hr
  go_enter Tryz.func19, Tryz.ntmps19
  go_wp2_with (first | ((with_reducible apply wpM_make' M 22 9 1 16 (.string .empty) (ns.length)); rfl; rfl; rfl; rfl; exact und_sls; exact inf_els; omega; omega; clear M; (try clear C); intro g w9 h_g M; have C := M.ruleAll; simp only [Go.Proofs.YtocejggobgfccaaGreatDoor.ruleAll] at C))
  go_loopw [4] (fun i wr => ∃ k : Nat, k ≤ ns.length ∧ i = .int .i64 (k : Int) ∧ ∃ cs : Array Value, cs.size = ns.length ∧ (∀ j, j < k → cs[j]? = some (nmF ns j)) ∧ Mm no w wr [.box g cs 9, Ent.inc ns.length p (nmF ns)]) (fun i _ => ns.length - (intOf i).toNat)
  case atStart => exact ⟨0, by omega, rfl, _, by rw [size_madeCells, Nat.mul_one], fun j h => by omega, M⟩
  case round =>
    obtain ⟨k, hk, rfl, cs, hcs, hl, M9⟩ := hrel
    clear M; (try clear C)
    have M := M9
    clear M9
    have C := M.ruleAll; simp only [Go.Proofs.YtocejggobgfccaaGreatDoor.ruleAll] at C
    have HL := Hid2.mk hl
    clear hl
    by_cases hlt : k < ns.length
    · have hlt' : (k : Int) < (ns.length : Int) := by omega
      obtain ⟨b, off, rfl, _, hc⟩ := rdp_in M 1 rfl (by omega)
      have hck := hc k hlt
      have HN := Hid2.mk (nmF_at hlt)
      rw [HN.out] at hck
      generalize ns[k] = x at hck HN
      clear hc
      go_wp2_with (first | ((with_reducible apply wpM_st' M 0 9 (k) (cs.setIfInBounds k (.string x))); rfl; rfl; rfl; (first | exact .inl (by assumption) | exact .inr rfl | exact .inr (by assumption)); exact ⟨rfl, rfl, by kernel_rfl⟩; (exact Nat.lt_of_lt_of_eq (by omega) (hcs).symm); exact rfl; clear M; (try clear C); intro w9 M; simp only [List.set_cons_zero, List.set_cons_succ, entBlk, entT, List.getElem?_cons_zero, List.getElem?_cons_succ] at M; have C := M.ruleAll; simp only [Go.Proofs.YtocejggobgfccaaGreatDoor.ruleAll] at C))
      go_roundw
      case rel => exact ⟨k + 1, by omega, by go_num, _, by rw [Array.size_setIfInBounds]; exact hcs, fun j hj => by
        rw [Array.getElem?_setIfInBounds]
        split
        · rename_i e; subst e; rw [if_pos (by omega), HN.out]
        · exact HL.out j (by omega), M⟩
      case measure => simp [intOf]; omega
    · obtain rfl : k = ns.length := by omega
      have hge : ¬ ((ns.length : Int) < (ns.length : Int)) := by omega
      go_wp2
      go_ret
      exact ⟨g, rfl, h_g, cs, ⟨hcs, HL.out⟩, M.drop 1⟩

theorem sqa_step {ls : List Sqr} {k : Nat} {cs : Array Value} (hk : k < ls.length) (hcs : cs.size = ls.length * 101) (h : ∀ j, j < k * 101 → cs[j]? = some ((slC ls).getD j undef)) :
    (splice cs (k * 101) (sqs ls[k].n ls[k].t).toList).size = ls.length * 101 ∧ ∀ j, j < (k + 1) * 101 → (splice cs (k * 101) (sqs ls[k].n ls[k].t).toList)[j]? = some ((slC ls).getD j undef) := by
  refine ⟨by rw [splice_size 0 _ cs (k * 101)]; exact hcs, fun j hj => ?_⟩
  have hlen : (sqs ls[k].n ls[k].t).toList.length = 101 := by rw [Array.length_toList, sqs_size]
  rw [splice_get _ cs (k * 101) j (by rw [hcs]; omega), hlen]
  split
  · rename_i hin
    have h3 := rowC_get (f := sqC) sqC_size ls hk (j := j - k * 101) (by omega)
    rw [show k * 101 + (j - k * 101) = j by omega] at h3
    rw [List.getD_eq_getElem?_getD]
    show _ = some (((rowC sqC ls)[j]?).getD undef)
    rw [h3, Array.getElem?_toList]
    show (sqC ls[k])[j - k * 101]? = _
    rw [Array.getElem?_eq_getElem (show j - k * 101 < (sqC ls[k]).size by rw [sqC_size]; omega)]; rfl
  · exact h j (by omega)

set_option maxRecDepth 100000 in
set_option maxHeartbeats 1000000 in
theorem toSquareS_any (ls : List Sqr) (hn : ls.length ≤ 1048576) (w : World) (p : Option Addr) (cap : Nat) (hr : rdp w p (ls.length * 101) (fun j => (slC ls).getD j undef)) :
    Calls Tryz.prog 20 #[.slice p ls.length cap] w fun e w' => ∃ g, e = .returned (.slice (some ⟨g, 0, none⟩) ls.length ls.length) ∧ w.heap.size ≤ g ∧ ∃ cs, sqaC ls cs ∧ Mm no w w' [.box g cs 50] := by
  have M := (Mm.start no w).add (x := Ent.inc (ls.length * 101) p (fun j => (slC ls).getD j undef)) hr.ent fun _ h => by cases h
  clear hr
  have hz := zero_sqs
  go_enter Tryz.func20, Tryz.ntmps20
  go_wp2_with (first | ((with_reducible apply wpM_make' M 29 50 101 112 (.agg (sqs 0 fun _ _ => 0)) (ls.length)); rfl; rfl; rfl; rfl; exact und_slQ; exact inf_elQ; omega; omega; clear M; (try clear C); intro g w9 h_g M; have C := M.ruleAll; simp only [Go.Proofs.YtocejggobgfccaaGreatDoor.ruleAll] at C))
  go_loopw [4] (fun i wr => ∃ k : Nat, k ≤ ls.length ∧ i = .int .i64 (k : Int) ∧ ∃ cs : Array Value, cs.size = ls.length * 101 ∧ (∀ j, j < k * 101 → cs[j]? = some ((slC ls).getD j undef)) ∧ Mm no w wr [.box g cs 50, Ent.inc (ls.length * 101) p (fun j => (slC ls).getD j undef)]) (fun i _ => ls.length - (intOf i).toNat)
  case atStart => exact ⟨0, by omega, rfl, _, by rw [size_madeCells], fun j h => by omega, M⟩
  case round =>
    obtain ⟨k, hk, rfl, cs, hcs, hl, M9⟩ := hrel
    clear M; (try clear C)
    have M := M9
    clear M9
    have C := M.ruleAll; simp only [Go.Proofs.YtocejggobgfccaaGreatDoor.ruleAll] at C
    by_cases hlt : k < ls.length
    · have hlt' : (k : Int) < (ls.length : Int) := by omega
      obtain ⟨b, off, rfl, _, hc⟩ := rdp_in M 1 rfl (by omega)
      have HS := Hid2.mk (sqa_step hlt hcs hl)
      have hcells : ∀ {w3 : World}, rdp w3 (some ⟨b, off, none⟩) (ls.length * 101) (fun j => (slC ls).getD j undef) → ∀ j v, (sqs ls[k].n ls[k].t)[j]? = some v → w3.cell? ⟨b, off + k * 101 + j, none⟩ = some v := fun h j v hv => by
        obtain ⟨b', off', e, _, hc⟩ := h (by omega)
        cases e
        have hj : j < 101 := by have := (Array.getElem?_eq_some_iff.1 hv).1; rwa [sqs_size] at this
        have h3 := rowC_get (f := sqC) sqC_size ls hlt (j := j) hj
        rw [Nat.add_assoc, hc (k * 101 + j) (by omega)]
        show some ((slC ls).getD (k * 101 + j) undef) = _
        rw [List.getD_eq_getElem?_getD]
        show some (((rowC sqC ls)[k * 101 + j]?).getD undef) = _
        rw [h3]
        show some (((sqs ls[k].n ls[k].t)[j]?).getD undef) = _
        rw [hv]; rfl
      have HCE := Hid2.mk @hcells
      generalize ls[k] = q at HS HCE
      clear hc hcells hl
      have H := fun w1 => toSquare_any q.n q.t w1
      go_wp2_with (first | (refine wpList_load_part rfl 70 _ rfl (b) (off + k * 101) rfl (sqs q.n q.t) _ und_sq0 rfl inf_sq0 (HCE.out (rdp_in M 1 rfl)) ?_) | (go_at_call 35; ((with_reducible refine (H _).mono ?_); rintro e w1 ⟨rfl, hb⟩; have hsz := M.size; (try (have G9 := G.later hb; clear G; have G := G9; clear G9)); have M9 := M.later hb; clear M; (try clear C); have M := M9; clear M9; have C := M.ruleAll; simp only [Go.Proofs.YtocejggobgfccaaGreatDoor.ruleAll] at C)) | ((with_reducible apply wpM_stp' M 0 50 (k * 101) (sqs q.n q.t) (splice cs (k * 101) (sqs q.n q.t).toList)); rfl; rfl; rfl; rfl; (first | exact .inl (by assumption) | exact .inr rfl | exact .inr (by assumption)); exact ⟨rfl, inf_sqs.trans (congrArg some (sqs_size ..).symm), flat_sqs _ _⟩; (simp only [entCells, List.getElem?_cons_zero, sqs_size]; omega); exact rfl; clear M; (try clear C); intro w9 M; simp only [List.set_cons_zero, List.set_cons_succ, entBlk, entT, List.getElem?_cons_zero, List.getElem?_cons_succ] at M; have C := M.ruleAll; simp only [Go.Proofs.YtocejggobgfccaaGreatDoor.ruleAll] at C))
      go_roundw
      case rel => exact ⟨k + 1, by omega, by go_num, _, HS.out.1, HS.out.2, M⟩
      case measure => simp [intOf]; omega
    · obtain rfl : k = ls.length := by omega
      have hge : ¬ ((ls.length : Int) < (ls.length : Int)) := by omega
      go_wp2
      go_ret
      exact ⟨g, rfl, h_g, cs, ⟨hcs, hl⟩, M.drop 1⟩
end Go.Proofs.YtocejggobgfccaaGreatDoor

/- The laws' own copies and comparisons of books: contracts. -/
namespace Go.Proofs.YtocejggobgfccaaGreatDoor
set_option linter.unusedSimpArgs false
set_option linter.unusedVariables false
open Go Go.RowKit

/-- The cells of a book that holds nothing. -/
def bkZ : Array Value := #[.slice none 0 0, .slice none 0 0]
theorem bkz_size : bkZ.size = 2 := rfl
theorem zero_bok (w : World) : (zeroValue 31).run Tryz.prog w = .ok (.agg bkZ) w := by kernel_rfl

/-- A book in new memory. -/
def BookNew (ns : List ByteArray) (ls : List Sqr) (w : World) (e : Ending) (w' : World) : Prop :=
  ∃ g1 g2 cs1 cs2, e = .returned (.agg (bkA g1 ns.length g2 ls.length ns.length ls.length)) ∧ w.heap.size ≤ g1 ∧ w.heap.size ≤ g2 ∧ strC ns cs1 ∧ sqaC ls cs2 ∧ Mm no w w' [.box g1 cs1 9, .box g2 cs2 50]

set_option maxRecDepth 100000 in
set_option maxHeartbeats 1000000 in
theorem toBook_any (ns : List ByteArray) (ls : List Sqr) (hn : ns.length ≤ 1048576) (hm : ls.length ≤ 1048576) (w : World) (p1 p2 : Option Addr) (c1 c2 : Nat) (hr1 : rdp w p1 ns.length (nmF ns)) (hr2 : rdp w p2 (ls.length * 101) (fun j => (slC ls).getD j undef)) :
    Calls Tryz.prog 6 #[.agg (bkV p1 c1 p2 c2 ns.length ls.length)] w (BookNew ns ls w) := by
  have M := Mm.start no w
  have k0 : (bkV p1 c1 p2 c2 ns.length ls.length)[0]? = some (.slice p1 ns.length c1) := rfl
  have k1 : (bkV p1 c1 p2 c2 ns.length ls.length)[1]? = some (.slice p2 ls.length c2) := rfl
  have H1 := fun w1 (hb : Below w.heap.size w w1) => toStringS_any ns hn w1 p1 c1 (hr1.later hb)
  have H2 := fun w1 (hb : Below w.heap.size w w1) => toSquareS_any ls hm w1 p2 c2 (hr2.later hb)
  have hz := zero_bok
  clear hr1 hr2
  go_enter Tryz.func6, Tryz.ntmps6
  go_wp2_with (first | ((with_reducible apply wpM_box' M 25 (bkV p1 c1 p2 c2 ns.length ls.length)); rfl; exact ⟨rfl, rfl⟩; clear M; (try clear C); intro bb w9 h_bb M; have C := M.ruleAll; simp only [Go.Proofs.YtocejggobgfccaaGreatDoor.ruleAll] at C) | (have hq := h_b2; clear hq; ((with_reducible apply wpM_alloc' M 31 (bkZ)); rfl; exact ⟨rfl, _, zero_bok _, rfl⟩; clear M; (try clear C); intro b3 w9 h_b3 M; have C := M.ruleAll; simp only [Go.Proofs.YtocejggobgfccaaGreatDoor.ruleAll] at C)) | ((with_reducible apply wpM_alloc' M 31 (bkZ)); rfl; exact ⟨rfl, _, zero_bok _, rfl⟩; clear M; (try clear C); intro b2 w9 h_b2 M; have C := M.ruleAll; simp only [Go.Proofs.YtocejggobgfccaaGreatDoor.ruleAll] at C) | (go_at_call 19; ((with_reducible refine (H1 _ M.below).mono ?_); rintro e w1 ⟨g1, rfl, hg1, cs1, hs1, M'⟩; have hsz := M.size; have M9 := (M.join1 M' (new_box hg1)); clear M; (try clear C); have M := M9; clear M9; (try simp only [List.set_cons_zero, List.set_cons_succ] at M); have C := M.ruleAll; simp only [Go.Proofs.YtocejggobgfccaaGreatDoor.ruleAll] at C)) | (go_at_call 20; ((with_reducible refine (H2 _ M.below).mono ?_); rintro e w1 ⟨g2, rfl, hg2, cs2, hs2, M'⟩; have hsz := M.size; have M9 := (M.join1 M' (new_box hg2)); clear M; (try clear C); have M := M9; clear M9; (try simp only [List.set_cons_zero, List.set_cons_succ] at M); have C := M.ruleAll; simp only [Go.Proofs.YtocejggobgfccaaGreatDoor.ruleAll] at C)) | ((with_reducible apply wpM_st' M 1 22 (0) (#[.slice (some ⟨g1, 0, none⟩) ns.length ns.length, .slice none 0 0])); rfl; rfl; rfl; (first | exact .inl (by assumption) | exact .inr rfl | exact .inr (by assumption)); exact ⟨rfl, rfl, by kernel_rfl⟩; (exact Nat.lt_of_lt_of_eq (by omega) (bkz_size).symm); exact rfl; clear M; (try clear C); intro w9 M; simp only [List.set_cons_zero, List.set_cons_succ, entBlk, entT, List.getElem?_cons_zero, List.getElem?_cons_succ] at M; have C := M.ruleAll; simp only [Go.Proofs.YtocejggobgfccaaGreatDoor.ruleAll] at C) | ((with_reducible apply wpM_st' M 2 29 (1) (bkA g1 ns.length g2 ls.length ns.length ls.length)); rfl; rfl; rfl; (first | exact .inl (by assumption) | exact .inr rfl | exact .inr (by assumption)); exact ⟨rfl, rfl, by kernel_rfl⟩; (exact Nat.lt_of_lt_of_eq (by omega) ((show (#[.slice (some ⟨g1, 0, none⟩) ns.length ns.length, .slice none 0 0] : Array Value).size = 2 from rfl)).symm); exact rfl; clear M; (try clear C); intro w9 M; simp only [List.set_cons_zero, List.set_cons_succ, entBlk, entT, List.getElem?_cons_zero, List.getElem?_cons_succ] at M; have C := M.ruleAll; simp only [Go.Proofs.YtocejggobgfccaaGreatDoor.ruleAll] at C) | ((with_reducible apply wpM_lda' M 2 31 0 (bkA g1 ns.length g2 ls.length ns.length ls.length)); rfl; rfl; rfl; exact ⟨rfl, inf_bok.trans (congrArg some (bok_size ..).symm), _, und_bok, rfl⟩; exact whole_of rfl) | ((with_reducible apply wpM_sta' M 3 31 (bkA g1 ns.length g2 ls.length ns.length ls.length)); rfl; rfl; rfl; rfl; (first | exact .inl (by assumption) | exact .inr rfl | exact .inr (by assumption)); exact ⟨rfl, inf_bok.trans (congrArg some (bok_size ..).symm), flat_bok _ _ _ _ _ _⟩; (simp only [entCells, List.getElem?_cons_zero, List.getElem?_cons_succ, bok_size, bkz_size]); clear M; (try clear C); intro w9 M; simp only [List.set_cons_zero, List.set_cons_succ, entBlk, entT, List.getElem?_cons_zero, List.getElem?_cons_succ] at M; have C := M.ruleAll; simp only [Go.Proofs.YtocejggobgfccaaGreatDoor.ruleAll] at C))
  refine bodyPost_ret (v := .agg (bkA g1 ns.length g2 ls.length ns.length ls.length)) (by exact results_part rfl _ _ _ _ _ _ rfl und_bok rfl inf_bok (cells_of_blk0 (M.box 3 rfl))) rfl ?_
  exact ⟨g1, g2, cs1, cs2, rfl, by have := M.size; omega, by omega, hs1, hs2, (M.sub [1, 0] (by decide))⟩

set_option maxRecDepth 100000 in
set_option maxHeartbeats 1000000 in
theorem eqStringS_any (ns : List ByteArray) (hn : ns.length ≤ 9223372036854775807) (w : World) (p1 p2 : Option Addr) (c1 c2 : Nat) (h1 : rdq w p1 ns.length (nmF ns)) (h2 : rdq w p2 ns.length (nmF ns)) :
    Calls Tryz.prog 8 #[.slice p1 ns.length c1, .slice p2 ns.length c2] w fun e w' => e = .returned (.bool true) ∧ Below w.heap.size w w' := by
  have M := Mm.start no w
  have he : ((ns.length : Int) == (ns.length : Int)) = true := by simp
  have F1 := Hid2.mk (fun w1 (hb : Below w.heap.size w w1) => h1.later hb)
  have F2 := Hid2.mk (fun w1 (hb : Below w.heap.size w w1) => h2.later hb)
  clear h1 h2
  go_enter Tryz.func8, Tryz.ntmps8
  go_wp2
  go_loopw [5] (fun i wr => ∃ k : Nat, k ≤ ns.length ∧ i = .int .i64 (k : Int) ∧ Mm no w wr []) (fun i _ => ns.length - (intOf i).toNat)
  case atStart => exact ⟨0, by omega, rfl, M⟩
  case round =>
    obtain ⟨k, hk, rfl, M9⟩ := hrel
    clear M
    have M := M9
    clear M9
    by_cases hlt : k < ns.length
    · have hlt' : (k : Int) < (ns.length : Int) := by omega
      obtain ⟨g1, rfl, _⟩ := F1.out _ M.below (by omega)
      obtain ⟨g2, rfl, _⟩ := F2.out _ M.below (by omega)
      have hc1 : ∀ w1, Below w.heap.size w w1 → w1.cell? ⟨g1, k, none⟩ = some (.string ns[k]) := fun w1 hb => by
        obtain ⟨g, e, hr⟩ := F1.out w1 hb (by omega)
        cases e
        rw [hr.at_ k hlt, nmF_at hlt]
      have hc2 : ∀ w1, Below w.heap.size w w1 → w1.cell? ⟨g2, k, none⟩ = some (.string ns[k]) := fun w1 hb => by
        obtain ⟨g, e, hr⟩ := F2.out w1 hb (by omega)
        cases e
        rw [hr.at_ k hlt, nmF_at hlt]
      generalize ns[k] = x at hc1 hc2
      have hx : (x.toList == x.toList) = true := by simp
      have C1 := Hid2.mk hc1
      have C2 := Hid2.mk hc2
      clear hc1 hc2
      go_wp2
      apply wp_region_mm M 8 (by kernel_rfl) (by kernel_rfl)
      · simp only [List.take_succ_cons, List.take_zero]
        repeat (first | exact wpText_nil | (apply wpText_cons; (intro w2 M; have hd1 := C1.out _ M.below; have hd2 := C2.out _ M.below; go_wp2; exact ⟨rfl, rfl, M⟩); rfl))
      clear M
      intro w2 M
      simp only [List.drop_succ_cons, List.drop_zero]
      go_wp2
      go_roundw
      case rel => exact ⟨k + 1, by omega, by go_num, M⟩
      case measure => simp [intOf]; omega
    · obtain rfl : k = ns.length := by omega
      have hge : ¬ ((ns.length : Int) < (ns.length : Int)) := by omega
      go_wp2
      go_ret
      exact ⟨rfl, M.below⟩

set_option maxRecDepth 100000 in
set_option maxHeartbeats 1000000 in
theorem eqSquareS_any (ls : List Sqr) (hn : ls.length ≤ 10000000) (w : World) (p1 p2 : Option Addr) (c1 c2 : Nat) (h1 : rdq w p1 (ls.length * 101) (fun j => (slC ls).getD j undef)) (h2 : rdq w p2 (ls.length * 101) (fun j => (slC ls).getD j undef)) :
    Calls Tryz.prog 24 #[.slice p1 ls.length c1, .slice p2 ls.length c2] w fun e w' => e = .returned (.bool true) ∧ Below w.heap.size w w' := by
  have M := Mm.start no w
  have he : ((ls.length : Int) == (ls.length : Int)) = true := by simp
  have F1 := Hid2.mk (fun w1 (hb : Below w.heap.size w w1) => h1.later hb)
  have F2 := Hid2.mk (fun w1 (hb : Below w.heap.size w w1) => h2.later hb)
  clear h1 h2
  go_enter Tryz.func24, Tryz.ntmps24
  go_wp2
  go_loopw [5] (fun i wr => ∃ k : Nat, k ≤ ls.length ∧ i = .int .i64 (k : Int) ∧ Mm no w wr []) (fun i _ => ls.length - (intOf i).toNat)
  case atStart => exact ⟨0, by omega, rfl, M⟩
  case round =>
    obtain ⟨k, hk, rfl, M9⟩ := hrel
    clear M
    have M := M9
    clear M9
    by_cases hlt : k < ls.length
    · have hlt' : (k : Int) < (ls.length : Int) := by omega
      obtain ⟨g1, rfl, _⟩ := F1.out _ M.below (by omega)
      obtain ⟨g2, rfl, _⟩ := F2.out _ M.below (by omega)
      have hc1 : ∀ w1, Below w.heap.size w w1 → ∀ j v, (sqs ls[k].n ls[k].t)[j]? = some v → w1.cell? ⟨g1, k * 101 + j, none⟩ = some v := fun w1 hb => by
        obtain ⟨g, e, hr⟩ := F1.out w1 hb (by omega)
        cases e
        exact sq_cells hr hlt
      have hc2 : ∀ w1, Below w.heap.size w w1 → ∀ j v, (sqs ls[k].n ls[k].t)[j]? = some v → w1.cell? ⟨g2, k * 101 + j, none⟩ = some v := fun w1 hb => by
        obtain ⟨g, e, hr⟩ := F2.out w1 hb (by omega)
        cases e
        exact sq_cells hr hlt
      generalize ls[k] = q at hc1 hc2
      have C1 := Hid2.mk hc1
      have C2 := Hid2.mk hc2
      clear hc1 hc2
      have H := fun w1 => eqSquare_any q.n q.t w1
      go_wp2
      apply wp_region_mm M 8 (by kernel_rfl) (by kernel_rfl)
      · simp only [List.take_succ_cons, List.take_zero]
        repeat (first | exact wpText_nil | (apply wpText_cons; (intro w2 M; go_wp2_with (first | (refine wpList_load_part rfl 50 _ rfl (g1) (k * 101) rfl (sqs q.n q.t) _ und_sqs rfl inf_sqs (C1.out _ M.below) ?_) | (refine wpList_load_part rfl 50 _ rfl (g2) (k * 101) rfl (sqs q.n q.t) _ und_sqs rfl inf_sqs (C2.out _ M.below) ?_)); exact ⟨rfl, rfl, M⟩); rfl))
      clear M
      intro w2 M
      simp only [List.drop_succ_cons, List.drop_zero]
      go_wp2_with (first | (go_at_call 46; ((with_reducible refine (H _).mono ?_); rintro e w1 ⟨rfl, hb⟩; have hsz := M.size; have M9 := M.later hb; clear M; (try clear C); have M := M9; clear M9; (try simp only [List.set_cons_zero, List.set_cons_succ] at M); have C := M.ruleAll; simp only [Go.Proofs.YtocejggobgfccaaGreatDoor.ruleAll] at C)))
      go_roundw
      case rel => exact ⟨k + 1, by omega, by go_num, M⟩
      case measure => simp [intOf]; omega
    · obtain rfl : k = ls.length := by omega
      have hge : ¬ ((ls.length : Int) < (ls.length : Int)) := by omega
      go_wp2
      go_ret
      exact ⟨rfl, M.below⟩

set_option maxRecDepth 100000 in
set_option maxHeartbeats 1000000 in
theorem eqBook_any (ns : List ByteArray) (ls : List Sqr) (hn : ns.length ≤ 10000000) (hm : ls.length ≤ 10000000) (w : World) (p1 p2 p3 p4 : Option Addr) (c1 c2 c3 c4 : Nat) (h1 : rdq w p1 ns.length (nmF ns)) (h2 : rdq w p2 (ls.length * 101) (fun j => (slC ls).getD j undef)) (h3 : rdq w p3 ns.length (nmF ns)) (h4 : rdq w p4 (ls.length * 101) (fun j => (slC ls).getD j undef)) :
    Calls Tryz.prog 9 #[.agg (bkV p1 c1 p2 c2 ns.length ls.length), .agg (bkV p3 c3 p4 c4 ns.length ls.length)] w fun e w' => e = .returned (.bool true) ∧ Below w.heap.size w w' := by
  have M := Mm.start no w
  have k0 : (bkV p1 c1 p2 c2 ns.length ls.length)[0]? = some (.slice p1 ns.length c1) := rfl
  have k1 : (bkV p1 c1 p2 c2 ns.length ls.length)[1]? = some (.slice p2 ls.length c2) := rfl
  have k2 : (bkV p3 c3 p4 c4 ns.length ls.length)[0]? = some (.slice p3 ns.length c3) := rfl
  have k3 : (bkV p3 c3 p4 c4 ns.length ls.length)[1]? = some (.slice p4 ls.length c4) := rfl
  have H1 := fun w1 (hb : Below w.heap.size w w1) => eqStringS_any ns (by omega) w1 p1 p3 c1 c3 (h1.later hb) (h3.later hb)
  have H2 := fun w1 (hb : Below w.heap.size w w1) => eqSquareS_any ls hm w1 p2 p4 c2 c4 (h2.later hb) (h4.later hb)
  clear h1 h2 h3 h4
  go_enter Tryz.func9, Tryz.ntmps9
  go_wp2_with (first | (have hq := h_b2; clear hq; ((with_reducible apply wpM_box' M 31 (bkV p3 c3 p4 c4 ns.length ls.length)); rfl; exact ⟨rfl, rfl⟩; clear M; (try clear C); intro b3 w9 h_b3 M; have C := M.ruleAll; simp only [Go.Proofs.YtocejggobgfccaaGreatDoor.ruleAll] at C)) | ((with_reducible apply wpM_box' M 31 (bkV p1 c1 p2 c2 ns.length ls.length)); rfl; exact ⟨rfl, rfl⟩; clear M; (try clear C); intro b2 w9 h_b2 M; have C := M.ruleAll; simp only [Go.Proofs.YtocejggobgfccaaGreatDoor.ruleAll] at C) | (go_at_call 8; ((with_reducible refine (H1 _ M.below).mono ?_); rintro e w1 ⟨rfl, hb⟩; have hsz := M.size; (try (have G9 := G.later hb; clear G; have G := G9; clear G9)); have M9 := M.later hb; clear M; (try clear C); have M := M9; clear M9; have C := M.ruleAll; simp only [Go.Proofs.YtocejggobgfccaaGreatDoor.ruleAll] at C)) | (go_at_call 24; ((with_reducible refine (H2 _ M.below).mono ?_); rintro e w1 ⟨rfl, hb⟩; have hsz := M.size; (try (have G9 := G.later hb; clear G; have G := G9; clear G9)); have M9 := M.later hb; clear M; (try clear C); have M := M9; clear M9; have C := M.ruleAll; simp only [Go.Proofs.YtocejggobgfccaaGreatDoor.ruleAll] at C)))
  go_ret
  exact ⟨rfl, M.below⟩
end Go.Proofs.YtocejggobgfccaaGreatDoor

/- Whether a book is valid, for the program: a contract. -/
namespace Go.Proofs.YtocejggobgfccaaGreatDoor
set_option linter.unusedSimpArgs false
set_option linter.unusedVariables false
open Go Go.RowKit

theorem isBkI_all {ns : List ByteArray} {ls : List Sqr} (h1 : ns.length ≤ 20) (h2 : ls.length = ns.length) (h3 : ls.all lpB = true) (h4 : ls.any (fun q => decide (7 < q.n)) = false) (h5 : ∀ i, i < ns.length → nameI ns i = true) :
    isBkI ns ls = decide ((clsTo (alkAt ls) ls.length).length = ls.length) := by
  unfold isBkI
  rw [show (List.range ns.length).all (nameI ns) = true from List.all_eq_true.2 fun i hi => h5 i (List.mem_range.1 hi), h3, h4]
  simp [h1, h2]
theorem isBkI_long {ns : List ByteArray} {ls : List Sqr} (h : ¬ (ns.length ≤ 20 ∧ ls.length = ns.length)) : isBkI ns ls = false := by
  unfold isBkI
  rcases Classical.em (ns.length ≤ 20) with h1 | h1
  · rw [show decide (ls.length = ns.length) = false from decide_eq_false fun e => h ⟨h1, e⟩]; simp
  · rw [show decide (ns.length ≤ 20) = false from decide_eq_false h1]; simp
theorem isBkI_loops {ns : List ByteArray} {ls : List Sqr} (h : ls.all lpB = false) : isBkI ns ls = false := by unfold isBkI; rw [h]; simp
theorem isBkI_large {ns : List ByteArray} {ls : List Sqr} (h : ls.any (fun q => decide (7 < q.n)) = true) : isBkI ns ls = false := by unfold isBkI; rw [h]; simp
theorem isBkI_name {ns : List ByteArray} {ls : List Sqr} {k : Nat} (hk : k < ns.length) (h : nameI ns k = false) : isBkI ns ls = false := by
  unfold isBkI
  rw [show (List.range ns.length).all (nameI ns) = false from List.all_eq_false.2 ⟨k, List.mem_range.2 hk, by simp [h]⟩]
  simp
theorem decB (a b : Nat) : decide (a = b) = ((a : Int) == (b : Int)) := by
  rw [Bool.eq_iff_iff, decide_eq_true_eq, beq_iff_eq]; omega
/-- A list of classes, and how many they are. -/
def StCl (m : Nat) : List Value → List Ent → Prop
  | [], Lg => Lg = []
  | [v], Lg => ∃ pp cap, v = .slice pp m cap ∧ Lg = []
  | v :: u :: _, Lg => (∃ pp cap, v = .slice pp m cap ∧ Lg = []) ∧ u = .int .i64 (m : Int)

set_option maxRecDepth 100000 in
set_option maxHeartbeats 4000000 in
theorem isBookI_any (ns : List ByteArray) (ls : List Sqr) (hn : ns.length ≤ 1048576) (hm : ls.length ≤ 1048576) (hsz : ∀ x ∈ ns, x.size ≤ 1048576) (hby : ∀ q ∈ ls, Byt2 q.t) (w : World) (g1 c1 g2 c2 : Nat) (hcap : ns.length ≤ c1)
    (hr1 : rds w g1 ns.length (nmF ns)) (hr2 : rds w g2 (ls.length * 101) (fun j => (slC ls).getD j undef)) :
    Calls Tryz.prog 21 #[.agg (bkA g1 c1 g2 c2 ns.length ls.length)] w fun e w' => e = .returned (.bool (isBkI ns ls)) ∧ Below w.heap.size w w' := by
  have M := Mm.start no w
  have k0 : (bkA g1 c1 g2 c2 ns.length ls.length)[0]? = some (.slice (some ⟨g1, 0, none⟩) ns.length c1) := rfl
  have k1 : (bkA g1 c1 g2 c2 ns.length ls.length)[1]? = some (.slice (some ⟨g2, 0, none⟩) ls.length c2) := rfl
  have HBY := Hid2.mk hby
  have HSZ := Hid2.mk hsz
  have F1 := Hid2.mk (fun w1 (hb : Below w.heap.size w w1) => hr1.later hb)
  have F2 := Hid2.mk (fun w1 (hb : Below w.heap.size w w1) => hr2.later hb)
  have HA := fun w1 (hb : Below w.heap.size w w1) => areLoops_any ls (by omega) hby w1 g2 c2 (hr2.later hb)
  have HL := fun w1 (hb : Below w.heap.size w w1) => containsFunc_any ls (by omega) w1 g2 c2 (hr2.later hb) 38 #[] (fun q => decide (7 < q.n)) (enters_of (P := Tryz.prog) (f := 38) (by exact Tryz.func38) (by kernel_rfl) rfl) (fun q _ w2 _ => isLarge_any q w2)
  clear hr1 hr2 hby hsz
  by_cases hlong : ns.length ≤ 20 ∧ ls.length = ns.length
  case neg =>
    have HST := Hid2.mk (isBkI_long hlong)
    by_cases h20 : ns.length ≤ 20
    · have hne : ls.length ≠ ns.length := fun e => hlong ⟨h20, e⟩
      have d1 : ¬ (20 < (ns.length : Int)) := by omega
      have d2 : decide (20 < (ns.length : Int)) = false := decide_eq_false d1
      have d3 : ((ls.length : Int) == (ns.length : Int)) = false := beq_eq_false_iff_ne.2 (by omega)
      have d4 : ((ls.length : Int) != (ns.length : Int)) = true := by rw [bne, d3]; rfl
      clear hlong
      go_enter Tryz.func21, Tryz.ntmps21
      go_wp2_with (first | ((with_reducible apply wpM_box' M 31 (bkA g1 c1 g2 c2 ns.length ls.length)); rfl; exact ⟨rfl, rfl⟩; clear M; (try clear C); intro bb w9 h_bb M; have C := M.ruleAll; simp only [Go.Proofs.YtocejggobgfccaaGreatDoor.ruleAll] at C))
      go_ret
      exact ⟨by rw [HST.out]; rfl, M.below⟩
    · have d1 : 20 < (ns.length : Int) := by omega
      have d2 : decide (20 < (ns.length : Int)) = true := decide_eq_true d1
      clear hlong
      go_enter Tryz.func21, Tryz.ntmps21
      go_wp2_with (first | ((with_reducible apply wpM_box' M 31 (bkA g1 c1 g2 c2 ns.length ls.length)); rfl; exact ⟨rfl, rfl⟩; clear M; (try clear C); intro bb w9 h_bb M; have C := M.ruleAll; simp only [Go.Proofs.YtocejggobgfccaaGreatDoor.ruleAll] at C))
      go_ret
      exact ⟨by rw [HST.out]; rfl, M.below⟩
  case pos =>
    obtain ⟨h20, hLN⟩ := hlong
    have d1 : ¬ (20 < (ns.length : Int)) := by omega
    have d2 : decide (20 < (ns.length : Int)) = false := decide_eq_false d1
    have d3 : ((ls.length : Int) == (ns.length : Int)) = true := beq_iff_eq.2 (by omega)
    have d4 : ((ls.length : Int) != (ns.length : Int)) = false := by rw [bne, d3]; rfl
    have HLN := Hid2.mk hLN
    cases ha : ls.all lpB with
    | false =>
      have HST := Hid2.mk (isBkI_loops (ns := ns) ha)
      simp only [ha] at HA
      clear ha hLN
      go_enter Tryz.func21, Tryz.ntmps21
      go_wp2_with (first | ((with_reducible apply wpM_box' M 31 (bkA g1 c1 g2 c2 ns.length ls.length)); rfl; exact ⟨rfl, rfl⟩; clear M; (try clear C); intro bb w9 h_bb M; have C := M.ruleAll; simp only [Go.Proofs.YtocejggobgfccaaGreatDoor.ruleAll] at C) | (go_at_call 36; ((with_reducible refine (HA _ M.below).mono ?_); rintro e w1 ⟨rfl, hb⟩; have hsz := M.size; (try (have G9 := G.later hb; clear G; have G := G9; clear G9)); have M9 := M.later hb; clear M; (try clear C); have M := M9; clear M9; have C := M.ruleAll; simp only [Go.Proofs.YtocejggobgfccaaGreatDoor.ruleAll] at C)))
      go_ret
      exact ⟨by rw [HST.out]; rfl, M.below⟩
    | true =>
      cases hla : ls.any (fun q => decide (7 < q.n)) with
      | true =>
        have HST := Hid2.mk (isBkI_large (ns := ns) hla)
        simp only [ha] at HA
        simp only [hla] at HL
        clear ha hla hLN
        go_enter Tryz.func21, Tryz.ntmps21
        go_wp2_with (first | ((with_reducible apply wpM_box' M 31 (bkA g1 c1 g2 c2 ns.length ls.length)); rfl; exact ⟨rfl, rfl⟩; clear M; (try clear C); intro bb w9 h_bb M; have C := M.ruleAll; simp only [Go.Proofs.YtocejggobgfccaaGreatDoor.ruleAll] at C) | (go_at_call 36; ((with_reducible refine (HA _ M.below).mono ?_); rintro e w1 ⟨rfl, hb⟩; have hsz := M.size; (try (have G9 := G.later hb; clear G; have G := G9; clear G9)); have M9 := M.later hb; clear M; (try clear C); have M := M9; clear M9; have C := M.ruleAll; simp only [Go.Proofs.YtocejggobgfccaaGreatDoor.ruleAll] at C)) | (go_at_call 37; ((with_reducible refine (HL _ M.below).mono ?_); rintro e w1 ⟨rfl, hb⟩; have hsz := M.size; (try (have G9 := G.later hb; clear G; have G := G9; clear G9)); have M9 := M.later hb; clear M; (try clear C); have M := M9; clear M9; have C := M.ruleAll; simp only [Go.Proofs.YtocejggobgfccaaGreatDoor.ruleAll] at C)))
        go_ret
        exact ⟨by rw [HST.out]; rfl, M.below⟩
      | false =>
        have HALL := Hid2.mk (fun h5 => isBkI_all (ns := ns) (ls := ls) h20 hLN ha hla h5)
        have HOK := Hid2.mk (show ∀ q ∈ ls, okS q from fun q hq => lpB_ok (HBY.out q hq) (List.all_eq_true.1 ha q hq))
        simp only [ha] at HA
        simp only [hla] at HL
        clear ha hla hLN
        go_enter Tryz.func21, Tryz.ntmps21
        go_wp2_with (first | ((with_reducible apply wpM_box' M 31 (bkA g1 c1 g2 c2 ns.length ls.length)); rfl; exact ⟨rfl, rfl⟩; clear M; (try clear C); intro bb w9 h_bb M; have C := M.ruleAll; simp only [Go.Proofs.YtocejggobgfccaaGreatDoor.ruleAll] at C) | (go_at_call 36; ((with_reducible refine (HA _ M.below).mono ?_); rintro e w1 ⟨rfl, hb⟩; have hsz := M.size; (try (have G9 := G.later hb; clear G; have G := G9; clear G9)); have M9 := M.later hb; clear M; (try clear C); have M := M9; clear M9; have C := M.ruleAll; simp only [Go.Proofs.YtocejggobgfccaaGreatDoor.ruleAll] at C)) | (go_at_call 37; ((with_reducible refine (HL _ M.below).mono ?_); rintro e w1 ⟨rfl, hb⟩; have hsz := M.size; (try (have G9 := G.later hb; clear G; have G := G9; clear G9)); have M9 := M.later hb; clear M; (try clear C); have M := M9; clear M9; have C := M.ruleAll; simp only [Go.Proofs.YtocejggobgfccaaGreatDoor.ruleAll] at C)))
        clear d1 d2 d3 d4 HA HL
        go_loopw [32] (fun i wr => ∃ k : Nat, k ≤ ns.length ∧ i = .int .i64 (k : Int) ∧ (∀ j, j < k → nameI ns j = true) ∧ Mm no w wr [.box bb (bkA g1 c1 g2 c2 ns.length ls.length) 31]) (fun i _ => ns.length - (intOf i).toNat)
        case atStart => exact ⟨0, by omega, rfl, fun j h => by omega, M⟩
        case round =>
          obtain ⟨k, hk, rfl, hl, M9⟩ := hrel
          clear M; (try clear C)
          have M := M9
          clear M9
          have C := M.ruleAll; simp only [Go.Proofs.YtocejggobgfccaaGreatDoor.ruleAll] at C
          have HL := Hid2.mk hl
          clear hl
          by_cases hlt : k < ns.length
          · have hlt' : (k : Int) < (ns.length : Int) := by omega
            have hkc : (k : Int) ≤ (c1 : Int) := by omega
            have hkc' : ¬ ((c1 : Int) < (k : Int)) := by omega
            have hfail := fun h => @isBkI_name ns ls k hlt h
            have hnext : nameI ns k = true → ∀ j, j < k + 1 → nameI ns j = true := fun h j h1 => by
              rcases Nat.lt_or_eq_of_le (Nat.lt_succ_iff.1 h1) with h2 | rfl
              · exact HL.out j h2
              · exact h
            have hni : nameI ns k = (nameB ns[k] && !((ns.take k).any fun x => ns[k].toList == x.toList)) := by unfold nameI; rw [getD_at hlt]
            have hck : ∀ w1, Below w.heap.size w w1 → w1.cell? ⟨g1, k, none⟩ = some (.string ns[k]) := fun w1 hb => by rw [(F1.out w1 hb).at_ k hlt, nmF_at hlt]
            have hN := fun w1 => isName_any ns[k] w1 (HSZ.out _ (List.getElem_mem hlt))
            have hC := fun w1 (hb : Below w.heap.size w w1) => contains_any ns k hk (by omega) ns[k] w1 g1 c1 (F1.out w1 hb)
            generalize ns[k] = x at hni hck hN hC
            generalize nameB x = a1 at hni hN
            generalize ((ns.take k).any fun y => x.toList == y.toList) = a2 at hni hC
            have HNI := Hid2.mk hni
            have HFAIL := Hid2.mk hfail
            have HN := Hid2.mk hnext
            have hc0 := hck _ M.below
            clear hni hfail hnext hck
            cases a1 with
            | false =>
              go_wp2_with (first | (go_at_call 39; ((with_reducible refine (hN _).mono ?_); rintro e w1 ⟨rfl, hb⟩; have hsz := M.size; (try (have G9 := G.later hb; clear G; have G := G9; clear G9)); have M9 := M.later hb; clear M; (try clear C); have M := M9; clear M9; have C := M.ruleAll; simp only [Go.Proofs.YtocejggobgfccaaGreatDoor.ruleAll] at C)))
              go_ret
              exact ⟨by rw [HFAIL.out (by rw [HNI.out]; rfl)]; rfl, M.below⟩
            | true =>
              cases a2 with
              | true =>
                go_wp2_with (first | (go_at_call 39; ((with_reducible refine (hN _).mono ?_); rintro e w1 ⟨rfl, hb⟩; have hsz := M.size; (try (have G9 := G.later hb; clear G; have G := G9; clear G9)); have M9 := M.later hb; clear M; (try clear C); have M := M9; clear M9; have C := M.ruleAll; simp only [Go.Proofs.YtocejggobgfccaaGreatDoor.ruleAll] at C)) | (go_at_call 40; ((with_reducible refine (hC _ M.below).mono ?_); rintro e w1 ⟨rfl, hb⟩; have hsz := M.size; (try (have G9 := G.later hb; clear G; have G := G9; clear G9)); have M9 := M.later hb; clear M; (try clear C); have M := M9; clear M9; have C := M.ruleAll; simp only [Go.Proofs.YtocejggobgfccaaGreatDoor.ruleAll] at C)))
                go_ret
                exact ⟨by rw [HFAIL.out (by rw [HNI.out]; rfl)]; rfl, M.below⟩
              | false =>
                go_wp2_with (first | (go_at_call 39; ((with_reducible refine (hN _).mono ?_); rintro e w1 ⟨rfl, hb⟩; have hsz := M.size; (try (have G9 := G.later hb; clear G; have G := G9; clear G9)); have M9 := M.later hb; clear M; (try clear C); have M := M9; clear M9; have C := M.ruleAll; simp only [Go.Proofs.YtocejggobgfccaaGreatDoor.ruleAll] at C)) | (go_at_call 40; ((with_reducible refine (hC _ M.below).mono ?_); rintro e w1 ⟨rfl, hb⟩; have hsz := M.size; (try (have G9 := G.later hb; clear G; have G := G9; clear G9)); have M9 := M.later hb; clear M; (try clear C); have M := M9; clear M9; have C := M.ruleAll; simp only [Go.Proofs.YtocejggobgfccaaGreatDoor.ruleAll] at C)))
                go_roundw
                case rel => exact ⟨k + 1, by omega, by go_num, HN.out (by rw [HNI.out]; rfl), M⟩
                case measure => simp [intOf]; omega
          · obtain rfl : k = ns.length := by omega
            have hge : ¬ ((ns.length : Int) < (ns.length : Int)) := by omega
            have HEQ := Hid2.mk (HALL.out HL.out)
            have HC := fun w1 (hb : Below w.heap.size w w1) => classesOf_any ls hm alkB w1 g2 c2 42 (enters_of (P := Tryz.prog) (f := 42) (by exact Tryz.func42) (by kernel_rfl) rfl) (fun q hq r hr w2 => alike_sq q r w2 (HOK.out q hq) (HOK.out r hr)) (F2.out w1 hb)
            have hcl : (fun j i => alkB (ls.getD j sq00) (ls.getD i sq00)) = alkAt ls := rfl
            rw [hcl] at HC
            generalize clsTo (alkAt ls) ls.length = cls at HEQ HC
            go_wp2
            apply wp_region_mmf2 M [0, 1, 4, 5, 6] 2 3 7 _ _ (StCl cls.length) (by kernel_rfl) (by kernel_rfl) rfl rfl rfl rfl rfl
            case ht => (repeat (first | exact wpTextG_nil | (apply wpTextG_cons; (intro g9 w2 hG; obtain ⟨Lg9, hSt9, G⟩ := hG; have M := G.suffix; have C := M.ruleAll; simp only [Go.Proofs.YtocejggobgfccaaGreatDoor.ruleAll] at C; go_wp2; exact ⟨rfl, rfl, Lg9, hSt9, G⟩); rfl)))
            case hA =>
              intro Lg w2 h M
              obtain rfl : Lg = [] := h
              refine yield_walk (ops := #[]) rfl rfl (by simp [Act.put]) ?_
              simp only [List.nil_append] at M
              go_wp2_with (first | (go_at_call 41; ((with_reducible refine (HC _ M.below).mono ?_); rintro e w1 ⟨v, rfl, vs, hvl, M'⟩; have hsz := M.size; have M9 := M.later M'.below; clear M; (try clear C); have M := M9; clear M9; (try simp only [List.set_cons_zero, List.set_cons_succ] at M); have C := M.ruleAll; simp only [Go.Proofs.YtocejggobgfccaaGreatDoor.ruleAll] at C; obtain ⟨pp, cap, rfl⟩ := own_form (M'.row 0 rfl))))
              exact ⟨[], ⟨pp, cap, rfl, rfl⟩, M⟩
            case hA2 =>
              intro v Lg w2 h M
              obtain ⟨pp, cap, rfl, rfl⟩ := h
              refine yield_walk (ops := #[]) rfl rfl (by simp [Act.put]) ?_
              go_wp2
              exact ⟨[], ⟨⟨pp, cap, rfl, rfl⟩, rfl⟩, M⟩
            clear M; (try clear C)
            intro v u9 Lg w2 h M
            obtain ⟨⟨pp, cap, rfl, rfl⟩, rfl⟩ := h
            simp only [List.drop_succ_cons, List.drop_zero, List.nil_append] at M ⊢
            go_wp2
            go_ret
            exact ⟨by rw [HEQ.out, decB]; rfl, M.below⟩
end Go.Proofs.YtocejggobgfccaaGreatDoor

/- The law on valid books: its walk. -/
namespace Go.Proofs.YtocejggobgfccaaGreatDoor
set_option linter.unusedSimpArgs false
set_option linter.unusedVariables false
open Go Go.RowKit

theorem und_bk0 : Tryz.prog.underlying 25 = some (.struct (Tryz.prog.fieldsOf 25)) := by kernel_rfl
theorem inf_bk0 : (Tryz.prog.info? 25).map (·.size) = some 2 := by kernel_rfl
theorem bkv_size (p1 : Option Addr) (c1 : Nat) (p2 : Option Addr) (c2 n m : Nat) : (bkV p1 c1 p2 c2 n m).size = 2 := rfl
/-- What is known of a book that comes in and is not too large. -/
structure BkIn (ns : List ByteArray) (ls : List Sqr) : Prop where
  n : ns.length ≤ 1048576
  m : ls.length ≤ 1048576
  s : ∀ x ∈ ns, x.size ≤ 1048576
  b : ∀ q ∈ ls, Byt2 q.t
/-- What is known of a book in new memory. -/
structure BkHere (ns : List ByteArray) (ls : List Sqr) (w : World) (g1 g2 : Nat) : Prop where
  r1 : rds w g1 ns.length (nmF ns)
  r2 : rds w g2 (ls.length * 101) (fun j => (slC ls).getD j undef)
  ne : g1 ≠ g2
theorem BkHere.of {D : Nat → Prop} {w0 w : World} {L : List Ent} (M : Mm D w0 w L) (i j : Nat) (hij : i ≠ j) {ns : List ByteArray} {ls : List Sqr} {g1 g2 : Nat} {cs1 cs2 : Array Value} (h1 : L[i]? = some (.box g1 cs1 9)) (h2 : L[j]? = some (.box g2 cs2 50)) (hs1 : strC ns cs1) (hs2 : sqaC ls cs2) : BkHere ns ls w g1 g2 :=
  ⟨(M.box i h1).rds hs1.2, (M.box j h2).rds hs2.2, fun e => M.dist i j _ _ h1 h2 hij g1 rfl e.symm⟩
theorem BkHere.later {ns : List ByteArray} {ls : List Sqr} {w w' : World} {g1 g2 : Nat} (h : BkHere ns ls w g1 g2) (hb : Below w.heap.size w w') : BkHere ns ls w' g1 g2 := ⟨h.r1.later hb, h.r2.later hb, h.ne⟩
theorem eqBookA_any {ns : List ByteArray} {ls : List Sqr} (h : BkIn ns ls) (w : World) {g1 g2 g3 g4 : Nat} (h1 : BkHere ns ls w g1 g2) (h2 : BkHere ns ls w g3 g4) (c1 c2 c3 c4 : Nat) :
    Calls Tryz.prog 9 #[.agg (bkA g1 c1 g2 c2 ns.length ls.length), .agg (bkA g3 c3 g4 c4 ns.length ls.length)] w fun e w' => e = .returned (.bool true) ∧ Below w.heap.size w w' :=
  eqBook_any ns ls (by have := h.n; omega) (by have := h.m; omega) w _ _ _ _ c1 c2 c3 c4 h1.r1.rdq h1.r2.rdq h2.r1.rdq h2.r2.rdq
theorem isBookP_any {ns : List ByteArray} {ls : List Sqr} (h : BkIn ns ls) (w : World) {g1 g2 : Nat} (h1 : BkHere ns ls w g1 g2) (c1 c2 : Nat) (hc : ns.length ≤ c1) :
    Calls Tryz.prog 21 #[.agg (bkA g1 c1 g2 c2 ns.length ls.length)] w fun e w' => e = .returned (.bool (isBk ns ls)) ∧ Below w.heap.size w w' := by
  rw [← isBkI_eq ns ls h.b]
  exact isBookI_any ns ls h.n h.m h.s h.b w g1 c1 g2 c2 hc h1.r1 h1.r2
theorem l11IsP_any {ns : List ByteArray} {ls : List Sqr} (h : BkIn ns ls) (w : World) {g1 g2 : Nat} (h1 : BkHere ns ls w g1 g2) (c1 c2 : Nat) :
    Calls Tryz.prog 15 #[.agg (bkA g1 c1 g2 c2 ns.length ls.length)] w fun e w' => e = .returned (.bool (isBk ns ls)) ∧ Below w.heap.size w w' :=
  l11Is_any ns ls h.n h.m h.s h.b w g1 c1 g2 c2 h1.r1 h1.r2 h1.ne


/-- A book in new memory that floats. -/
def StBk (ns : List ByteArray) (ls : List Sqr) : List Value → List Ent → Prop
  | [], Lg => Lg = []
  | v :: _, Lg => ∃ g1 g2 cs1 cs2, v = .agg (bkA g1 ns.length g2 ls.length ns.length ls.length) ∧ strC ns cs1 ∧ sqaC ls cs2 ∧ Lg = [.box g1 cs1 9, .box g2 cs2 50]


end Go.Proofs.YtocejggobgfccaaGreatDoor

/- The name of a loop: contracts. -/
namespace Go.Proofs.YtocejggobgfccaaGreatDoor
set_option linter.unusedSimpArgs false
set_option linter.unusedVariables false
open Go Go.RowKit

theorem results_mid {P : Program} {fn : Func} {r p q : Tmp} {ty : TypeId} (h : fn.results = #[.tmp r, .cell p ty, .tmp q]) (tmps : Array Value) (w : World) (b off : Nat) (part : Array Value) (d : TypeDesc)
    (hp : tmps.getD p undef = .pointer (some ⟨b, off, none⟩)) (hu : P.underlying ty = some d) (hd : (match d with | .struct _ | .array _ _ => true | _ => false) = true) (hi : (P.info? ty).map (·.size) = some part.size)
    (hc : ∀ j v, part[j]? = some v → w.cell? ⟨b, off + j, none⟩ = some v) (v u : Value) (hv : tmps.getD r undef = v) (hw : tmps.getD q undef = u) :
    (results fn tmps).run P w = .ok (.tuple #[v, .agg part, u]) w := by
  have hp' : tmps[p]?.getD undef = .pointer (some ⟨b, off, none⟩) := by simpa using hp
  have hv' : tmps[r]?.getD undef = v := by simpa using hv
  have hw' : tmps[q]?.getD undef = u := by simpa using hw
  simp [results, h, hp', hv', hw', asAddr, run_load_part w b off ty part d hu hd hi hc]

theorem placeOf_lt2 {α : Type} (p : α → Bool) (l : List α) (h : ¬ placeOf p l < 0) : ∃ k : Nat, k < l.length ∧ placeOf p l = (k : Int) := by
  unfold placeOf at h ⊢
  cases hf : l.findIdx? p with
  | none => rw [hf] at h; exact absurd (by decide) h
  | some k => exact ⟨k, (List.findIdx?_eq_some_iff_getElem.1 hf).1, rfl⟩
theorem isBk_len2 {ns : List ByteArray} {ls : List Sqr} (h : isBk ns ls = true) : ls.length = ns.length := by
  unfold isBk at h
  simp only [Bool.and_eq_true, decide_eq_true_eq] at h
  exact h.1.1.2
/-- The first isomorphism of two squares and its code. -/
noncomputable def isoC (q r : Sqr) : Int := (isoRes (isoAll q.n.toNat r.n.toNat q.t r.t)).2
theorem alkB_isoC (q r : Sqr) : alkB q r = (isoC q r == 0) := rfl
theorem implIso_sq (q r : Sqr) (w : World) (hq : okS q) (hr : okS r) : Calls Tryz.prog 60 #[.agg (sqs q.n q.t), .agg (sqs r.n r.t)] w fun e w' => e = .returned (.tuple #[.agg (bys (alkP q r)), .int .i64 (isoC q r)]) ∧ Below w.heap.size w w' := by
  have s1 := isSq_true.1 hq.2
  have s2 := isSq_true.1 hr.2
  have e1 : ((q.n.toNat : Nat) : Int) = q.n := Int.toNat_of_nonneg (by have := s1.lo; omega)
  have e2 : ((r.n.toNat : Nat) : Int) = r.n := Int.toNat_of_nonneg (by have := s2.lo; omega)
  have h := implIso_any q.n.toNat r.n.toNat q.t r.t w hq.1 hr.1 (by rw [e1]; exact hq.2) (by rw [e2]; exact hr.2)
  rw [e1, e2] at h
  exact h

/-- The name of a loop, the isomorphism, and a code. -/
noncomputable def nameOfR (ns : List ByteArray) (ls : List Sqr) (q : Sqr) : ByteArray × (Nat → Nat) × Int :=
  if isBk ns ls = true ∧ lpB q = true then (if placeOf (alkB q) ls < 0 then (⟨#[]⟩, (fun _ => 0), 4) else (ns.getD (placeOf (alkB q) ls).toNat .empty, keptP q ls, 0)) else (⟨#[]⟩, (fun _ => 0), 1)
/-- What is handed back. -/
def NmRes (r : ByteArray × (Nat → Nat) × Int) (w : World) (e : Ending) (w' : World) : Prop := e = .returned (.tuple #[.string r.1, .agg (bys r.2.1), .int .i64 r.2.2]) ∧ Below w.heap.size w w'
theorem isBk_loop {ns : List ByteArray} {ls : List Sqr} (h : BkIn ns ls) (hb : isBk ns ls = true) : ∀ q ∈ ls, okS q := by
  have h2 := isBkI_eq ns ls h.b
  rw [hb] at h2
  unfold isBkI at h2
  simp only [Bool.and_eq_true] at h2
  exact fun q hq => lpB_ok (h.b q hq) (List.all_eq_true.1 h2.1.1.1.2 q hq)



end Go.Proofs.YtocejggobgfccaaGreatDoor

/- Marks: texts of numbers; lists of texts marked and held; contracts. -/
namespace Go.Proofs.YtocejggobgfccaaGreatDoor
set_option linter.unusedSimpArgs false
set_option linter.unusedVariables false
open Go Go.RowKit

theorem wrapM (x : Int) (h1 : -9223372036854775808 ≤ x) (h2 : x ≤ 9223372036854775807) : wrap64 x = x := by unfold wrap64; omega
theorem und_slM : Tryz.prog.underlying 22 = some (.slice 9) := by kernel_rfl
theorem bsl_uM (x : Int) (w : World) : (Instr.buildSlice 41 1 [(0, Value.int .u8 x)].toArray).run Tryz.prog w = .ok (.slice (some ⟨w.heap.size, 0, none⟩) 1 1) (w.alloc (.cells #[.int .u8 x] 5)) := by kernel_rfl

set_option maxRecDepth 100000 in
set_option maxHeartbeats 1000000 in
theorem markText_any (k : Nat) (hk : k ≤ 4611686018427387904) (w : World) : Calls Tryz.prog 26 #[.int .i64 (k : Int)] w fun e w' => e = .returned (.string (str (mkT k))) ∧ Below w.heap.size w w' := by
  have M := Mm.start no w
  by_cases h0 : k = 0
  · subst h0
    go_enter Tryz.func26, Tryz.ntmps26
    go_wp2
    go_ret
    exact ⟨rfl, M.below⟩
  · have hT : mkT k = 109 :: digs k := if_neg h0
    have HT := Hid2.mk hT
    generalize mkT k = res at HT ⊢
    have h1 : ¬ ((k : Int) ≤ 0) := by omega
    have hdl := digs_len 20 k (by omega)
    clear hT
    go_enter Tryz.func26, Tryz.ntmps26
    go_wp2
    go_loopw [0, 3] (fun i s wr => ∃ (j : Nat) (out : List Nat), j ≤ k ∧ i = .int .i64 (j : Int) ∧ s = .string (str out) ∧ digs k = digs j ++ out ∧ Mm no w wr []) (fun i _ _ => (intOf i).toNat)
    case atStart => exact ⟨k, [], Nat.le_refl _, rfl, rfl, by simp, M⟩
    case round =>
      obtain ⟨j, out, hj, rfl, rfl, hd, M9⟩ := hrel
      clear M
      have M := M9
      clear M9
      have hol : out.length ≤ 20 := by
        have := congrArg List.length hd
        rw [List.length_append] at this
        omega
      have HD := Hid2.mk hd
      clear hd
      by_cases hlt : 0 < j
      · have hlt' : (0 : Int) < (j : Int) := by omega
        have HDJ := Hid2.mk (digs_pos hlt)
        have r3 : ((48 + j % 10 : Nat) : Int) = 48 + (j : Int) % 10 := by omega
        have ha := add_str [48 + j % 10] out (by simp only [List.length_singleton]; omega)
        have HV := Hid2.mk (show ∀ (w1 : World) (g cap : Nat), w1.cell? ⟨g, 0, none⟩ = some (.int .u8 (48 + (j : Int) % 10)) → (convert 41 9 (.slice (some ⟨g, 0, none⟩) 1 cap)).run Tryz.prog w1 = .ok (.string (str [48 + j % 10])) w1 from fun w1 g cap h => @conv_str w1 (48 + j % 10) g cap (by omega) (by rw [r3]; exact h))
        have HJ := Hid2.mk (show ((j / 10 : Nat) : Int) = (j : Int) / 10 from by omega)
        have hm10 : (j : Int) % 10 < 10 := Int.emod_lt_of_pos _ (by decide)
        have hm0 : 0 ≤ (j : Int) % 10 := Int.emod_nonneg _ (by decide)
        have hd10 : j / 10 < j := Nat.div_lt_self hlt (by decide)
        have HS := Hid2.mk (show [48 + j % 10] ++ out = (48 + j % 10) :: out from rfl)
        clear r3
        generalize str [48 + j % 10] = sd at HV ha
        go_wp2_with (first | (((with_reducible apply wpM_bsl' M 41 1 5 ([(0, .int .u8 (48 + (j : Int) % 10))]) (#[.int .u8 (48 + (j : Int) % 10)])); rfl; rfl; rfl; exact bsl_uM _; clear M; (try clear C); intro b w9 h_b M; have C := M.ruleAll; simp only [Go.Proofs.YtocejggobgfccaaGreatDoor.ruleAll] at C); have hv := HV.out _ b 1 ((M.box 0 rfl).cell _ _ rfl)))
        go_roundw
        case rel => exact ⟨j / 10, [48 + j % 10] ++ out, by omega, by rw [HJ.out], rfl, by rw [HD.out, HDJ.out, List.append_assoc], M.drop 0⟩
        case measure => simp [intOf]; omega
      · obtain rfl : j = 0 := by omega
        have hk : digs k = out := by rw [HD.out, digs_0]; rfl
        have hr : res = 109 :: out := by rw [HT.out, hk]
        subst hr
        have ha : ∀ w, (Op.stringOp .add (⟨#[109]⟩ : ByteArray) (str out)).run Tryz.prog w = .ok (.string (str (109 :: out))) w := add_str [109] out (by simp only [List.length_singleton]; omega)
        generalize hsr : str (109 :: out) = sr at ha
        have HSR := Hid2.mk hsr
        clear HD HT hk hdl hsr
        go_wp2
        go_ret
        exact ⟨by rw [HSR.out]; rfl, M.below⟩

theorem inf_elM : (Tryz.prog.info? 9).map (·.size) = some 1 := by kernel_rfl
/-- Marks of k, k + 1, .. as cells. -/
def mkS (k j : Nat) : Value := .string (str (mkT (k + j)))

set_option maxRecDepth 100000 in
set_option maxHeartbeats 1000000 in
theorem markStringS_any (n g cap : Nat) (cs : Array Value) (hcs : cs.size = n) (hn : n ≤ 1048576) (k : Nat) (hk : k ≤ 1048577) (w : World) (h : blk w g cs 9) :
    Calls Tryz.prog 11 #[.slice (some ⟨g, 0, none⟩) n cap, .int .i64 (k : Int)] w fun e w' => e = .returned (.int .i64 ((k + n : Nat) : Int)) ∧ ∃ cs', cs'.size = n ∧ (∀ j, j < n → cs'[j]? = some (mkS k j)) ∧ Mm (fun b => b = g) w w' [.box g cs' 9] := by
  have M := ((Mm.start no w).only (fun b => b = g)).add (x := .box g cs 9) h fun _ h => by cases h
  have HM := Hid2.mk (fun j (hj : j ≤ n) w1 => markText_any (k + j) (by omega) w1)
  clear h
  have C := M.ruleAll; simp only [Go.Proofs.YtocejggobgfccaaGreatDoor.ruleAll] at C
  go_enter Tryz.func11, Tryz.ntmps11
  go_wp2
  go_loopw [5, 1] (fun i q wr => ∃ j : Nat, j ≤ n ∧ i = .int .i64 (j : Int) ∧ q = .int .i64 ((k + j : Nat) : Int) ∧ ∃ cs' : Array Value, cs'.size = n ∧ (∀ i, i < j → cs'[i]? = some (mkS k i)) ∧ Mm (fun b => b = g) w wr [.box g cs' 9]) (fun i _ _ => n - (intOf i).toNat)
  case atStart => exact ⟨0, by omega, rfl, by simp, cs, hcs, fun i h => by omega, M⟩
  case round =>
    obtain ⟨j, hj, rfl, rfl, cs', hcs', hl, M9⟩ := hrel
    clear M; (try clear C)
    have M := M9
    clear M9
    have C := M.ruleAll; simp only [Go.Proofs.YtocejggobgfccaaGreatDoor.ruleAll] at C
    have HL := Hid2.mk hl
    clear hl
    by_cases hlt : j < n
    · have hlt' : (j : Int) < (n : Int) := by omega
      have HT := HM.out j hj
      have HMS := Hid2.mk (show mkS k j = .string (str (mkT (k + j))) from rfl)
      generalize str (mkT (k + j)) = s at HT HMS
      have HKJ := Hid2.mk (show ((k + j : Nat) : Int) + 1 = ((k + (j + 1) : Nat) : Int) from by omega)
      have hkb : ((k + j : Nat) : Int) ≤ 4194304 := by omega
      have hkb0 : (0 : Int) ≤ ((k + j : Nat) : Int) := by omega
      generalize ((k + j : Nat) : Int) = q at HT HKJ hkb hkb0
      go_wp2_with (first | (go_at_call 26; ((with_reducible refine (HT _).mono ?_); rintro e w5 ⟨rfl, hb⟩; have hsz := M.size; (try (have G9 := G.later hb; clear G; have G := G9; clear G9)); have M9 := M.later hb; clear M; (try clear C); have M := M9; clear M9; have C := M.ruleAll; simp only [Go.Proofs.YtocejggobgfccaaGreatDoor.ruleAll] at C)) | ((with_reducible apply wpM_st' M 0 9 (j) (cs'.setIfInBounds j (.string s))); rfl; rfl; rfl; (first | exact .inl (by assumption) | exact .inr rfl | exact .inr (by assumption)); exact ⟨rfl, rfl, by kernel_rfl⟩; (exact Nat.lt_of_lt_of_eq (by omega) (hcs').symm); exact rfl; clear M; (try clear C); intro w9 M; simp only [List.set_cons_zero, List.set_cons_succ, entBlk, entT, List.getElem?_cons_zero, List.getElem?_cons_succ] at M; have C := M.ruleAll; simp only [Go.Proofs.YtocejggobgfccaaGreatDoor.ruleAll] at C))
      go_roundw
      case rel => exact ⟨j + 1, by omega, by go_num, by rw [HKJ.out], _, by rw [Array.size_setIfInBounds]; exact hcs', fun i hi => by
        rw [Array.getElem?_setIfInBounds]
        split
        · rename_i e; subst e; rw [if_pos (by omega), HMS.out]
        · exact HL.out i (by omega), M⟩
      case measure => simp [intOf]; omega
    · obtain rfl : j = n := by omega
      have hge : ¬ ((j : Int) < (j : Int)) := by omega
      go_wp2
      go_ret
      exact ⟨rfl, cs', hcs', HL.out, M⟩
end Go.Proofs.YtocejggobgfccaaGreatDoor

/- The loop of a name, for the program and for the reference: contracts. -/
namespace Go.Proofs.YtocejggobgfccaaGreatDoor
set_option linter.unusedSimpArgs false
set_option linter.unusedVariables false
open Go Go.RowKit

/-- The place of a name in a book, and a code. -/
noncomputable def namedR (ns : List ByteArray) (ls : List Sqr) (s : ByteArray) : Int × Int :=
  if isBk ns ls = true then (if nameB s = true then (if placeOf (fun x => x.toList == s.toList) ns < 0 then (0, 4) else (placeOf (fun x => x.toList == s.toList) ns, 0)) else (0, 2)) else (0, 1)
theorem namedR_1 {ns : List ByteArray} {ls : List Sqr} {s : ByteArray} (h : isBk ns ls = false) : namedR ns ls s = (0, 1) := by unfold namedR; rw [if_neg (by rw [h]; simp)]
theorem namedR_2 {ns : List ByteArray} {ls : List Sqr} {s : ByteArray} (h : isBk ns ls = true) (h2 : nameB s = false) : namedR ns ls s = (0, 2) := by unfold namedR; rw [if_pos h, if_neg (by rw [h2]; simp)]
theorem namedR_4 {ns : List ByteArray} {ls : List Sqr} {s : ByteArray} (h : isBk ns ls = true) (h2 : nameB s = true) (h3 : placeOf (fun x => x.toList == s.toList) ns < 0) : namedR ns ls s = (0, 4) := by unfold namedR; rw [if_pos h, if_pos h2, if_pos h3]
theorem namedR_0 {ns : List ByteArray} {ls : List Sqr} {s : ByteArray} (h : isBk ns ls = true) (h2 : nameB s = true) (h3 : ¬ placeOf (fun x => x.toList == s.toList) ns < 0) : namedR ns ls s = (placeOf (fun x => x.toList == s.toList) ns, 0) := by unfold namedR; rw [if_pos h, if_pos h2, if_neg h3]
theorem placeOf_lt {α : Type} (p : α → Bool) (l : List α) (h : ¬ placeOf p l < 0) : ∃ k : Nat, k < l.length ∧ placeOf p l = (k : Int) := by
  unfold placeOf at h ⊢
  cases hf : l.findIdx? p with
  | none => rw [hf] at h; exact absurd (by decide) h
  | some k => exact ⟨k, (List.findIdx?_eq_some_iff_getElem.1 hf).1, rfl⟩
theorem isBk_len {ns : List ByteArray} {ls : List Sqr} (h : isBk ns ls = true) : ls.length = ns.length := by
  unfold isBk at h
  simp only [Bool.and_eq_true, decide_eq_true_eq] at h
  exact h.1.1.2
/-- What a place in a valid book is. -/
theorem namedR_ok {ns : List ByteArray} {ls : List Sqr} {s : ByteArray} : ((namedR ns ls s).2 ≠ 0 ∧ (namedR ns ls s).1 = 0) ∨ ((namedR ns ls s).2 = 0 ∧ ∃ k : Nat, k < ns.length ∧ k < ls.length ∧ (namedR ns ls s).1 = (k : Int)) := by
  cases h : isBk ns ls with
  | false => rw [namedR_1 h]; exact .inl ⟨by decide, rfl⟩
  | true =>
    cases h2 : nameB s with
    | false => rw [namedR_2 h h2]; exact .inl ⟨by decide, rfl⟩
    | true =>
      by_cases h3 : placeOf (fun x : ByteArray => x.toList == s.toList) ns < 0
      · rw [namedR_4 h h2 h3]; exact .inl ⟨by decide, rfl⟩
      · obtain ⟨k, hk, e⟩ := placeOf_lt _ _ h3
        rw [namedR_0 h h2 h3]
        exact .inr ⟨rfl, k, hk, by rw [isBk_len h]; exact hk, e⟩



end Go.Proofs.YtocejggobgfccaaGreatDoor

/- Marks on a new book: contracts. -/
namespace Go.Proofs.YtocejggobgfccaaGreatDoor
set_option linter.unusedSimpArgs false
set_option linter.unusedVariables false
open Go Go.RowKit

section
variable {P : Program} {D : Nat → Prop} {w0 w : World} {L : List Ent} {ops : Array Oper} {rest : List Oper} {o : Oper} {a : Act} {Q : Exit → Act → World → Prop}
/-- One cell of a row of structs is written. -/
theorem wpM_rstN (M : Mm D w0 w L) (i : Nat) {B g n cap e size : Nat} {xs : List Value} (hi : L[i]? = some (.row B (.slice (some ⟨g, 0, none⟩) n cap) n xs e size)) (hB : w0.heap.size ≤ B ∨ D g) (hw : Region.wanted o (yielded ops a.tmps) = true) (ty : TypeId) (x y : Operand) (ho : o.op = .store ty x y)
    (j : Nat) (hx : a.eval x = .pointer (some ⟨g, j, none⟩)) (v : Value) (hy : a.eval y = v) (hv : oneV v = true) (hs : (P.info? ty).map (·.size) = some 1) (hj : j < n * size)
    (h : ∀ w', Mm D w0 w' (L.set i (.row B (.slice (some ⟨g, 0, none⟩) n cap) n (xs.set j v) e size)) → wpList P ops Q rest (a.put o.dst undef) w') : wpList P ops Q (o :: rest) a w := by
  refine wpList_wanted hw ?_
  have hB' := M.row i hi
  have hlen : xs.length = n * size := hB'.1
  have hcell : w.cell? ⟨g, j, none⟩ = some xs[j] := by rw [World.ownsRow.cellAt hB' j (by omega), List.getElem?_eq_getElem]
  have hfree := World.ownsRow.frozenAt hB' j
  cases hq : P.info? ty with
  | none => simp [hq] at hs
  | some q =>
    have hs' : q.size = 1 := by simpa [hq] using hs
    have hst : (storeVar ty ⟨g, j, none⟩ v).run P w = .ok () (w.setCell ⟨g, j, none⟩ v) := by
      have hc : v.cells = #[v] := by cases v <;> simp_all [Value.cells, oneV]
      have step : (store ((⟨g, j, none⟩ : Addr).add 0) v).run P w = .ok () (w.setCell ⟨g, j, none⟩ v) := by
        rw [add_none, Nat.add_zero]
        cases v <;> simp_all [store, Sem.run, oneV]
      simp [storeVar, sizeOf, typeInfo, hq, hs', hc, storeCells, step]
    unfold Oper.wp execOp
    simp only [ho, hx, hy, Instr.storeAt, Instr.sureAddr, Sem.run_bind, Sem.run_pure, Result.andThen_ok, hst]
    exact h _ (M.rowset i hi hB j v)
theorem wpM_rstN' (M : Mm D w0 w L) (i ty B g n cap e size : Nat) (xs : List Value) (j : Nat) (v : Value) (ho : isStore o.op ty = true) (hi : L[i]? = some (.row B (.slice (some ⟨g, 0, none⟩) n cap) n xs e size)) (hx : a.eval (addrOf o.op) = .pointer (some ⟨g, j, none⟩)) (hy : a.eval (valOf o.op) = v)
    (H : Region.wanted o (yielded ops a.tmps) = true ∧ oneV v = true ∧ (P.info? ty).map (·.size) = some 1) (hB : w0.heap.size ≤ B ∨ D g) (hj : j < n * size)
    (h : ∀ w', Mm D w0 w' (L.set i (.row B (.slice (some ⟨g, 0, none⟩) n cap) n (xs.set j v) e size)) → wpList P ops Q rest (a.put o.dst undef) w') : wpList P ops Q (o :: rest) a w :=
  wpM_rstN M i hi hB H.1 ty _ _ (isStore_spec ho) j hx v hy H.2.1 H.2.2 hj h
end

def StHM (s : ByteArray) : List Value → List Ent → Prop
  | [], Lg => Lg = []
  | v :: _, Lg => v = .string s ∧ Lg = []
/-- Marks of a list of texts; of a list of squares (their orders). -/
def MkdS (k n : Nat) (xs : List Value) : Prop := xs.length = n ∧ ∀ j, j < n → xs[j]? = some (mkS k j)
def MkdQ (k n : Nat) (xs : List Value) : Prop := xs.length = n * 101 ∧ ∀ j, j < n → xs[j * 101]? = some (.int .i64 ((k + j : Nat) : Int))

set_option maxRecDepth 100000 in
set_option maxHeartbeats 1000000 in
theorem markStrR_any (B : Nat) (v : Value) (n : Nat) (xs : List Value) (k : Nat) (hn : n ≤ 1048576) (hk : k ≤ 1048577) (w : World) (h : w.ownsRow B 9 1 v n xs) :
    Calls Tryz.prog 11 #[v, .int .i64 (k : Int)] w fun e w' => e = .returned (.int .i64 ((k + n : Nat) : Int)) ∧ ∃ ys, MkdS k n ys ∧ Mm (fun b => v.ownBlock = some b) w w' [.row B v n ys 9 1] := by
  have hlen : xs.length = n := by have := h.1; omega
  have M := ((Mm.start no w).only (fun b => v.ownBlock = some b)).add (x := .row B v n xs 9 1) h fun _ h => by cases h
  have HM := Hid2.mk (fun j (hj : j ≤ n) w1 => markText_any (k + j) (by omega) w1)
  obtain ⟨pp, cap, rfl⟩ := own_form h
  clear h
  go_enter Tryz.func11, Tryz.ntmps11
  go_wp2
  go_loopw [5, 1] (fun i q wr => ∃ j : Nat, j ≤ n ∧ i = .int .i64 (j : Int) ∧ q = .int .i64 ((k + j : Nat) : Int) ∧ ∃ cur : List Value, cur.length = n ∧ (∀ t, t < j → cur[t]? = some (mkS k t)) ∧ Mm (fun b => (Value.slice pp n cap).ownBlock = some b) w wr [.row B (.slice pp n cap) n cur 9 1]) (fun i _ _ => n - (intOf i).toNat)
  case atStart => exact ⟨0, by omega, rfl, by simp, xs, hlen, fun t h => by omega, M⟩
  case round =>
    obtain ⟨j, hj, rfl, rfl, cur, hcl, hcur, M9⟩ := hrel
    clear M; (try clear C)
    have M := M9
    clear M9
    have HCU := Hid2.mk hcur
    clear hcur
    by_cases hlt : j < n
    · have hlt' : (j : Int) < (n : Int) := by omega
      obtain ⟨g, cap', he, _, _, _⟩ := own_rds (M.row 0 rfl) (by omega)
      cases he
      have HT := HM.out j hj
      have HMS := Hid2.mk (show mkS k j = .string (str (mkT (k + j))) from rfl)
      generalize str (mkT (k + j)) = s at HT HMS
      have HKJ := Hid2.mk (show ((k + j : Nat) : Int) + 1 = ((k + (j + 1) : Nat) : Int) from by omega)
      have hkb : ((k + j : Nat) : Int) ≤ 4194304 := by omega
      have hkb0 : (0 : Int) ≤ ((k + j : Nat) : Int) := by omega
      generalize ((k + j : Nat) : Int) = q at HT HKJ hkb hkb0
      have C := M.ruleAll; simp only [Go.Proofs.YtocejggobgfccaaGreatDoor.ruleAll] at C
      go_wp2_with (first | (go_at_call 26; ((with_reducible refine (HT _).mono ?_); rintro e w5 ⟨rfl, hb⟩; have hsz := M.size; (try (have G9 := G.later hb; clear G; have G := G9; clear G9)); have M9 := M.later hb; clear M; (try clear C); have M := M9; clear M9; have C := M.ruleAll; simp only [Go.Proofs.YtocejggobgfccaaGreatDoor.ruleAll] at C)) | ((with_reducible apply wpM_rstN' M 0 9 B g n cap 9 1 cur j (.string s)); rfl; rfl; rfl; rfl; exact ⟨rfl, rfl, by kernel_rfl⟩; exact .inr rfl; omega; (clear M; (try clear C); intro w9 M)))
      go_roundw
      case rel =>
        refine ⟨j + 1, by omega, by go_num, by rw [HKJ.out], cur.set j (.string s), by rw [List.length_set]; exact hcl, fun t ht => ?_, M⟩
        rw [List.getElem?_set]
        split
        · rename_i e; subst e; rw [if_pos (by omega), HMS.out]
        · exact HCU.out t (by omega)
      case measure => simp [intOf]; omega
    · obtain rfl : j = n := by omega
      have hge : ¬ ((j : Int) < (j : Int)) := by omega
      go_wp2
      go_ret
      exact ⟨rfl, cur, ⟨hcl, HCU.out⟩, M⟩

set_option maxRecDepth 100000 in
set_option maxHeartbeats 1000000 in
theorem heldStr_any (p : Option Addr) (n cap : Nat) (k : Nat) (hn : n ≤ 1048576) (hk : k ≤ 1048577) (w : World) (h : rdq w p n (mkS k)) :
    Calls Tryz.prog 12 #[.slice p n cap, .int .i64 (k : Int)] w fun e w' => e = .returned (.int .i64 ((k + n : Nat) : Int)) ∧ Below w.heap.size w w' := by
  have M := Mm.start no w
  have F1 := Hid2.mk (fun w1 (hb : Below w.heap.size w w1) => h.later hb)
  have HM := Hid2.mk (fun j (hj : j ≤ n) w1 => markText_any (k + j) (by omega) w1)
  clear h
  go_enter Tryz.func12, Tryz.ntmps12
  go_wp2
  go_loopw [5, 1] (fun i q wr => ∃ j : Nat, j ≤ n ∧ i = .int .i64 (j : Int) ∧ q = .int .i64 ((k + j : Nat) : Int) ∧ Mm no w wr []) (fun i _ _ => n - (intOf i).toNat)
  case atStart => exact ⟨0, by omega, rfl, by simp, M⟩
  case round =>
    obtain ⟨j, hj, rfl, rfl, M9⟩ := hrel
    clear M
    have M := M9
    clear M9
    by_cases hlt : j < n
    · have hlt' : (j : Int) < (n : Int) := by omega
      obtain ⟨g, rfl, hr⟩ := F1.out _ M.below (by omega)
      have HCL := Hid2.mk (show ∀ w1, Below w.heap.size w w1 → w1.cell? ⟨g, j, none⟩ = some (.string (str (mkT (k + j)))) from fun w1 hb => by
        obtain ⟨g', e, hr'⟩ := F1.out w1 hb (by omega)
        cases e
        exact hr'.at_ j hlt)
      have hcell := HCL.out _ M.below
      have HT := HM.out j hj
      generalize str (mkT (k + j)) = s at HT HCL hcell
      have hss : (s.toList == s.toList) = true := by simp
      have HKJ := Hid2.mk (show ((k + j : Nat) : Int) + 1 = ((k + (j + 1) : Nat) : Int) from by omega)
      have hkb : ((k + j : Nat) : Int) ≤ 4194304 := by omega
      have hkb0 : (0 : Int) ≤ ((k + j : Nat) : Int) := by omega
      generalize ((k + j : Nat) : Int) = q at HT HKJ hkb hkb0
      clear hr
      clear hcell
      go_wp2
      apply wp_region_mmf1 M [0, 1, 2, 3, 4] 5 6 _ (StHM s) (by kernel_rfl) (by kernel_rfl) rfl rfl rfl
      case ht => (repeat (first | exact wpTextG_nil | (apply wpTextG_cons; (intro g9 w2 hG; obtain ⟨Lg9, hSt9, G⟩ := hG; have M := G.suffix; have hcell := HCL.out _ M.below; go_wp2; exact ⟨rfl, rfl, Lg9, hSt9, G⟩); rfl)))
      case hA =>
        intro Lg w2 h M
        obtain rfl : Lg = [] := h
        refine yield_walk (ops := #[]) rfl rfl (by simp [Act.put]) ?_
        simp only [List.nil_append] at M
        go_wp2_with (first | (go_at_call 26; ((with_reducible refine (HT _).mono ?_); rintro e w5 ⟨rfl, hb⟩; have hsz := M.size; (try (have G9 := G.later hb; clear G; have G := G9; clear G9)); have M9 := M.later hb; clear M; (try clear C); have M := M9; clear M9; have C := M.ruleAll; simp only [Go.Proofs.YtocejggobgfccaaGreatDoor.ruleAll] at C)))
        exact ⟨[], ⟨rfl, rfl⟩, M⟩
      clear M; (try clear C)
      intro v Lg w2 h M
      obtain ⟨rfl, rfl⟩ := h
      simp only [List.drop_succ_cons, List.drop_zero, List.nil_append] at M ⊢
      go_wp2
      go_roundw
      case rel => exact ⟨j + 1, by omega, by go_num, by rw [HKJ.out], M⟩
      case measure => simp [intOf]; omega
    · obtain rfl : j = n := by omega
      have hge : ¬ ((j : Int) < (j : Int)) := by omega
      go_wp2
      go_ret
      exact ⟨rfl, M.below⟩

set_option maxRecDepth 100000 in
set_option maxHeartbeats 1000000 in
theorem markSqR_any (B : Nat) (v : Value) (n : Nat) (xs : List Value) (k : Nat) (hn : n ≤ 1048576) (hk : k ≤ 2097153) (w : World) (h : w.ownsRow B 50 101 v n xs) :
    Calls Tryz.prog 25 #[v, .int .i64 (k : Int)] w fun e w' => e = .returned (.int .i64 ((k + n : Nat) : Int)) ∧ ∃ ys, MkdQ k n ys ∧ Mm (fun b => v.ownBlock = some b) w w' [.row B v n ys 50 101] := by
  have hlen : xs.length = n * 101 := h.1
  have M := ((Mm.start no w).only (fun b => v.ownBlock = some b)).add (x := .row B v n xs 50 101) h fun _ h => by cases h
  obtain ⟨pp, cap, rfl⟩ := own_form h
  clear h
  go_enter Tryz.func25, Tryz.ntmps25
  go_wp2
  go_loopw [5, 1] (fun i q wr => ∃ j : Nat, j ≤ n ∧ i = .int .i64 (j : Int) ∧ q = .int .i64 ((k + j : Nat) : Int) ∧ ∃ cur : List Value, cur.length = n * 101 ∧ (∀ t, t < j → cur[t * 101]? = some (.int .i64 ((k + t : Nat) : Int))) ∧ Mm (fun b => (Value.slice pp n cap).ownBlock = some b) w wr [.row B (.slice pp n cap) n cur 50 101]) (fun i _ _ => n - (intOf i).toNat)
  case atStart => exact ⟨0, by omega, rfl, by simp, xs, hlen, fun t h => by omega, M⟩
  case round =>
    obtain ⟨j, hj, rfl, rfl, cur, hcl, hcur, M9⟩ := hrel
    clear M; (try clear C)
    have M := M9
    clear M9
    have HCU := Hid2.mk hcur
    clear hcur
    by_cases hlt : j < n
    · have hlt' : (j : Int) < (n : Int) := by omega
      obtain ⟨g, cap', he, _, _, _⟩ := own_rds (M.row 0 rfl) (by omega)
      cases he
      have HKJ := Hid2.mk (show ((k + j : Nat) : Int) + 1 = ((k + (j + 1) : Nat) : Int) from by omega)
      have hkb : ((k + j : Nat) : Int) ≤ 4194304 := by omega
      have hkb0 : (0 : Int) ≤ ((k + j : Nat) : Int) := by omega
      obtain ⟨q, hq⟩ : ∃ q : Int, q = ((k + j : Nat) : Int) := ⟨_, rfl⟩
      rw [← hq] at HKJ hkb hkb0 ⊢
      have HQV := Hid2.mk hq
      clear hq
      have C := M.ruleAll; simp only [Go.Proofs.YtocejggobgfccaaGreatDoor.ruleAll] at C
      go_wp2_with (first | ((with_reducible apply wpM_rstN' M 0 2 B g n cap 50 101 cur (j * 101) (.int .i64 q)); rfl; rfl; rfl; rfl; exact ⟨rfl, rfl, by kernel_rfl⟩; exact .inr rfl; omega; (clear M; (try clear C); intro w9 M)))
      go_roundw
      case rel =>
        refine ⟨j + 1, by omega, by go_num, by rw [HKJ.out], cur.set (j * 101) (.int .i64 q), by rw [List.length_set]; exact hcl, fun t ht => ?_, M⟩
        rw [List.getElem?_set]
        split
        · rename_i e
          obtain rfl : j = t := by omega
          rw [if_pos (by omega), HQV.out]
        · exact HCU.out t (by omega)
      case measure => simp [intOf]; omega
    · obtain rfl : j = n := by omega
      have hge : ¬ ((j : Int) < (j : Int)) := by omega
      go_wp2
      go_ret
      exact ⟨rfl, cur, ⟨hcl, HCU.out⟩, M⟩


end Go.Proofs.YtocejggobgfccaaGreatDoor

/- A new book: marks on it, what is read of it, the post of a function that hands one back. Contracts. -/
namespace Go.Proofs.YtocejggobgfccaaGreatDoor
set_option linter.unusedSimpArgs false
set_option linter.unusedVariables false
open Go Go.RowKit

theorem own_ge {w : World} {B e size n : Nat} {v : Value} {xs : List Value} (h : w.ownsRow B e size v n xs) {b : Nat} (hb : v.ownBlock = some b) : B ≤ b := by
  rcases h.2 with ⟨h, _⟩ | ⟨g, cap, cur, rfl, hB, _⟩
  · rw [h] at hb; cases hb
  · cases hb; exact hB
/-- A call that writes into the first entries. -/
theorem Mm.callD {D D0 : Nat → Prop} {w0 w w' : World} {X Y X' : List Ent} (M : Mm D0 w0 w (X ++ Y)) (M' : Mm D w w' X') (hD : ∀ b, D b → ∃ x ∈ X, x.place b) (hX : ∀ x ∈ X', ∀ b, x.place b → (∃ y ∈ X, y.place b) ∨ w.heap.size ≤ b) (h0 : ∀ b, b < w0.heap.size → D b → D0 b) : Mm D0 w0 w' (X' ++ Y) := by
  have hp := List.pairwise_append.1 M.pair
  have hy : ∀ y ∈ Y, y.holds w := fun y h => M.mem (List.mem_append_right X h)
  refine .of_pair (M.kept.trans M'.kept h0) (fun x hx => ?_) (List.pairwise_append.2 ⟨M'.pair, hp.2.1, fun x hx y hy2 b h1 h2 => ?_⟩)
  · rcases List.mem_append.1 hx with h1 | h1
    · exact M'.mem h1
    · refine Ent.holds_of (x := x) (hy x h1) M'.kept fun b hb hd => ?_
      obtain ⟨z, hz, hzb⟩ := hD b hd
      exact hp.2.2 z hz x h1 b hzb hb
  · rcases hX x hx b h1 with ⟨z, hz, hzb⟩ | h
    · exact hp.2.2 z hz y hy2 b hzb h2
    · have := Ent.lt (hy y hy2) h2
      omega

/-- Both rows of a book may be written. -/
def BkD (v1 v2 : Value) : Nat → Prop := fun b => v1.ownBlock = some b ∨ v2.ownBlock = some b
set_option maxRecDepth 100000 in
set_option maxHeartbeats 1000000 in
theorem markBook_any (B n m c1 c2 : Nat) (pp1 pp2 : Option Addr) (xs1 xs2 : List Value) (k : Nat) (hn : n ≤ 1048576) (hm : m ≤ 1048576) (hk : k ≤ 1048577) (w : World) (M0 : Mm no w w [.row B (.slice pp1 n c1) n xs1 9 1, .row B (.slice pp2 m c2) m xs2 50 101]) :
    Calls Tryz.prog 10 #[.agg (bkV pp1 c1 pp2 c2 n m), .int .i64 (k : Int)] w fun e w' => e = .returned (.int .i64 ((k + n + m : Nat) : Int)) ∧ ∃ ys1 ys2, MkdS k n ys1 ∧ MkdQ (k + n) m ys2 ∧ Mm (BkD (.slice pp1 n c1) (.slice pp2 m c2)) w w' [.row B (.slice pp1 n c1) n ys1 9 1, .row B (.slice pp2 m c2) m ys2 50 101] := by
  have M := M0.only (BkD (.slice pp1 n c1) (.slice pp2 m c2))
  have k0 : (bkV pp1 c1 pp2 c2 n m)[0]? = some (.slice pp1 n c1) := rfl
  have k1 : (bkV pp1 c1 pp2 c2 n m)[1]? = some (.slice pp2 m c2) := rfl
  have H1 := Hid2.mk (fun w1 h => markStrR_any B (.slice pp1 n c1) n xs1 k hn hk w1 h)
  have H2 := Hid2.mk (fun w1 h => markSqR_any B (.slice pp2 m c2) m xs2 (k + n) hm (by omega) w1 h)
  clear M0
  go_enter Tryz.func10, Tryz.ntmps10
  go_wp2_with (first | ((with_reducible apply wpM_box' M 31 (bkV pp1 c1 pp2 c2 n m)); rfl; exact ⟨rfl, rfl⟩; clear M; (try clear C); intro bb w9 h_bb M; have C := M.ruleAll; simp only [Go.Proofs.YtocejggobgfccaaGreatDoor.ruleAll] at C) | (go_at_call 11; fail))
  refine (H1.out _ (M.row 1 rfl)).mono ?_
  rintro e w1 ⟨rfl, ys1, hy1, M'⟩
  have M9 := Mm.callD (X := [.row B (.slice pp1 n c1) n xs1 9 1]) (Y := [.box bb (bkV pp1 c1 pp2 c2 n m) 31, .row B (.slice pp2 m c2) m xs2 50 101]) (M.sub [1, 0, 2] (by decide)) M' (fun b h => ⟨_, List.mem_singleton.2 rfl, h⟩) (fun x hx b h => by rw [List.mem_singleton.1 hx] at h; exact .inl ⟨_, List.mem_singleton.2 rfl, h⟩) (fun b _ h => .inl h)
  simp only [List.cons_append, List.nil_append] at M9
  clear M; (try clear C)
  have M := M9
  clear M9 M'
  have HY1 := Hid2.mk hy1
  clear hy1
  have C := M.ruleAll; simp only [Go.Proofs.YtocejggobgfccaaGreatDoor.ruleAll] at C
  go_wp2_with (first | (go_at_call 25; fail))
  refine (H2.out _ (M.row 2 rfl)).mono ?_
  rintro e w2 ⟨rfl, ys2, hy2, M'⟩
  have M9 := Mm.callD (X := [.row B (.slice pp2 m c2) m xs2 50 101]) (Y := [.box bb (bkV pp1 c1 pp2 c2 n m) 31, .row B (.slice pp1 n c1) n ys1 9 1]) (M.sub [2, 1, 0] (by decide)) M' (fun b h => ⟨_, List.mem_singleton.2 rfl, h⟩) (fun x hx b h => by rw [List.mem_singleton.1 hx] at h; exact .inl ⟨_, List.mem_singleton.2 rfl, h⟩) (fun b _ h => .inr h)
  simp only [List.cons_append, List.nil_append] at M9
  clear M; (try clear C)
  have M := M9
  clear M9 M'
  have HY2 := Hid2.mk hy2
  clear hy2
  have C := M.ruleAll; simp only [Go.Proofs.YtocejggobgfccaaGreatDoor.ruleAll] at C
  go_wp2
  go_ret
  exact ⟨rfl, ys1, ys2, HY1.out, HY2.out, M.sub [2, 0] (by decide)⟩


/-- A row of names. -/
def nmR (ns : List ByteArray) : List Value := ns.map .string
/-- A function hands back a new book and a code. -/
def BkNew (ns : List ByteArray) (ls : List Sqr) (code : Int) (w : World) (e : Ending) (w' : World) : Prop :=
  ∃ pp1 c1 pp2 c2, e = .returned (.tuple #[.agg (bkV pp1 c1 pp2 c2 ns.length ls.length), .int .i64 code]) ∧ Mm no w w' [.row w.heap.size (.slice pp1 ns.length c1) ns.length (nmR ns) 9 1, .row w.heap.size (.slice pp2 ls.length c2) ls.length (slC ls) 50 101]
theorem nmR_rdq {w : World} {B c : Nat} {p : Option Addr} {ns : List ByteArray} (h : w.ownsRow B 9 1 (.slice p ns.length c) ns.length (nmR ns)) : rdq w p ns.length (nmF ns) := fun hn => by
  obtain ⟨g, e, hr⟩ := rdq_of_own h (by omega)
  refine ⟨g, e, hr.lt, fun j hj => ?_⟩
  rw [hr.at_ j (by omega), List.getD_eq_getElem?_getD]
  unfold nmR
  rw [List.getElem?_map, List.getElem?_eq_getElem hj, nmF_at hj]
  rfl
theorem mkdS_rdq {w : World} {B c n k : Nat} {p : Option Addr} {ys : List Value} (hy : MkdS k n ys) (h : w.ownsRow B 9 1 (.slice p n c) n ys) : rdq w p n (mkS k) := fun hn => by
  obtain ⟨g, e, hr⟩ := rdq_of_own h (by omega)
  refine ⟨g, e, hr.lt, fun j hj => ?_⟩
  rw [hr.at_ j (by omega), List.getD_eq_getElem?_getD, hy.2 j hj]
  rfl
end Go.Proofs.YtocejggobgfccaaGreatDoor

/- Append of rows of structs that are read; slices.Clone of names and of squares. Printed by gen/h9.py. -/
namespace Go.Proofs.YtocejggobgfccaaGreatDoor
set_option linter.unusedSimpArgs false
set_option linter.unusedVariables false
open Go Go.RowKit

section
variable {P : Program} {D : Nat → Prop} {w0 w : World} {L : List Ent} {ops : Array Oper} {rest : List Oper} {o : Oper} {a : Act} {Q : Exit → Act → World → Prop}
theorem wpM_appN (M : Mm D w0 w L) (t i : Nat) (B : Nat) (v : Value) (n : Nat) (xs : List Value) (e size bytes : Nat) (ad : Addr) (m c : Nat) (news : List Value) (ho : isApp o.op t = true) (hi : L[i]? = some (.row B v n xs e size)) (hs : a.eval (appS o.op) = v) (hx : a.eval (appX o.op) = .slice (some ad) m c)
    (hgd : o.guard = none) (hB : w0.heap.size ≤ B ∨ ∀ k, v.ownBlock = some k → D k) (hBw : B ≤ w.heap.size) (hl : news.length = m * size) (hnews : ∀ j u, news[j]? = some u → w.cell? (ad.add j) = some u) (h1 : ∀ u ∈ news, u.oneCell' = true) {z : Value} (ht : P.underlying t = some (.slice e)) (hinfo : (P.info? e).map (fun i => (i.zero, i.size, i.bytes)) = some (some z, size, bytes))
    (hzs : z.cells.size = size) (hsz : 0 < size) (h63 : n + m ≤ maxLen) (hbytes : (n + m) * bytes ≤ 140737488355328)
    (h : ∀ v' w', Far v' v w0.heap.size → Mm D w0 w' (L.set i (.row B v' (n + m) (xs ++ news) e size)) → wpList P ops Q rest (a.put o.dst v') w') : wpList P ops Q (o :: rest) a w := by
  obtain ⟨i0, hi0, hzz⟩ := Option.map_eq_some_iff.1 hinfo
  simp only [Prod.mk.injEq] at hzz
  obtain ⟨hz0, hz1, hz2⟩ := hzz
  refine wpList_append_own_at w hgd (appS o.op) (appX o.op) t (isApp_spec ho) B e i0 z size bytes ht hi0 hz0 hz1 hz2 hzs hsz v n xs hs (M.row i hi) ad m c news hx hl hnews h1 h63 hbytes hBw fun v' w' h2 h3 _ h5 => h v' w' ?_ (M.longer i hi hB h3 h2 ?_)
  · rcases h5 with h | h
    · exact .inl h
    · exact .inr ⟨_, h, M.size⟩
  · rcases h5 with h | h
    · exact .inl h
    · exact .inr ⟨_, h, Nat.le_refl _⟩
end
theorem und_sqH : Tryz.prog.underlying 29 = some (.slice 50) := by kernel_rfl
theorem inf_sqH : (Tryz.prog.info? 50).map (fun i => (i.zero, i.size, i.bytes)) = some (some (.agg (sqs 0 fun _ _ => 0)), 101, 112) := by kernel_rfl
theorem bsl_Q0 (w : World) : (Instr.buildSlice 29 0 [].toArray).run Tryz.prog w = .ok (.slice (some ⟨w.heap.size, 0, none⟩) 0 0) (w.alloc (.cells #[] 50)) := by kernel_rfl
theorem bsl_Q1 (q : Sqr) (w : World) : (Instr.buildSlice 29 1 [(0, Value.agg (sqs q.n q.t))].toArray).run Tryz.prog w = .ok (.slice (some ⟨w.heap.size, 0, none⟩) 1 1) (w.alloc (.cells (sqs q.n q.t) 50)) := by kernel_rfl
theorem cloneS_any_one (l : List ByteArray) : ∀ u ∈ nmR l, u.oneCell' = true := fun u hu => by
  obtain ⟨x, _, rfl⟩ := List.mem_map.1 hu
  rfl
theorem cloneQ_any_one (l : List Sqr) : ∀ u ∈ slC l, u.oneCell' = true := fun u hu => by
  obtain ⟨x, _, h⟩ := List.mem_flatMap.1 hu
  have := flat_sqs x.n x.t u h
  cases u <;> first | rfl | cases this

theorem eql_nilJ (a : Option Addr) (l c : Nat) (w : World) : (binOp .eql 22 (.slice a l c) (.slice none 0 0)).run Tryz.prog w = .ok (.bool a.isNone) w := by
  simp [binOp, run_equal_slice_nil w 22 9 a l c und_slJ]

theorem eql_nilQ (a : Option Addr) (l c : Nat) (w : World) : (binOp .eql 29 (.slice a l c) (.slice none 0 0)).run Tryz.prog w = .ok (.bool a.isNone) w := by
  simp [binOp, run_equal_slice_nil w 29 50 a l c und_sqH]

end Go.Proofs.YtocejggobgfccaaGreatDoor

/- DropLoop of the reference: contract. -/
namespace Go.Proofs.YtocejggobgfccaaGreatDoor
set_option linter.unusedSimpArgs false
set_option linter.unusedVariables false
open Go Go.RowKit

/-- The first k members without the one with number p. -/
def drT {α : Type} (l : List α) (p k : Nat) : List α := (l.take k).eraseIdx p
theorem drT_next {α : Type} {l : List α} {p k : Nat} (hk : k < l.length) (h : k ≠ p) : drT l p (k + 1) = drT l p k ++ [l[k]] := by
  unfold drT
  rw [List.take_succ_eq_append_getElem hk]
  rcases Nat.lt_or_gt_of_ne h with h1 | h1
  · rw [List.eraseIdx_of_length_le (by simp; omega), List.eraseIdx_of_length_le (by simp; omega)]
  · rw [List.eraseIdx_append_of_lt_length (by simp; omega)]
theorem drT_at {α : Type} {l : List α} {k : Nat} (hk : k < l.length) : drT l k (k + 1) = drT l k k := by
  unfold drT
  rw [List.take_succ_eq_append_getElem hk, List.eraseIdx_append_of_length_le (by simp; omega), List.eraseIdx_of_length_le (l := l.take k) (by simp; omega)]
  simp [Nat.min_eq_left (Nat.le_of_lt hk)]
theorem drT_len {α : Type} (l : List α) (p k : Nat) : (drT l p k).length ≤ k := by
  unfold drT
  have := List.length_eraseIdx_le (l.take k) p
  have := List.length_take_le k l
  omega
theorem nmR_snoc (l : List ByteArray) (x : ByteArray) : nmR (l ++ [x]) = nmR l ++ [.string x] := by simp [nmR]
theorem slC_snocH (l : List Sqr) (q : Sqr) : slC (l ++ [q]) = slC l ++ (sqs q.n q.t).toList := by simp [slC, rowC, sqC]
theorem flat_bkv (p1 : Option Addr) (c1 : Nat) (p2 : Option Addr) (c2 n m : Nat) : flat (bkV p1 c1 p2 c2 n m) := fun u hu => by
  simp only [bkV, List.mem_cons, List.not_mem_nil, or_false] at hu
  rcases hu with rfl | rfl <;> rfl
theorem build_bkH (w : World) : (Instr.build 31 #[]).run Tryz.prog w = .ok (.agg (bkV none 0 none 0 0 0)) w := by kernel_rfl
theorem zero_bkH (w : World) : (zeroValue 31).run Tryz.prog w = .ok (.agg (bkV none 0 none 0 0 0)) w := by kernel_rfl
theorem namedR_len {ns : List ByteArray} {ls : List Sqr} {s : ByteArray} (h : (namedR ns ls s).2 = 0) : ls.length = ns.length := by
  cases hb : isBk ns ls with
  | false => rw [namedR_1 hb] at h; exact absurd h (by decide)
  | true => exact isBk_len hb
/-- The book without a loop, and a code. -/
noncomputable def dropN (ns : List ByteArray) (ls : List Sqr) (s : ByteArray) : List ByteArray := if (namedR ns ls s).2 = 0 then ns.eraseIdx (namedR ns ls s).1.toNat else []
noncomputable def dropL (ns : List ByteArray) (ls : List Sqr) (s : ByteArray) : List Sqr := if (namedR ns ls s).2 = 0 then ls.eraseIdx (namedR ns ls s).1.toNat else []


theorem newRows {w w' : World} {v1 v2 : Value} {n1 n2 : Nat} {xs1 xs2 : List Value} {e1 s1 e2 s2 : Nat} (M : Mm no w w' [.row w.heap.size v1 n1 xs1 e1 s1, .row w.heap.size v2 n2 xs2 e2 s2]) : ∀ x ∈ [Ent.row w.heap.size v1 n1 xs1 e1 s1, .row w.heap.size v2 n2 xs2 e2 s2], ∀ b, x.place b → w.heap.size ≤ b := fun x hx b hb => by
  simp only [List.mem_cons, List.not_mem_nil, or_false] at hx
  rcases hx with rfl | rfl
  · exact own_ge (M.row 0 rfl) hb
  · exact own_ge (M.row 1 rfl) hb
theorem slR_rdq {w : World} {B c : Nat} {p : Option Addr} {ls : List Sqr} (h : w.ownsRow B 50 101 (.slice p ls.length c) ls.length (slC ls)) : rdq w p (ls.length * 101) (fun j => (slC ls).getD j undef) := rdq_of_own h

/-- The rows of a book are marked. -/
theorem Mm.markd {w0 w w' : World} {Y : List Ent} {B n m c1 c2 : Nat} {p1 p2 : Option Addr} {xs1 xs2 ys1 ys2 : List Value} {e1 e2 s2 : Nat} (M : Mm no w0 w (.row B (.slice p1 n c1) n xs1 e1 1 :: .row B (.slice p2 m c2) m xs2 e2 s2 :: Y)) (hB : w0.heap.size ≤ B)
    (M' : Mm (BkD (.slice p1 n c1) (.slice p2 m c2)) w w' [.row B (.slice p1 n c1) n ys1 e1 1, .row B (.slice p2 m c2) m ys2 e2 s2]) : Mm no w0 w' (.row B (.slice p1 n c1) n ys1 e1 1 :: .row B (.slice p2 m c2) m ys2 e2 s2 :: Y) := by
  have h1 := M.row 0 rfl
  have h2 := M.row 1 rfl
  refine Mm.callD (X := [.row B (.slice p1 n c1) n xs1 e1 1, .row B (.slice p2 m c2) m xs2 e2 s2]) (X' := [.row B (.slice p1 n c1) n ys1 e1 1, .row B (.slice p2 m c2) m ys2 e2 s2]) M M' (fun b h => ?_) (fun x hx b h => .inl ?_) (fun b hb h => ?_)
  · rcases h with h | h
    · exact ⟨_, List.mem_cons_self .., h⟩
    · exact ⟨_, List.mem_cons_of_mem _ (List.mem_cons_self ..), h⟩
  · simp only [List.mem_cons, List.not_mem_nil, or_false] at hx
    rcases hx with rfl | rfl
    · exact ⟨_, List.mem_cons_self .., h⟩
    · exact ⟨_, List.mem_cons_of_mem _ (List.mem_cons_self ..), h⟩
  · rcases h with h | h
    · have := own_ge h1 h; omega
    · have := own_ge h2 h; omega
end Go.Proofs.YtocejggobgfccaaGreatDoor

/- The names of the loops in which a law holds, on both sides: contracts. -/
namespace Go.Proofs.YtocejggobgfccaaGreatDoor
set_option linter.unusedSimpArgs false
set_option linter.unusedVariables false
open Go Go.RowKit

noncomputable def nbF (ls : List Sqr) (k : Nat) (i : Nat) : Bool := lawB (ls.getD i sq00).n.toNat (ls.getD i sq00).t k
/-- The names among the first m whose loops answer. -/
def nbT (ns : List ByteArray) (f : Nat → Bool) : Nat → List ByteArray
  | 0 => []
  | m + 1 => if f m = true then nbT ns f m ++ [ns.getD m .empty] else nbT ns f m
theorem nbT_len (ns : List ByteArray) (f : Nat → Bool) : ∀ m, (nbT ns f m).length ≤ m
  | 0 => Nat.le_refl _
  | m + 1 => by
    have := nbT_len ns f m
    rw [nbT]
    split
    · rw [List.length_append]; simp only [List.length_cons, List.length_nil]; omega
    · omega
theorem nbT_yes {ns : List ByteArray} {f : Nat → Bool} {m : Nat} (h : f m = true) : nbT ns f (m + 1) = nbT ns f m ++ [ns.getD m .empty] := by rw [nbT, if_pos h]
theorem nbT_no {ns : List ByteArray} {f : Nat → Bool} {m : Nat} (h : f m = false) : nbT ns f (m + 1) = nbT ns f m := by rw [nbT, if_neg (by rw [h]; decide)]
noncomputable def nbC (ns : List ByteArray) (ls : List Sqr) (k : Int) : Int := if isBk ns ls = true then (if 0 ≤ k ∧ k ≤ 19 then 0 else 2) else 1
noncomputable def nbL (ns : List ByteArray) (ls : List Sqr) (k : Int) : List ByteArray := if nbC ns ls k = 0 then nbT ns (nbF ls k.toNat) ns.length else []
/-- What is handed back. -/
def NbPost (L : List ByteArray) (d : Int) (w : World) (e : Ending) (w' : World) : Prop := ∃ p c, e = .returned (.tuple #[.slice p L.length c, .int .i64 d]) ∧ Mm no w w' [.row w.heap.size (.slice p L.length c) L.length (nmR L) 9 1]
theorem NbPost.err {ns : List ByteArray} {ls : List Sqr} {k d : Int} {w w' : World} (h : nbC ns ls k = d) (hd : d ≠ 0) (hb : Below w.heap.size w w') : NbPost (nbL ns ls k) (nbC ns ls k) w (.returned (.tuple #[.slice none 0 0, .int .i64 d])) w' := by
  subst h
  unfold nbL
  rw [if_neg hd]
  exact ⟨none, 0, rfl, ((Mm.start no w).later hb).nilRow w.heap.size 9 1⟩
theorem nbL_len (ns : List ByteArray) (ls : List Sqr) (k : Int) : (nbL ns ls k).length ≤ ns.length := by
  unfold nbL
  split
  · exact nbT_len ..
  · exact Nat.zero_le _
theorem rowBase {D : Nat → Prop} {w0 w : World} {L : List Ent} {b : Nat} {e : Nat} (M : Mm D w0 w (.box b #[] e :: L)) (h : w0.heap.size ≤ b) : Mm D w0 w (.row w0.heap.size (.slice (some ⟨b, 0, none⟩) 0 0) 0 [] e 1 :: L) := M.asRow 0 rfl w0.heap.size 0 1 h rfl (Nat.zero_le _)

set_option maxRecDepth 100000 in
set_option maxHeartbeats 4000000 in
theorem implNamesByLaw_any {ns : List ByteArray} {ls : List Sqr} (h : BkIn ns ls) (k : Int) (w : World) (hg : glb w) {g1 g2 : Nat} (h1 : BkHere ns ls w g1 g2) (c1 c2 : Nat) (hc : ns.length ≤ c1) :
    Calls Tryz.prog 7 #[.agg (bkA g1 c1 g2 c2 ns.length ls.length), .int .i64 k] w (NbPost (nbL ns ls k) (nbC ns ls k) w) := by
  have M := Mm.start no w
  have k0 : (bkA g1 c1 g2 c2 ns.length ls.length)[0]? = some (.slice (some ⟨g1, 0, none⟩) ns.length c1) := rfl
  have k1 : (bkA g1 c1 g2 c2 ns.length ls.length)[1]? = some (.slice (some ⟨g2, 0, none⟩) ls.length c2) := rfl
  have HB := fun w1 (hb : Below w.heap.size w w1) => isBookP_any h w1 (h1.later hb) c1 c2 hc
  have hnb := h.n
  cases hb1 : isBk ns ls with
  | false =>
    have HC := Hid2.mk (show nbC ns ls k = 1 by unfold nbC; rw [if_neg (by rw [hb1]; decide)])
    simp only [hb1] at HB
    clear h h1 hc hb1 hg
    go_enter Tryz.func7, Tryz.ntmps7
    go_wp2_with (first | ((with_reducible apply wpM_box' M 31 (bkA g1 c1 g2 c2 ns.length ls.length)); rfl; exact ⟨rfl, rfl⟩; clear M; (try clear C); intro bb w9 h_bb M; have C := M.ruleAll; simp only [Go.Proofs.YtocejggobgfccaaGreatDoor.ruleAll] at C) | ((with_reducible apply wpM_lda' M 0 31 0 (bkA g1 c1 g2 c2 ns.length ls.length)); rfl; rfl; rfl; exact ⟨rfl, inf_bok.trans (congrArg some (bok_size ..).symm), _, und_bok, rfl⟩; exact whole_of rfl) | (go_at_call 21; ((with_reducible refine (HB _ M.below).mono ?_); rintro e w1 ⟨rfl, hb⟩; have hsz := M.size; (try (have G9 := G.later hb; clear G; have G := G9; clear G9)); have M9 := M.later hb; clear M; (try clear C); have M := M9; clear M9; have C := M.ruleAll; simp only [Go.Proofs.YtocejggobgfccaaGreatDoor.ruleAll] at C)))
    go_ret2
    exact NbPost.err HC.out (by decide) M.below
  | true =>
    simp only [hb1] at HB
    by_cases hk : 0 ≤ k ∧ k ≤ 19
    · have HC := Hid2.mk (show nbC ns ls k = 0 by unfold nbC; rw [if_pos hb1, if_pos hk])
      have HLW := fun w1 => isLaw_any k true (by simp [hk]) w1
      obtain ⟨K, rfl⟩ : ∃ K : Nat, k = K := ⟨k.toNat, by omega⟩
      have hK : K < 20 := by omega
      have HR := Hid2.mk (show nbL ns ls (K : Int) = nbT ns (nbF ls K) ls.length by unfold nbL; rw [if_pos HC.out, Int.toNat_natCast, isBk_len2 hb1])
      have HLEN := Hid2.mk (show ∀ m, m < ls.length → m < ns.length from fun m h => by rw [← isBk_len2 hb1]; exact h)
      have HG := Hid2.mk (fun w1 (hb : Below w.heap.size w w1) => hg.later hb)
      have HQ := Hid2.mk (fun (j : Nat) (hj : j < ls.length) w1 (hb : Below w.heap.size w w1) => sq_cells (h1.later hb).r2 hj)
      have HO := Hid2.mk (fun (j : Nat) (hj : j < ls.length) w1 (hgl : glb w1) => (show Calls Tryz.prog 23 #[.agg (sqs ls[j].n ls[j].t), .int .i64 (K : Int)] w1 fun e w' => e = .returned (.bool (nbF ls K j)) ∧ Below w1.heap.size w1 w' from by
        have hq := isBk_loop h hb1 ls[j] (List.getElem_mem hj)
        have s1 := isSq_true.1 hq.2
        have e1 : ((ls[j].n.toNat : Nat) : Int) = ls[j].n := Int.toNat_of_nonneg (by have := s1.lo; omega)
        have h := obeys_any ls[j].n.toNat ls[j].t (by rw [e1]; exact s1) K hK w1 hgl
        rw [e1] at h
        have e2 : nbF ls K j = lawB ls[j].n.toNat ls[j].t K := by unfold nbF; rw [getD_at hj]
        rw [e2]
        exact h))
      have hlb : ls.length ≤ 1048576 := h.m
      have M9 := M.add (x := .rd g1 ns.length (nmF ns)) h1.r1 fun _ h => by cases h
      clear M h h1 hc hb1 hg hk hK
      have M := M9
      clear M9
      go_enter Tryz.func7, Tryz.ntmps7
      go_wp2_with (first | ((with_reducible apply wpM_box' M 31 (bkA g1 c1 g2 c2 ns.length ls.length)); rfl; exact ⟨rfl, rfl⟩; clear M; (try clear C); intro bb w9 h_bb M; have C := M.ruleAll; simp only [Go.Proofs.YtocejggobgfccaaGreatDoor.ruleAll] at C) | ((with_reducible apply wpM_lda' M 0 31 0 (bkA g1 c1 g2 c2 ns.length ls.length)); rfl; rfl; rfl; exact ⟨rfl, inf_bok.trans (congrArg some (bok_size ..).symm), _, und_bok, rfl⟩; exact whole_of rfl) | (go_at_call 21; ((with_reducible refine (HB _ M.below).mono ?_); rintro e w1 ⟨rfl, hb⟩; have hsz := M.size; (try (have G9 := G.later hb; clear G; have G := G9; clear G9)); have M9 := M.later hb; clear M; (try clear C); have M := M9; clear M9; have C := M.ruleAll; simp only [Go.Proofs.YtocejggobgfccaaGreatDoor.ruleAll] at C)) | (go_at_call 22; ((with_reducible refine (HLW _).mono ?_); rintro e w1 ⟨rfl, rfl⟩)) | (((with_reducible apply wpM_bsl' M 22 0 9 ([]) (#[])); rfl; rfl; rfl; exact bsl_J0; clear M; (try clear C); intro bo w9 h_bo M; have C := M.ruleAll; simp only [Go.Proofs.YtocejggobgfccaaGreatDoor.ruleAll] at C); have M9 := rowBase M h_bo; clear M; (try clear C); have M := M9; clear M9; have C := M.ruleAll; simp only [Go.Proofs.YtocejggobgfccaaGreatDoor.ruleAll] at C))
      clear HB HLW
      go_loopw [21, 6] (fun i v wr => ∃ (m : Nat) (pp : Option Addr) (d : Nat), m ≤ ls.length ∧ i = .int .i64 (m : Int) ∧ v = .slice pp (nbT ns (nbF ls K) m).length d ∧ Mm no w wr [.row w.heap.size (.slice pp (nbT ns (nbF ls K) m).length d) (nbT ns (nbF ls K) m).length (nmR (nbT ns (nbF ls K) m)) 9 1, .box bb (bkA g1 c1 g2 c2 ns.length ls.length) 31, .rd g1 ns.length (nmF ns)]) (fun i _ _ => ls.length - (intOf i).toNat)
      case atStart => exact ⟨0, some ⟨bo, 0, none⟩, 0, by omega, rfl, rfl, M⟩
      case round =>
        obtain ⟨m, pp, dd, hm, rfl, rfl, M9⟩ := hrel
        clear M; (try clear C)
        have M := M9
        clear M9
        by_cases hlt : m < ls.length
        · have hlt' : (m : Int) < (ls.length : Int) := by omega
          have hltn : m < ns.length := HLEN.out m hlt
          have hltn' : (m : Int) < (ns.length : Int) := by omega
          have HQ1 := Hid2.mk (HQ.out m hlt)
          have HO1 := Hid2.mk (HO.out m hlt)
          have hA := nbT_len ns (nbF ls K) m
          generalize ls[m] = q at HQ1 HO1
          cases hf : nbF ls K m with
          | true =>
            have hy := nbT_yes (ns := ns) hf
            rw [hf] at HO1
            obtain ⟨x, hx⟩ : ∃ x, x = ns.getD m .empty := ⟨_, rfl⟩
            rw [← hx] at hy
            have hnx : nmF ns m = .string x := by rw [hx]; rfl
            have HY := Hid2.mk hy
            clear hx hy hf HQ HO
            generalize nbT ns (nbF ls K) m = A at *
            have C := M.ruleAll; simp only [Go.Proofs.YtocejggobgfccaaGreatDoor.ruleAll] at C
            go_wp2_with (first | (refine wpList_load_part rfl 50 _ rfl (g2) (m * 101) rfl (sqs q.n q.t) _ und_sqs rfl inf_sqs (HQ1.out _ M.below) ?_) | ((with_reducible apply wpM_alloc' M 50 (sqs 0 fun _ _ => 0)); rfl; exact ⟨rfl, _, zero_sqs _, rfl⟩; clear M; (try clear C); intro b8 w9 h_b8 M; have C := M.ruleAll; simp only [Go.Proofs.YtocejggobgfccaaGreatDoor.ruleAll] at C) | ((with_reducible apply wpM_sta' M 0 50 (sqs q.n q.t)); rfl; rfl; rfl; rfl; (first | exact .inl (by assumption) | exact .inr rfl | exact .inr (by assumption)); exact ⟨rfl, inf_sqs.trans (congrArg some (sqs_size ..).symm), flat_sqs _ _⟩; (simp only [entCells, List.getElem?_cons_zero, List.getElem?_cons_succ, sqs_size, sqs_size]); clear M; (try clear C); intro w9 M; simp only [List.set_cons_zero, List.set_cons_succ, entBlk, entT, List.getElem?_cons_zero, List.getElem?_cons_succ] at M; have C := M.ruleAll; simp only [Go.Proofs.YtocejggobgfccaaGreatDoor.ruleAll] at C) | ((with_reducible apply wpM_lda' M 0 50 0 (sqs q.n q.t)); rfl; rfl; rfl; exact ⟨rfl, inf_sqs.trans (congrArg some (sqs_size ..).symm), _, und_sqs, rfl⟩; exact whole_of rfl) | (go_at_call 23; ((with_reducible refine (HO1.out _ (HG.out _ M.below)).mono ?_); rintro e w1 ⟨rfl, hb⟩; have hsz := M.size; (try (have G9 := G.later hb; clear G; have G := G9; clear G9)); have M9 := M.later hb; clear M; (try clear C); have M := M9; clear M9; have C := M.ruleAll; simp only [Go.Proofs.YtocejggobgfccaaGreatDoor.ruleAll] at C)) | ((with_reducible apply wpM_bsl' M 22 1 9 ([(0, .string x)]) (#[.string x])); rfl; rfl; rfl; exact bsl_J1 _; clear M; (try clear C); intro bx w9 h_bx M; have C := M.ruleAll; simp only [Go.Proofs.YtocejggobgfccaaGreatDoor.ruleAll] at C) | ((with_reducible apply wpM_app' M 22 2 0 (w.heap.size) (.slice pp A.length dd) (A.length) (nmR A) 9 1 16); rfl; rfl; rfl; rfl; rfl; rfl; rfl; (first | exact .inl (Nat.le_refl _) | exact .inl (by assumption) | exact .inr (by assumption) | exact .inr HDv.out); (first | exact M.size | (have hq := M.size; omega)); exact und_slJ; exact inf_elJ; rfl; decide; decide; rfl; exact rfl; exact flat_J1 _; omega; clear M; (try clear C); intro v3 w9 far_v3 M; simp only [List.set_cons_zero, List.set_cons_succ, entBlk, entT, List.getElem?_cons_zero, List.getElem?_cons_succ] at M; obtain ⟨pp_v3, cap_v3, rfl⟩ := own_form (M.row 2 rfl); have C := M.ruleAll; simp only [Go.Proofs.YtocejggobgfccaaGreatDoor.ruleAll] at C))
            go_roundw
            case rel => exact ⟨m + 1, pp_v3, cap_v3, by omega, by go_num, by rw [HY.out, List.length_append]; rfl, by
              rw [HY.out, nmR_snoc, List.length_append]
              exact (M.sub [2, 3, 4] (by decide)).eq rfl⟩
            case measure => simp [intOf]; omega
          | false =>
            have hy := nbT_no (ns := ns) hf
            rw [hf] at HO1
            have HY := Hid2.mk hy
            clear hy hf HQ HO
            generalize nbT ns (nbF ls K) m = A at *
            have C := M.ruleAll; simp only [Go.Proofs.YtocejggobgfccaaGreatDoor.ruleAll] at C
            go_wp2_with (first | (refine wpList_load_part rfl 50 _ rfl (g2) (m * 101) rfl (sqs q.n q.t) _ und_sqs rfl inf_sqs (HQ1.out _ M.below) ?_) | ((with_reducible apply wpM_alloc' M 50 (sqs 0 fun _ _ => 0)); rfl; exact ⟨rfl, _, zero_sqs _, rfl⟩; clear M; (try clear C); intro b8 w9 h_b8 M; have C := M.ruleAll; simp only [Go.Proofs.YtocejggobgfccaaGreatDoor.ruleAll] at C) | ((with_reducible apply wpM_sta' M 0 50 (sqs q.n q.t)); rfl; rfl; rfl; rfl; (first | exact .inl (by assumption) | exact .inr rfl | exact .inr (by assumption)); exact ⟨rfl, inf_sqs.trans (congrArg some (sqs_size ..).symm), flat_sqs _ _⟩; (simp only [entCells, List.getElem?_cons_zero, List.getElem?_cons_succ, sqs_size, sqs_size]); clear M; (try clear C); intro w9 M; simp only [List.set_cons_zero, List.set_cons_succ, entBlk, entT, List.getElem?_cons_zero, List.getElem?_cons_succ] at M; have C := M.ruleAll; simp only [Go.Proofs.YtocejggobgfccaaGreatDoor.ruleAll] at C) | ((with_reducible apply wpM_lda' M 0 50 0 (sqs q.n q.t)); rfl; rfl; rfl; exact ⟨rfl, inf_sqs.trans (congrArg some (sqs_size ..).symm), _, und_sqs, rfl⟩; exact whole_of rfl) | (go_at_call 23; ((with_reducible refine (HO1.out _ (HG.out _ M.below)).mono ?_); rintro e w1 ⟨rfl, hb⟩; have hsz := M.size; (try (have G9 := G.later hb; clear G; have G := G9; clear G9)); have M9 := M.later hb; clear M; (try clear C); have M := M9; clear M9; have C := M.ruleAll; simp only [Go.Proofs.YtocejggobgfccaaGreatDoor.ruleAll] at C)))
            go_roundw
            case rel => exact ⟨m + 1, pp, dd, by omega, by go_num, by rw [HY.out], by rw [HY.out]; exact M.drop 0⟩
            case measure => simp [intOf]; omega
        · obtain rfl : m = ls.length := by omega
          have hge : ¬ ((ls.length : Int) < (ls.length : Int)) := by omega
          clear HQ HO
          generalize nbT ns (nbF ls K) ls.length = A at *
          have C := M.ruleAll; simp only [Go.Proofs.YtocejggobgfccaaGreatDoor.ruleAll] at C
          go_wp2
          go_ret2
          unfold NbPost
          rw [HR.out, HC.out]
          exact ⟨pp, dd, rfl, (M.sub [0] (by decide)).eq rfl⟩
    · have HC := Hid2.mk (show nbC ns ls k = 2 by unfold nbC; rw [if_pos hb1, if_neg hk])
      have HLW := fun w1 => isLaw_any k false (by simp; omega) w1
      clear h h1 hc hb1 hg hk
      go_enter Tryz.func7, Tryz.ntmps7
      go_wp2_with (first | ((with_reducible apply wpM_box' M 31 (bkA g1 c1 g2 c2 ns.length ls.length)); rfl; exact ⟨rfl, rfl⟩; clear M; (try clear C); intro bb w9 h_bb M; have C := M.ruleAll; simp only [Go.Proofs.YtocejggobgfccaaGreatDoor.ruleAll] at C) | ((with_reducible apply wpM_lda' M 0 31 0 (bkA g1 c1 g2 c2 ns.length ls.length)); rfl; rfl; rfl; exact ⟨rfl, inf_bok.trans (congrArg some (bok_size ..).symm), _, und_bok, rfl⟩; exact whole_of rfl) | (go_at_call 21; ((with_reducible refine (HB _ M.below).mono ?_); rintro e w1 ⟨rfl, hb⟩; have hsz := M.size; (try (have G9 := G.later hb; clear G; have G := G9; clear G9)); have M9 := M.later hb; clear M; (try clear C); have M := M9; clear M9; have C := M.ruleAll; simp only [Go.Proofs.YtocejggobgfccaaGreatDoor.ruleAll] at C)) | (go_at_call 22; ((with_reducible refine (HLW _).mono ?_); rintro e w1 ⟨rfl, rfl⟩)))
      go_ret2
      exact NbPost.err HC.out (by decide) M.below

set_option maxRecDepth 100000 in
set_option maxHeartbeats 4000000 in
theorem specNamesByLaw_any {ns : List ByteArray} {ls : List Sqr} (h : BkIn ns ls) (k : Int) (w : World) {g1 g2 : Nat} (h1 : BkHere ns ls w g1 g2) (c1 c2 : Nat) :
    Calls Tryz.prog 5 #[.agg (bkA g1 c1 g2 c2 ns.length ls.length), .int .i64 k] w (NbPost (nbL ns ls k) (nbC ns ls k) w) := by
  have M := Mm.start no w
  have k0 : (bkA g1 c1 g2 c2 ns.length ls.length)[0]? = some (.slice (some ⟨g1, 0, none⟩) ns.length c1) := rfl
  have k1 : (bkA g1 c1 g2 c2 ns.length ls.length)[1]? = some (.slice (some ⟨g2, 0, none⟩) ls.length c2) := rfl
  have HB := fun w1 (hb : Below w.heap.size w w1) => l11IsP_any h w1 (h1.later hb) c1 c2
  have hnb := h.n
  cases hb1 : isBk ns ls with
  | false =>
    have HC := Hid2.mk (show nbC ns ls k = 1 by unfold nbC; rw [if_neg (by rw [hb1]; decide)])
    simp only [hb1] at HB
    clear h h1 hb1
    go_enter Tryz.func5, Tryz.ntmps5
    go_wp2_with (first | ((with_reducible apply wpM_box' M 31 (bkA g1 c1 g2 c2 ns.length ls.length)); rfl; exact ⟨rfl, rfl⟩; clear M; (try clear C); intro bb w9 h_bb M; have C := M.ruleAll; simp only [Go.Proofs.YtocejggobgfccaaGreatDoor.ruleAll] at C) | ((with_reducible apply wpM_lda' M 0 31 0 (bkA g1 c1 g2 c2 ns.length ls.length)); rfl; rfl; rfl; exact ⟨rfl, inf_bok.trans (congrArg some (bok_size ..).symm), _, und_bok, rfl⟩; exact whole_of rfl) | (go_at_call 15; ((with_reducible refine (HB _ M.below).mono ?_); rintro e w1 ⟨rfl, hb⟩; have hsz := M.size; (try (have G9 := G.later hb; clear G; have G := G9; clear G9)); have M9 := M.later hb; clear M; (try clear C); have M := M9; clear M9; have C := M.ruleAll; simp only [Go.Proofs.YtocejggobgfccaaGreatDoor.ruleAll] at C)))
    go_ret2
    exact NbPost.err HC.out (by decide) M.below
  | true =>
    simp only [hb1] at HB
    by_cases hk : 0 ≤ k ∧ k ≤ 19
    · have HC := Hid2.mk (show nbC ns ls k = 0 by unfold nbC; rw [if_pos hb1, if_pos hk])
      have HLW := fun w1 => l07Number_any k true (by simp [hk]) w1
      obtain ⟨K, rfl⟩ : ∃ K : Nat, k = K := ⟨k.toNat, by omega⟩
      have hK : K < 20 := by omega
      have HR := Hid2.mk (show nbL ns ls (K : Int) = nbT ns (nbF ls K) ns.length by unfold nbL; rw [if_pos HC.out, Int.toNat_natCast])
      have HLEN := Hid2.mk (show ∀ m, m < ns.length → m < ls.length from fun m h => by rw [isBk_len2 hb1]; exact h)
      have HT := Hid2.mk (fun w1 => l07Law_any K hK w1)
      have HQ := Hid2.mk (fun (j : Nat) (hj : j < ls.length) w1 (hb : Below w.heap.size w w1) => sq_cells (h1.later hb).r2 hj)
      have HO := Hid2.mk (fun (j : Nat) (hj : j < ls.length) (w1 : World) (pa : Option Addr) (ca : Nat) (pb : Option Addr) (cb : Nat) (r1 : rdq w1 pa (lawI K).1.length (bytF (lawI K).1)) (r2 : rdq w1 pb (lawI K).2.length (bytF (lawI K).2)) => (show Calls Tryz.prog 18 #[.agg (sqs ls[j].n ls[j].t), .agg (idV pa ca pb cb (lawI K).1.length (lawI K).2.length)] w1 fun e w' => e = .returned (.bool (nbF ls K j)) ∧ Below w1.heap.size w1 w' from by
        have hq := isBk_loop h hb1 ls[j] (List.getElem_mem hj)
        have s1 := isSq_true.1 hq.2
        have e1 : ((ls[j].n.toNat : Nat) : Int) = ls[j].n := Int.toNat_of_nonneg (by have := s1.lo; omega)
        have h := l03Holds_any ls[j].n.toNat ls[j].t (by rw [e1]; exact s1) (lawI K).1 (lawI K).2 (lawI_tm hK).1 (lawI_tm hK).2 w1 pa pb ca cb r1 r2
        rw [e1] at h
        have e2 : nbF ls K j = holdsB ls[j].n.toNat ls[j].t (lawI K).1 (lawI K).2 := by unfold nbF lawB; rw [getD_at hj]
        rw [e2]
        exact h))
      have M9 := M.add (x := .rd g1 ns.length (nmF ns)) h1.r1 fun _ h => by cases h
      clear M h h1 hb1 hk hK
      generalize (lawI K).1 = xs at HT HO
      generalize (lawI K).2 = ys at HT HO
      have M := M9
      clear M9
      go_enter Tryz.func5, Tryz.ntmps5
      go_wp2_with (first | ((with_reducible apply wpM_box' M 31 (bkA g1 c1 g2 c2 ns.length ls.length)); rfl; exact ⟨rfl, rfl⟩; clear M; (try clear C); intro bb w9 h_bb M; have C := M.ruleAll; simp only [Go.Proofs.YtocejggobgfccaaGreatDoor.ruleAll] at C) | ((with_reducible apply wpM_lda' M 0 31 0 (bkA g1 c1 g2 c2 ns.length ls.length)); rfl; rfl; rfl; exact ⟨rfl, inf_bok.trans (congrArg some (bok_size ..).symm), _, und_bok, rfl⟩; exact whole_of rfl) | (go_at_call 15; ((with_reducible refine (HB _ M.below).mono ?_); rintro e w1 ⟨rfl, hb⟩; have hsz := M.size; (try (have G9 := G.later hb; clear G; have G := G9; clear G9)); have M9 := M.later hb; clear M; (try clear C); have M := M9; clear M9; have C := M.ruleAll; simp only [Go.Proofs.YtocejggobgfccaaGreatDoor.ruleAll] at C)) | (go_at_call 16; ((with_reducible refine (HLW _).mono ?_); rintro e w1 ⟨rfl, rfl⟩)) | (go_at_call 17; fail))
      refine (HT.out _).mono ?_
      rintro e w1 ⟨p1, d1, p2, d2, rfl, M'⟩
      have M9 := (M.joinRows M').weakRows M.size M.size
      clear M; (try clear C)
      have M := M9
      clear M9 M' HB HLW HT
      have C := M.ruleAll; simp only [Go.Proofs.YtocejggobgfccaaGreatDoor.ruleAll] at C
      go_wp2_with (first | (((with_reducible apply wpM_bsl' M 22 0 9 ([]) (#[])); rfl; rfl; rfl; exact bsl_J0; clear M; (try clear C); intro bo w9 h_bo M; have C := M.ruleAll; simp only [Go.Proofs.YtocejggobgfccaaGreatDoor.ruleAll] at C); have M9 := rowBase M h_bo; clear M; (try clear C); have M := M9; clear M9; have C := M.ruleAll; simp only [Go.Proofs.YtocejggobgfccaaGreatDoor.ruleAll] at C) | ((with_reducible apply wpM_alloc' M 43 (idV none 0 none 0 0 0)); rfl; exact ⟨rfl, _, zero_idn _, rfl⟩; clear M; (try clear C); intro b6 w9 h_b6 M; have C := M.ruleAll; simp only [Go.Proofs.YtocejggobgfccaaGreatDoor.ruleAll] at C) | ((with_reducible apply wpM_sta' M 0 43 (idV p1 d1 p2 d2 xs.length ys.length)); rfl; rfl; rfl; rfl; (first | exact .inl (by assumption) | exact .inr rfl | exact .inr (by assumption)); exact ⟨rfl, inf_idn.trans (congrArg some (idv_size ..).symm), flat_idv _ _ _ _ _ _⟩; (simp only [entCells, List.getElem?_cons_zero, List.getElem?_cons_succ, idv_size, idv_size]); clear M; (try clear C); intro w9 M; simp only [List.set_cons_zero, List.set_cons_succ, entBlk, entT, List.getElem?_cons_zero, List.getElem?_cons_succ] at M; have C := M.ruleAll; simp only [Go.Proofs.YtocejggobgfccaaGreatDoor.ruleAll] at C))
      go_loopw [8, 7] (fun i v wr => ∃ (m : Nat) (pp : Option Addr) (d : Nat), m ≤ ns.length ∧ i = .int .i64 (m : Int) ∧ v = .slice pp (nbT ns (nbF ls K) m).length d ∧ Mm no w wr [.box b6 (idV p1 d1 p2 d2 xs.length ys.length) 43, .row w.heap.size (.slice pp (nbT ns (nbF ls K) m).length d) (nbT ns (nbF ls K) m).length (nmR (nbT ns (nbF ls K) m)) 9 1, .row w.heap.size (.slice p1 xs.length d1) xs.length (u8s xs) 5 1, .row w.heap.size (.slice p2 ys.length d2) ys.length (u8s ys) 5 1, .box bb (bkA g1 c1 g2 c2 ns.length ls.length) 31, .rd g1 ns.length (nmF ns)]) (fun i _ _ => ns.length - (intOf i).toNat)
      case atStart => exact ⟨0, some ⟨bo, 0, none⟩, 0, by omega, rfl, rfl, M⟩
      case round =>
        obtain ⟨m, pp, dd, hm, rfl, rfl, M9⟩ := hrel
        clear M; (try clear C)
        have M := M9
        clear M9
        by_cases hlt : m < ns.length
        · have hlt' : (m : Int) < (ns.length : Int) := by omega
          have dlt : decide ((m : Int) < (ns.length : Int)) = true := decide_eq_true hlt'
          have hltn : m < ls.length := HLEN.out m hlt
          have hltn' : (m : Int) < (ls.length : Int) := by omega
          have HQ1 := Hid2.mk (HQ.out m hltn)
          have HO1 := Hid2.mk (HO.out m hltn)
          have hA := nbT_len ns (nbF ls K) m
          generalize ls[m] = q at HQ1 HO1
          cases hf : nbF ls K m with
          | true =>
            have hy := nbT_yes (ns := ns) hf
            rw [hf] at HO1
            obtain ⟨x, hx⟩ : ∃ x, x = ns.getD m .empty := ⟨_, rfl⟩
            rw [← hx] at hy
            have hnx : nmF ns m = .string x := by rw [hx]; rfl
            have HY := Hid2.mk hy
            clear hx hy hf HQ HO
            generalize nbT ns (nbF ls K) m = A at *
            have C := M.ruleAll; simp only [Go.Proofs.YtocejggobgfccaaGreatDoor.ruleAll] at C
            go_wp2
            apply wp_region_mm M 6 (by kernel_rfl) (by kernel_rfl); (simp only [List.take_succ_cons, List.take_zero]; repeat (first | exact wpText_nil | (apply wpText_cons; (intro w2 M; have C := M.ruleAll; simp only [Go.Proofs.YtocejggobgfccaaGreatDoor.ruleAll] at C; go_wp2_with (first | (refine wpList_load_part rfl 50 _ rfl (g2) (m * 101) rfl (sqs q.n q.t) _ und_sqs rfl inf_sqs (HQ1.out _ M.below) ?_) | ((with_reducible apply wpM_lda' M 0 43 0 (idV p1 d1 p2 d2 xs.length ys.length)); rfl; rfl; rfl; exact ⟨rfl, inf_idn.trans (congrArg some (idv_size ..).symm), _, und_idn, rfl⟩; exact whole_of rfl)); exact ⟨rfl, rfl, M⟩); rfl))); (clear M; (try clear C); intro w2 M; simp only [List.drop_succ_cons, List.drop_zero]; have C := M.ruleAll; simp only [Go.Proofs.YtocejggobgfccaaGreatDoor.ruleAll] at C)
            go_wp2_with (first | (go_at_call 18; ((with_reducible refine (HO1.out _ _ _ _ _ (u8_rdq rfl (M.row 2 rfl)) (u8_rdq rfl (M.row 3 rfl))).mono ?_); rintro e w1 ⟨rfl, hb⟩; have hsz := M.size; (try (have G9 := G.later hb; clear G; have G := G9; clear G9)); have M9 := M.later hb; clear M; (try clear C); have M := M9; clear M9; have C := M.ruleAll; simp only [Go.Proofs.YtocejggobgfccaaGreatDoor.ruleAll] at C)) | ((with_reducible apply wpM_bsl' M 22 1 9 ([(0, .string x)]) (#[.string x])); rfl; rfl; rfl; exact bsl_J1 _; clear M; (try clear C); intro bx w9 h_bx M; have C := M.ruleAll; simp only [Go.Proofs.YtocejggobgfccaaGreatDoor.ruleAll] at C) | ((with_reducible apply wpM_app' M 22 2 0 (w.heap.size) (.slice pp A.length dd) (A.length) (nmR A) 9 1 16); rfl; rfl; rfl; rfl; rfl; rfl; rfl; (first | exact .inl (Nat.le_refl _) | exact .inl (by assumption) | exact .inr (by assumption) | exact .inr HDv.out); (first | exact M.size | (have hq := M.size; omega)); exact und_slJ; exact inf_elJ; rfl; decide; decide; rfl; exact rfl; exact flat_J1 _; omega; clear M; (try clear C); intro v3 w9 far_v3 M; simp only [List.set_cons_zero, List.set_cons_succ, entBlk, entT, List.getElem?_cons_zero, List.getElem?_cons_succ] at M; obtain ⟨pp_v3, cap_v3, rfl⟩ := own_form (M.row 2 rfl); have C := M.ruleAll; simp only [Go.Proofs.YtocejggobgfccaaGreatDoor.ruleAll] at C))
            go_roundw
            case rel => exact ⟨m + 1, pp_v3, cap_v3, by omega, by go_num, by rw [HY.out, List.length_append]; rfl, by
              rw [HY.out, nmR_snoc, List.length_append]
              exact (M.drop 0).eq rfl⟩
            case measure => simp [intOf]; omega
          | false =>
            have hy := nbT_no (ns := ns) hf
            rw [hf] at HO1
            have HY := Hid2.mk hy
            clear hy hf HQ HO
            generalize nbT ns (nbF ls K) m = A at *
            have C := M.ruleAll; simp only [Go.Proofs.YtocejggobgfccaaGreatDoor.ruleAll] at C
            go_wp2
            apply wp_region_mm M 6 (by kernel_rfl) (by kernel_rfl); (simp only [List.take_succ_cons, List.take_zero]; repeat (first | exact wpText_nil | (apply wpText_cons; (intro w2 M; have C := M.ruleAll; simp only [Go.Proofs.YtocejggobgfccaaGreatDoor.ruleAll] at C; go_wp2_with (first | (refine wpList_load_part rfl 50 _ rfl (g2) (m * 101) rfl (sqs q.n q.t) _ und_sqs rfl inf_sqs (HQ1.out _ M.below) ?_) | ((with_reducible apply wpM_lda' M 0 43 0 (idV p1 d1 p2 d2 xs.length ys.length)); rfl; rfl; rfl; exact ⟨rfl, inf_idn.trans (congrArg some (idv_size ..).symm), _, und_idn, rfl⟩; exact whole_of rfl)); exact ⟨rfl, rfl, M⟩); rfl))); (clear M; (try clear C); intro w2 M; simp only [List.drop_succ_cons, List.drop_zero]; have C := M.ruleAll; simp only [Go.Proofs.YtocejggobgfccaaGreatDoor.ruleAll] at C)
            go_wp2_with (first | (go_at_call 18; ((with_reducible refine (HO1.out _ _ _ _ _ (u8_rdq rfl (M.row 2 rfl)) (u8_rdq rfl (M.row 3 rfl))).mono ?_); rintro e w1 ⟨rfl, hb⟩; have hsz := M.size; (try (have G9 := G.later hb; clear G; have G := G9; clear G9)); have M9 := M.later hb; clear M; (try clear C); have M := M9; clear M9; have C := M.ruleAll; simp only [Go.Proofs.YtocejggobgfccaaGreatDoor.ruleAll] at C)))
            go_roundw
            case rel => exact ⟨m + 1, pp, dd, by omega, by go_num, by rw [HY.out], by rw [HY.out]; exact M⟩
            case measure => simp [intOf]; omega
        · obtain rfl : m = ns.length := by omega
          have hge : ¬ ((ns.length : Int) < (ns.length : Int)) := by omega
          clear HQ HO
          generalize nbT ns (nbF ls K) ns.length = A at *
          have C := M.ruleAll; simp only [Go.Proofs.YtocejggobgfccaaGreatDoor.ruleAll] at C
          go_wp2
          go_ret2
          unfold NbPost
          rw [HR.out, HC.out]
          exact ⟨pp, dd, rfl, (M.sub [1] (by decide)).eq rfl⟩
    · have HC := Hid2.mk (show nbC ns ls k = 2 by unfold nbC; rw [if_pos hb1, if_neg hk])
      have HLW := fun w1 => l07Number_any k false (by simp; omega) w1
      clear h h1 hb1 hk
      go_enter Tryz.func5, Tryz.ntmps5
      go_wp2_with (first | ((with_reducible apply wpM_box' M 31 (bkA g1 c1 g2 c2 ns.length ls.length)); rfl; exact ⟨rfl, rfl⟩; clear M; (try clear C); intro bb w9 h_bb M; have C := M.ruleAll; simp only [Go.Proofs.YtocejggobgfccaaGreatDoor.ruleAll] at C) | ((with_reducible apply wpM_lda' M 0 31 0 (bkA g1 c1 g2 c2 ns.length ls.length)); rfl; rfl; rfl; exact ⟨rfl, inf_bok.trans (congrArg some (bok_size ..).symm), _, und_bok, rfl⟩; exact whole_of rfl) | (go_at_call 15; ((with_reducible refine (HB _ M.below).mono ?_); rintro e w1 ⟨rfl, hb⟩; have hsz := M.size; (try (have G9 := G.later hb; clear G; have G := G9; clear G9)); have M9 := M.later hb; clear M; (try clear C); have M := M9; clear M9; have C := M.ruleAll; simp only [Go.Proofs.YtocejggobgfccaaGreatDoor.ruleAll] at C)) | (go_at_call 16; ((with_reducible refine (HLW _).mono ?_); rintro e w1 ⟨rfl, rfl⟩)))
      go_ret2
      exact NbPost.err HC.out (by decide) M.below
end Go.Proofs.YtocejggobgfccaaGreatDoor

/- The law on the names of the loops in which a law holds: its walk. -/
namespace Go.Proofs.YtocejggobgfccaaGreatDoor
set_option linter.unusedSimpArgs false
set_option linter.unusedVariables false
open Go Go.RowKit

set_option maxRecDepth 100000 in
set_option maxHeartbeats 4000000 in
theorem lawNamesByLaw_any (ns : List ByteArray) (ls : List Sqr) (k : Int) (hn : ns.length ≤ maxLen) (hm : ls.length ≤ maxLen) (hs : ∀ x ∈ ns, x.size ≤ maxLen) (hby : ∀ q ∈ ls, Byt2 q.t) (w : World) (hg : glb w) (p1 p2 : Option Addr) (c1 c2 : Nat)
    (hr1 : rdp w p1 ns.length (nmF ns)) (hr2 : rdp w p2 (ls.length * 101) (fun j => (slC ls).getD j undef)) :
    Calls Tryz.prog 3 #[.agg (bkV p1 c1 p2 c2 ns.length ls.length), .int .i64 k] w fun e w' => e = .returned (.bool true) ∧ Below w.heap.size w w' := by
  have M := Mm.start no w
  have HS := fun w1 (hb : Below w.heap.size w w1) => szBook_any ns hn hs ls.length hm w1 p1 p2 c1 c2 1048576 (by omega) (by omega) (hr1.later hb)
  have R1 := Hid2.mk (fun w1 (hb : Below w.heap.size w w1) => hr1.later hb)
  have R2 := Hid2.mk (fun w1 (hb : Below w.heap.size w w1) => hr2.later hb)
  have HG := Hid2.mk (fun w1 (hb : Below w.heap.size w w1) => hg.later hb)
  have HBY := Hid2.mk hby
  clear hr1 hr2 hs hby hg
  go_enter Tryz.func3, Tryz.ntmps3
  go_wp2_with (first | ((with_reducible apply wpM_box' M 25 (bkV p1 c1 p2 c2 ns.length ls.length)); rfl; exact ⟨rfl, rfl⟩; clear M; (try clear C); intro bb w9 h_bb M; have C := M.ruleAll; simp only [Go.Proofs.YtocejggobgfccaaGreatDoor.ruleAll] at C) | ((with_reducible apply wpM_lda' M 0 25 0 (bkV p1 c1 p2 c2 ns.length ls.length)); rfl; rfl; rfl; exact ⟨rfl, inf_bk0.trans (congrArg some (bkv_size ..).symm), _, und_bk0, rfl⟩; exact whole_of rfl) | (go_at_call 4; fail))
  refine (HS _ M.below).mono ?_
  rintro e w1 ⟨r, rfl, hr, hb⟩
  have M9 := M.later hb
  clear M; (try clear C)
  have M := M9
  clear M9 hb
  have C := M.ruleAll; simp only [Go.Proofs.YtocejggobgfccaaGreatDoor.ruleAll] at C
  clear HS
  by_cases hneg : r < 0
  · go_wp2
    go_ret
    exact ⟨rfl, M.below⟩
  obtain ⟨_, q1, q2, q3⟩ := hr (by omega)
  have HB : BkIn ns ls := ⟨by omega, by omega, fun x hx => by have := q2 x hx; omega, HBY.out⟩
  clear hr q2
  have HT := fun w1 (hb : Below w.heap.size w w1) => toBook_any ns ls HB.n HB.m w1 p1 p2 c1 c2 (R1.out w1 hb) (R2.out w1 hb)
  have HS := Hid2.mk (fun w1 g1 g2 (h : BkHere ns ls w1 g1 g2) => specNamesByLaw_any HB k w1 h ns.length ls.length)
  have HP := Hid2.mk (fun w1 (hgl : glb w1) g1 g2 (h : BkHere ns ls w1 g1 g2) => implNamesByLaw_any HB k w1 hgl h ns.length ls.length (Nat.le_refl _))
  have HE := Hid2.mk (fun w1 g1 g2 g3 g4 (h : BkHere ns ls w1 g1 g2) (h' : BkHere ns ls w1 g3 g4) => eqBookA_any HB w1 h h' ns.length ls.length ns.length ls.length)
  have hN : (nbL ns ls k).length ≤ 1048576 := Nat.le_trans (nbL_len ns ls k) HB.n
  generalize nbL ns ls k = N at *
  generalize nbC ns ls k = d at *
  have HES := Hid2.mk (fun w1 pa pb ca cb h1 h2 => eqStringS_any N (by omega) w1 pa pb ca cb h1 h2)
  have hdd : (d == d) = true := by simp
  -- the reference
  go_wp2_with (first | ((with_reducible apply wpM_lda' M 0 25 0 (bkV p1 c1 p2 c2 ns.length ls.length)); rfl; rfl; rfl; exact ⟨rfl, inf_bk0.trans (congrArg some (bkv_size ..).symm), _, und_bk0, rfl⟩; exact whole_of rfl) | (go_at_call 6; fail))
  refine (HT _ M.below).mono ?_
  rintro e w1 ⟨g1, g2, cs1, cs2, rfl, hg1, hg2, hs1, hs2, M'⟩
  have M9 := M.join2 M' (new_box2 hg1 hg2)
  clear M; (try clear C)
  have M := M9
  clear M9 M'
  have C := M.ruleAll; simp only [Go.Proofs.YtocejggobgfccaaGreatDoor.ruleAll] at C
  go_wp2_with (first | (go_at_call 5; fail))
  refine (HS.out _ _ _ (BkHere.of M 0 1 (by decide) rfl rfl hs1 hs2)).mono ?_
  rintro e w1 ⟨pA, cA, rfl, M'⟩
  have M9 := M.joinRow M'
  clear M; (try clear C)
  have M := M9
  clear M9 M'
  have C := M.ruleAll; simp only [Go.Proofs.YtocejggobgfccaaGreatDoor.ruleAll] at C
  -- the argument's copy and the program
  go_wp2_with (first | ((with_reducible apply wpM_lda' M 3 25 0 (bkV p1 c1 p2 c2 ns.length ls.length)); rfl; rfl; rfl; exact ⟨rfl, inf_bk0.trans (congrArg some (bkv_size ..).symm), _, und_bk0, rfl⟩; exact whole_of rfl) | (go_at_call 6; fail))
  refine (HT _ M.below).mono ?_
  rintro e w1 ⟨g3, g4, cs3, cs4, rfl, hgg3, hgg4, hs3, hs4, M'⟩
  have hzg3 := M.size
  have M9 := M.join2 M' (new_box2 hgg3 hgg4)
  clear M; (try clear C)
  have M := M9
  clear M9 M'
  have C := M.ruleAll; simp only [Go.Proofs.YtocejggobgfccaaGreatDoor.ruleAll] at C
  go_wp2_with (first | ((with_reducible apply wpM_alloc' M 31 (bkZ)); rfl; exact ⟨rfl, _, zero_bok _, rfl⟩; clear M; (try clear C); intro b8 w9 h_b8 M; have C := M.ruleAll; simp only [Go.Proofs.YtocejggobgfccaaGreatDoor.ruleAll] at C) | ((with_reducible apply wpM_sta' M 0 31 (bkA g3 ns.length g4 ls.length ns.length ls.length)); rfl; rfl; rfl; rfl; (first | exact .inl (by assumption) | exact .inr rfl | exact .inr (by assumption)); exact ⟨rfl, inf_bok.trans (congrArg some (bok_size ..).symm), flat_bok _ _ _ _ _ _⟩; (simp only [entCells, List.getElem?_cons_zero, List.getElem?_cons_succ, bok_size, bkz_size]); clear M; (try clear C); intro w9 M; simp only [List.set_cons_zero, List.set_cons_succ, entBlk, entT, List.getElem?_cons_zero, List.getElem?_cons_succ] at M; have C := M.ruleAll; simp only [Go.Proofs.YtocejggobgfccaaGreatDoor.ruleAll] at C) | ((with_reducible apply wpM_lda' M 0 31 0 (bkA g3 ns.length g4 ls.length ns.length ls.length)); rfl; rfl; rfl; exact ⟨rfl, inf_bok.trans (congrArg some (bok_size ..).symm), _, und_bok, rfl⟩; exact whole_of rfl) | (go_at_call 7; fail))
  refine (HP.out _ (HG.out _ M.below) _ _ (BkHere.of M 1 2 (by decide) rfl rfl hs3 hs4)).mono ?_
  rintro e w1 ⟨pC, cC, rfl, M'⟩
  have M9 := M.joinRow M'
  clear M; (try clear C)
  have M := M9
  clear M9 M'
  have C := M.ruleAll; simp only [Go.Proofs.YtocejggobgfccaaGreatDoor.ruleAll] at C
  go_wp2_with (first | (go_at_call 8; ((with_reducible refine (HES.out _ _ _ _ _ (nmR_rdq (M.row 0 rfl)) (nmR_rdq (M.row 4 rfl))).mono ?_); rintro e w1 ⟨rfl, hb⟩; have hsz := M.size; (try (have G9 := G.later hb; clear G; have G := G9; clear G9)); have M9 := M.later hb; clear M; (try clear C); have M := M9; clear M9; have C := M.ruleAll; simp only [Go.Proofs.YtocejggobgfccaaGreatDoor.ruleAll] at C)))
  apply wp_region_mmf1 M [0, 1] 2 3 _ (StBk ns ls) (by kernel_rfl) (by kernel_rfl) rfl rfl rfl
  case ht => (repeat (first | exact wpTextG_nil | (apply wpTextG_cons; (intro g9 w2 hG; obtain ⟨Lg9, hSt9, G⟩ := hG; have M := G.suffix; have C := M.ruleAll; simp only [Go.Proofs.YtocejggobgfccaaGreatDoor.ruleAll] at C; go_wp2_with (first | ((with_reducible apply wpM_lda' M 1 31 0 (bkA g3 ns.length g4 ls.length ns.length ls.length)); rfl; rfl; rfl; exact ⟨rfl, inf_bok.trans (congrArg some (bok_size ..).symm), _, und_bok, rfl⟩; exact whole_of rfl) | ((with_reducible apply wpM_lda' M 7 25 0 (bkV p1 c1 p2 c2 ns.length ls.length)); rfl; rfl; rfl; exact ⟨rfl, inf_bk0.trans (congrArg some (bkv_size ..).symm), _, und_bk0, rfl⟩; exact whole_of rfl)); exact ⟨rfl, rfl, Lg9, hSt9, G⟩); rfl)))
  case hA =>
    intro Lg w2 h M
    obtain rfl : Lg = [] := h
    refine yield_walk (ops := #[]) rfl rfl (by simp [Act.put]) ?_
    simp only [List.nil_append] at M
    go_wp2_with (first | (go_at_call 6; fail))
    refine (HT _ M.below).mono ?_
    rintro e w1 ⟨g5, g6, cs5, cs6, rfl, hg5, hg6, hs5, hs6, M'⟩
    have M9 := M.join2 M' (new_box2 hg5 hg6)
    go_wp2
    exact ⟨_, ⟨g5, g6, cs5, cs6, rfl, hs5, hs6, rfl⟩, M9⟩
  clear M; (try clear C)
  intro v Lg w2 h M
  obtain ⟨g5, g6, cs5, cs6, rfl, hs5, hs6, rfl⟩ := h
  simp only [List.drop_succ_cons, List.drop_zero, List.cons_append, List.nil_append] at M ⊢
  go_wp2_with (first | (go_at_call 9; ((with_reducible refine (HE.out _ _ _ _ _ (BkHere.of M 4 5 (by decide) rfl rfl hs3 hs4) (BkHere.of M 0 1 (by decide) rfl rfl hs5 hs6)).mono ?_); rintro e w1 ⟨rfl, hb⟩; have hsz := M.size; (try (have G9 := G.later hb; clear G; have G := G9; clear G9)); have M9 := M.later hb; clear M; (try clear C); have M := M9; clear M9; have C := M.ruleAll; simp only [Go.Proofs.YtocejggobgfccaaGreatDoor.ruleAll] at C)) | (go_at_call 10; fail) | ((have M9 := M); clear M9; ((with_reducible apply wpM_lda' M 3 31 0 (bkA g3 ns.length g4 ls.length ns.length ls.length)); rfl; rfl; rfl; exact ⟨rfl, inf_bok.trans (congrArg some (bok_size ..).symm), _, und_bok, rfl⟩; exact whole_of rfl)))
  have M9 := (M.asRow 4 rfl w.heap.size ns.length 1 (Nat.le_trans hzg3 hgg3) (by rw [hs3.1, Nat.mul_one]) hn).asRow 5 rfl w.heap.size ls.length 101 (Nat.le_trans hzg3 hgg4) hs4.1 hm
  simp only [List.set_cons_zero, List.set_cons_succ] at M9
  have M8 := M9.sub [4, 5, 2, 3, 6, 7, 8, 9] (by decide)
  simp only [List.filterMap_cons, List.filterMap_nil, List.getElem?_cons_succ, List.getElem?_cons_zero] at M8
  clear M; (try clear C)
  have M := M8
  clear M8 M9
  have C := M.ruleAll; simp only [Go.Proofs.YtocejggobgfccaaGreatDoor.ruleAll] at C
  refine (markBook_any w.heap.size ns.length ls.length ns.length ls.length (some ⟨g3, 0, none⟩) (some ⟨g4, 0, none⟩) cs3.toList cs4.toList 1 HB.n HB.m (by omega) _ (M.sub [0, 1] (by decide)).anew).mono ?_
  rintro e w2 ⟨rfl, ys1, ys2, hy1, hy2, M'⟩
  have M9 := M.markd (Nat.le_refl _) M'
  clear M; (try clear C)
  have M := M9
  clear M9 M' hy1 hy2
  have C := M.ruleAll; simp only [Go.Proofs.YtocejggobgfccaaGreatDoor.ruleAll] at C
  have hk1 : ¬ ((1 + ns.length + ls.length : Nat) : Int) < 0 := by omega
  generalize ((1 + ns.length + ls.length : Nat) : Int) = kk1 at hk1 ⊢
  have hd1 : decide (kk1 < 0) = false := decide_eq_false hk1
  go_wp2_with (first | (go_at_call 8; ((with_reducible refine (HES.out _ _ _ _ _ (nmR_rdq (M.row 2 rfl)) (nmR_rdq (M.row 4 rfl))).mono ?_); rintro e w1 ⟨rfl, hb⟩; have hsz := M.size; (try (have G9 := G.later hb; clear G; have G := G9; clear G9)); have M9 := M.later hb; clear M; (try clear C); have M := M9; clear M9; have C := M.ruleAll; simp only [Go.Proofs.YtocejggobgfccaaGreatDoor.ruleAll] at C)) | (go_at_call 11; fail))
  refine (markStrR_any _ _ N.length (nmR N) 1 hN (by omega) _ (M.row 2 rfl)).mono ?_
  rintro e w3 ⟨rfl, ys, hy, M'⟩
  have M9 := M.rowmark 2 rfl (Nat.le_refl _) M'.kept (M'.row 0 rfl)
  simp only [List.set_cons_zero, List.set_cons_succ] at M9
  clear M; (try clear C)
  have M := M9
  clear M9 M'
  have C := M.ruleAll; simp only [Go.Proofs.YtocejggobgfccaaGreatDoor.ruleAll] at C
  have HHB := Hid2.mk (fun w1 h1 => heldStr_any pC N.length cC 1 hN (by omega) w1 h1)
  have HY := Hid2.mk hy
  clear hy
  have hk2 : ¬ ((1 + N.length : Nat) : Int) < 0 := by omega
  have e1 : ((1 : Nat) : Int) = 1 := rfl
  rw [e1] at HHB
  generalize ((1 + N.length : Nat) : Int) = kk2 at hk2 HHB ⊢
  have hkk : (kk2 == kk2) = true := by simp
  go_wp2_with (first | (go_at_call 12; ((with_reducible refine (HHB.out _ (mkdS_rdq HY.out (M.row 2 rfl))).mono ?_); rintro e w1 ⟨rfl, hb⟩; have hsz := M.size; (try (have G9 := G.later hb; clear G; have G := G9; clear G9)); have M9 := M.later hb; clear M; (try clear C); have M := M9; clear M9; have C := M.ruleAll; simp only [Go.Proofs.YtocejggobgfccaaGreatDoor.ruleAll] at C)) | ((with_reducible apply wpM_lda' M 7 25 0 (bkV p1 c1 p2 c2 ns.length ls.length)); rfl; rfl; rfl; exact ⟨rfl, inf_bk0.trans (congrArg some (bkv_size ..).symm), _, und_bk0, rfl⟩; exact whole_of rfl) | (go_at_call 6; fail))
  refine (HT _ M.below).mono ?_
  rintro e w1 ⟨g7, g8, cs7, cs8, rfl, hg7, hg8, hs7, hs8, M'⟩
  have M9 := M.join2 M' (new_box2 hg7 hg8)
  clear M; (try clear C)
  have M := M9
  clear M9 M'
  have C := M.ruleAll; simp only [Go.Proofs.YtocejggobgfccaaGreatDoor.ruleAll] at C
  go_wp2_with (first | (go_at_call 7; fail))
  refine (HP.out _ (HG.out _ M.below) _ _ (BkHere.of M 0 1 (by decide) rfl rfl hs7 hs8)).mono ?_
  rintro e w1 ⟨pE, cE, rfl, M'⟩
  have M9 := M.joinRow M'
  clear M; (try clear C)
  have M := M9
  clear M9 M'
  have C := M.ruleAll; simp only [Go.Proofs.YtocejggobgfccaaGreatDoor.ruleAll] at C
  go_wp2_with (first | (go_at_call 8; ((with_reducible refine (HES.out _ _ _ _ _ (nmR_rdq (M.row 0 rfl)) (nmR_rdq (M.row 7 rfl))).mono ?_); rintro e w1 ⟨rfl, hb⟩; have hsz := M.size; (try (have G9 := G.later hb; clear G; have G := G9; clear G9)); have M9 := M.later hb; clear M; (try clear C); have M := M9; clear M9; have C := M.ruleAll; simp only [Go.Proofs.YtocejggobgfccaaGreatDoor.ruleAll] at C)) | (go_at_call 12; ((with_reducible refine (HHB.out _ (mkdS_rdq HY.out (M.row 5 rfl))).mono ?_); rintro e w1 ⟨rfl, hb⟩; have hsz := M.size; (try (have G9 := G.later hb; clear G; have G := G9; clear G9)); have M9 := M.later hb; clear M; (try clear C); have M := M9; clear M9; have C := M.ruleAll; simp only [Go.Proofs.YtocejggobgfccaaGreatDoor.ruleAll] at C)))
  go_ret
  exact ⟨rfl, M.below⟩
end Go.Proofs.YtocejggobgfccaaGreatDoor

