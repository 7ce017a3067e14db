/- A list of squares, a list of names and a book that come in, opened. -/
import Derived.Test.YtinjjaoikofkdaaF1
import Derived.Test.YtinjjaoikofkdaaK12
import Derived.Test.YtinjjaoikofkdaaC32
import Derived.SliceStrings
namespace Go.Proofs.Ytinjjaoikofkdaa
set_option linter.unusedSimpArgs false
set_option linter.unusedVariables false
open Go.ChangeShapes Go.WideShapes Go.ChangeAt Go.RowKit

theorem Try.cellsBk : Try.prog.cellsOf 25 = 2 := by kernel_rfl
theorem Try.cellsNs : Try.prog.cellsOf 22 = 1 := by kernel_rfl
theorem Try.cellsLs : Try.prog.cellsOf 23 = 1 := by kernel_rfl
theorem Try.cellsStr : Try.prog.cellsOf 9 = 1 := by kernel_rfl

section
variable {H : Type} {enc : TypeId × Value → H} {w : World} {base : Nat} {spare : Nat → Bool} {held : Bool}

theorem cell_addr {a : Addr} {v : Value} (h : w.cell? a = some v) : a = ⟨a.block, a.off, none⟩ ∧ a.block < w.heap.size := by
  obtain ⟨b, off, sp⟩ := a
  refine ⟨?_, World.block_lt_of_cell? w _ h⟩
  cases sp with
  | none => rfl
  | some k =>
    unfold World.cell? at h
    split at h <;> simp at h
theorem cells_each {a : Addr} {n : Nat} {cs : List Value} (h : w.cells? base a n = some cs) : cs.length = n ∧ ∀ j, j < n → w.cell? (a.add j) = cs[j]? := by
  obtain ⟨_, h1, h2⟩ := World.cells?_some h
  exact ⟨h1, h2⟩
theorem add_add (a : Addr) (i j : Nat) (hs : a.spot = none) : (a.add i).add j = a.add (i + j) := by
  obtain ⟨b, off, sp⟩ := a
  cases hs
  rw [add_none, add_none, add_none, Nat.add_assoc]

/-- The cells of a square. -/
theorem trod_square {fuel : Nat} {cs : List Value} {x : DataW H × List MemPlace} (h : DataW.trod enc Try.prog w base spare held fuel 39 cs = some x) : ∃ q : Sqr, Byt2 q.t ∧ cs = (sqC q).toList := by
  obtain ⟨xs, m, _, _, hlen, hxl, hfs⟩ := DataW.trod_struct Try.underlying39 h
  rw [Try.cellsSq] at hlen
  have g0 : DataW.trod enc Try.prog w base spare held m 2 ((cs.drop 0).take (Try.prog.cellsOf 2)) = xs[0]? := hfs 0 _ rfl
  have g1 : DataW.trod enc Try.prog w base spare held m 37 ((cs.drop 1).take (Try.prog.cellsOf 37)) = xs[1]? := hfs 1 _ rfl
  rw [Try.cellsI64] at g0
  rw [Try.cellsTb] at g1
  have hx2 : xs.length = 2 := hxl
  have e0 : xs[0]? = some (xs[0]'(by omega)) := List.getElem?_eq_getElem _
  have e1 : xs[1]? = some (xs[1]'(by omega)) := List.getElem?_eq_getElem _
  rw [e0] at g0
  rw [e1] at g1
  obtain ⟨n, hn, _, _⟩ := DataW.trod_int Try.underlying2 g0
  have g2 := trod_table g1
  have hn' : cs[0]? = some (.int .i64 n) := by
    have := take_one hn
    simpa using this
  have hc : ∀ i j, i < 10 → j < 10 → ∃ b : Nat, b < 256 ∧ cs[1 + i * 10 + j]? = some (.int .u8 (b : Int)) := fun i j hi hj => by
    obtain ⟨b, hb, h3⟩ := g2 i j hi hj
    rw [List.getElem?_take, if_pos (by omega), List.getElem?_drop] at h3
    exact ⟨b, hb, by rw [← h3]; congr 1; omega⟩
  refine ⟨⟨n, fun i j => byteOf cs[1 + i * 10 + j]?⟩, ⟨fun i j hi hj => ?_⟩, ?_⟩
  · obtain ⟨b, hb, h3⟩ := hc i j hi hj
    show byteOf cs[1 + i * 10 + j]? < 256
    rw [h3]
    simpa [byteOf] using hb
  · have : cs.toArray = sqC ⟨n, fun i j => byteOf cs[1 + i * 10 + j]?⟩ := by
      refine tab_of (by simpa using hlen) fun i hi => ?_
      rw [List.getElem?_toArray]
      by_cases h0 : i = 0
      · subst h0; rw [if_pos rfl]; exact hn'
      · rw [if_neg h0]
        obtain ⟨b, hb, h3⟩ := hc ((i - 1) / 10) ((i - 1) % 10) (by omega) (by omega)
        have hi' : 1 + (i - 1) / 10 * 10 + (i - 1) % 10 = i := by omega
        rw [hi'] at h3
        show cs[i]? = some (.int .u8 ((byteOf cs[1 + (i - 1) / 10 * 10 + (i - 1) % 10]? : Nat) : Int))
        rw [hi', h3]
        simp [byteOf]
    rw [← this]

/-- A list of squares that comes in. -/
theorem trod_squares {fuel : Nat} {cs : List Value} {x : DataW H × List MemPlace} (h : DataW.trod enc Try.prog w base spare held fuel 23 cs = some x) :
    ∃ (p : Option Addr) (cap : Nat) (ls : List Sqr), cs = [.slice p ls.length cap] ∧ (∀ q ∈ ls, Byt2 q.t) ∧ rdp w p (ls.length * 101) (fun j => (slC ls).getD j undef) ∧ ls.length ≤ maxLen := by
  rcases DataW.trod_slice Try.underlying23 h with ⟨rfl, _⟩ | ⟨a, len, cap, elems, rest, n, _, rfl, _, hb, hl, hm, hlen, hel, _, _⟩
  · exact ⟨none, 0, [], rfl, (fun _ h => by cases h), (fun h => absurd h (by simp)), Nat.zero_le _⟩
  · have each : ∀ i, ∃ q : Sqr, i < len → Byt2 q.t ∧ ∀ j, j < 101 → w.cell? ((a.add (i * 101)).add j) = (sqC q)[j]? := fun i => by
      by_cases hi : i < len
      · have h1 := hel i hi
        rw [List.getElem?_eq_getElem (by omega), Try.cellsSq, Option.bind_eq_some_iff] at h1
        obtain ⟨cs', hc, ht⟩ := h1
        obtain ⟨q, hq, rfl⟩ := trod_square ht
        obtain ⟨_, h2⟩ := cells_each hc
        exact ⟨q, fun _ => ⟨hq, fun j hj => by rw [h2 j hj, Array.getElem?_toList]⟩⟩
      · exact ⟨⟨0, fun _ _ => 0⟩, fun h => absurd h hi⟩
    obtain ⟨g, hg⟩ := Classical.axiomOfChoice each
    have hll : ((List.range len).map g).length = len := by simp
    refine ⟨some a, cap, (List.range len).map g, by rw [hll], fun q hq => ?_, fun hn => ?_, by rw [hll]; omega⟩
    · obtain ⟨i, hi, rfl⟩ := List.mem_map.1 hq
      exact (hg i (List.mem_range.1 hi)).1
    · rw [hll] at hn ⊢
      have h0 := (hg 0 (by omega)).2 0 (by omega)
      have h00 : (sqC (g 0))[0]? = some (.int .i64 (g 0).n) := sqs_order ..
      rw [Nat.zero_mul, h00] at h0
      have ea : (a.add 0).add 0 = a := by simp [Addr.add]
      rw [ea] at h0
      obtain ⟨e1, hlt⟩ := cell_addr h0
      refine ⟨a.block, a.off, by rw [← e1], hlt, fun j hj => ?_⟩
      have h1 := (hg (j / 101) (by omega)).2 (j % 101) (by omega)
      rw [add_add _ _ _ (by rw [e1]), show j / 101 * 101 + j % 101 = j by omega] at h1
      have e2 : a.add j = ⟨a.block, a.off + j, none⟩ := by rw [e1, add_none]
      rw [← e2, h1]
      have h3 := rowC_get (f := sqC) sqC_size ((List.range len).map g) (k := j / 101) (j := j % 101) (by simp; omega) (by omega)
      rw [show j / 101 * 101 + j % 101 = j by omega, List.getElem_map, List.getElem_range] at h3
      show _ = some ((rowC sqC ((List.range len).map g)).getD j undef)
      rw [List.getD_eq_getElem?_getD, h3]
      rw [Array.getElem?_eq_getElem (show j % 101 < (sqC (g (j / 101))).size by rw [sqC_size]; omega)]; rfl

/-- A list of names that comes in. -/
theorem trod_names {fuel : Nat} {cs : List Value} {x : DataW H × List MemPlace} (h : DataW.trod enc Try.prog w base spare held fuel 22 cs = some x) :
    ∃ (p : Option Addr) (cap : Nat) (ns : List ByteArray), cs = [.slice p ns.length cap] ∧ rdp w p ns.length (nmF ns) ∧ ns.length ≤ maxLen ∧ ∀ x ∈ ns, x.size ≤ maxLen := by
  rcases open_strings Try.underlying22 Try.underlying9 Try.cellsStr h with ⟨rfl, _⟩ | ⟨a, len, cap, ss, rfl, _, hl, hm, hss, _, hcell, hsz⟩
  · exact ⟨none, 0, [], rfl, (fun h => absurd h (by simp)), Nat.zero_le _, (fun _ h => by cases h)⟩
  · have hle : len ≤ ss.length := by rw [hss]; split <;> omega
    have hll : (ss.take len).length = len := by rw [List.length_take]; omega
    refine ⟨some a, cap, ss.take len, by rw [hll], fun hn => ?_, by omega, fun x hx => hsz x (List.mem_of_mem_take hx)⟩
    rw [hll] at hn ⊢
    have h0 := hcell 0 (by omega)
    rw [show a.add 0 = a by simp [Addr.add]] at h0
    obtain ⟨e1, hlt⟩ := cell_addr h0
    refine ⟨a.block, a.off, by rw [← e1], hlt, fun j hj => ?_⟩
    have e2 : a.add j = ⟨a.block, a.off + j, none⟩ := by rw [e1, add_none]
    rw [← e2, hcell j (by omega)]
    unfold nmF
    rw [List.getD_eq_getElem?_getD, List.getD_eq_getElem?_getD, List.getElem?_take, if_pos hj]

/-- A book that comes in. -/
def bkV (p1 : Option Addr) (c1 : Nat) (p2 : Option Addr) (c2 n m : Nat) : Array Value := #[.slice p1 n c1, .slice p2 m c2]
set_option maxRecDepth 100000 in
theorem trod_book {fuel : Nat} {cs : List Value} {x : DataW H × List MemPlace} (h : DataW.trod enc Try.prog w base spare held fuel 25 cs = some x) :
    ∃ (p1 p2 : Option Addr) (c1 c2 : Nat) (ns : List ByteArray) (ls : List Sqr), cs = (bkV p1 c1 p2 c2 ns.length ls.length).toList ∧ rdp w p1 ns.length (nmF ns) ∧ rdp w p2 (ls.length * 101) (fun j => (slC ls).getD j undef) ∧
      ns.length ≤ maxLen ∧ ls.length ≤ maxLen ∧ (∀ x ∈ ns, x.size ≤ maxLen) ∧ ∀ q ∈ ls, Byt2 q.t := by
  obtain ⟨xs, m, _, _, hlen, hxl, hfs⟩ := DataW.trod_struct Try.underlying25 h
  rw [Try.cellsBk] at hlen
  have g0 : DataW.trod enc Try.prog w base spare held m 22 ((cs.drop 0).take (Try.prog.cellsOf 22)) = xs[0]? := hfs 0 _ rfl
  have g1 : DataW.trod enc Try.prog w base spare held m 23 ((cs.drop 1).take (Try.prog.cellsOf 23)) = xs[1]? := hfs 1 _ rfl
  rw [Try.cellsNs] at g0
  rw [Try.cellsLs] at g1
  have hx2 : xs.length = 2 := hxl
  rw [List.getElem?_eq_getElem (by omega)] at g0 g1
  obtain ⟨p1, c1, ns, h1, r1, n1, s1⟩ := trod_names g0
  obtain ⟨p2, c2, ls, h2, b2, r2, n2⟩ := trod_squares g1
  refine ⟨p1, p2, c1, c2, ns, ls, ?_, r1, r2, n1, n2, s1, b2⟩
  match cs, hlen with
  | [x, y], _ =>
    simp at h1 h2
    subst h1 h2
    rfl
set_option maxRecDepth 100000 in
theorem open_book {r : Reach} {b0 : Nat} {v : Value} {d : DataW H} {p : List MemPlace} (hv : Value.okWide Try.prog w r b0 25 v) (h : DataW.Trod enc Try.prog w base spare held 25 v d p) :
    ∃ (p1 p2 : Option Addr) (c1 c2 : Nat) (ns : List ByteArray) (ls : List Sqr), v = .agg (bkV p1 c1 p2 c2 ns.length ls.length) ∧ rdp w p1 ns.length (nmF ns) ∧ rdp w p2 (ls.length * 101) (fun j => (slC ls).getD j undef) ∧
      ns.length ≤ maxLen ∧ ls.length ≤ maxLen ∧ (∀ x ∈ ns, x.size ≤ maxLen) ∧ ∀ q ∈ ls, Byt2 q.t := by
  obtain ⟨cs, rfl, _⟩ := okWide_struct Try.underlying25 hv
  obtain ⟨fuel, hf⟩ := h
  obtain ⟨p1, p2, c1, c2, ns, ls, h1, h2⟩ := trod_book hf
  exact ⟨p1, p2, c1, c2, ns, ls, by
    have : cs = bkV p1 c1 p2 c2 ns.length ls.length := by apply Array.ext'; exact h1
    rw [this], h2⟩
end
end Go.Proofs.Ytinjjaoikofkdaa
