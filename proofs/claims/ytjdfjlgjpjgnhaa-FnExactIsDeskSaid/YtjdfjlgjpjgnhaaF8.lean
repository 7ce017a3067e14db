/- For every desk the program's word on its validity is that of the reference: the law answers true for every input, and its argument reads as it did; no condition. -/
import Derived.Test.YtjdfjlgjpjgnhaaF4
import Derived.Test.YtjdfjlgjpjgnhaaC51
namespace Go.Proofs.Ytjdfjlgjpjgnhaa
set_option linter.unusedSimpArgs false
set_option linter.unusedVariables false
open Go.ChangeShapes Go.WideShapes Go.ChangeAt Go.RowKit

theorem Try.cellsDk : Try.prog.cellsOf 71 = 205 := by kernel_rfl
theorem Try.cellsSet : Try.prog.cellsOf 69 = 1 := by kernel_rfl
section
variable {H : Type} {enc : TypeId × Value → H} {w : World} {base : Nat} {spare : Nat → Bool} {held : Bool}
/-- A list of numbers that comes in. -/
theorem trod_numbers {fuel : Nat} {cs : List Value} {x : DataW H × List MemPlace} (h : DataW.trod enc Try.prog w base spare held fuel 69 cs = some x) :
    ∃ (p : Option Addr) (cap : Nat) (xs : List Int), cs = [.slice p xs.length cap] ∧ rdp w p xs.length (intF xs) ∧ xs.length ≤ maxLen := by
  rcases DataW.trod_slice Try.underlying69 h with ⟨rfl, _⟩ | ⟨a, len, cap, elems, rest, n, _, rfl, _, hb, hl, hm, hlen, hel, _, _⟩
  · exact ⟨none, 0, [], rfl, (fun h => absurd h (by simp)), Nat.zero_le _⟩
  · have each : ∀ i, ∃ z : Int, i < len → w.cell? (a.add i) = some (.int .i64 z) := fun i => by
      by_cases hi : i < len
      · have h1 := hel i hi
        rw [List.getElem?_eq_getElem (by omega), Try.cellsI64, Nat.mul_one, Option.bind_eq_some_iff] at h1
        obtain ⟨cs', hc, ht⟩ := h1
        obtain ⟨z, rfl, _, _⟩ := DataW.trod_int Try.underlying2 ht
        obtain ⟨_, h2⟩ := cells_each hc
        have h3 := h2 0 (by omega)
        exact ⟨z, fun _ => by simpa [Addr.add] using h3⟩
      · exact ⟨0, fun h => absurd h hi⟩
    obtain ⟨g, hg⟩ := Classical.axiomOfChoice each
    have hll : ((List.range len).map g).length = len := by simp
    refine ⟨some a, cap, (List.range len).map g, by rw [hll], fun hn => ?_, by rw [hll]; omega⟩
    rw [hll] at hn ⊢
    have h0 := hg 0 (by omega)
    rw [show a.add 0 = a by simp [Addr.add]] at h0
    obtain ⟨e1, hlt⟩ := cell_addr h0
    refine ⟨a.block, a.off, by rw [← e1], hlt, fun j hj => ?_⟩
    have e2 : a.add j = ⟨a.block, a.off + j, none⟩ := by rw [e1, add_none]
    rw [← e2, hg j hj]
    unfold intF elI
    rw [List.getD_eq_getElem?_getD, List.getElem?_map, List.getElem?_range hj]
    rfl
set_option maxRecDepth 100000 in
theorem open_desk {r : Reach} {b0 : Nat} {v : Value} {d : DataW H} {p : List MemPlace} (hv : Value.okWide Try.prog w r b0 71 v) (h : DataW.Trod enc Try.prog w base spare held 71 v d p) :
    ∃ (q q' : Sqr) (p0 p1 p2 : Option Addr) (c0 c1 c2 : Nat) (xs : List Int) (ns : List ByteArray) (ls : List Sqr), v = .agg (dskC q q' p0 xs.length c0 p1 ns.length c1 p2 ls.length c2) ∧ Byt2 q.t ∧ Byt2 q'.t ∧ rdp w p0 xs.length (intF xs) ∧ rdp w p1 ns.length (nmF ns) ∧ rdp w p2 (ls.length * 101) (fun j => (slC ls).getD j undef) ∧
      xs.length ≤ maxLen ∧ ns.length ≤ maxLen ∧ ls.length ≤ maxLen ∧ (∀ x ∈ ns, x.size ≤ maxLen) ∧ ∀ q ∈ ls, Byt2 q.t := by
  obtain ⟨cs, rfl, hsz⟩ := okWide_struct Try.underlying71 hv
  rw [Try.cellsDk] at hsz
  obtain ⟨fuel, hf⟩ := h
  obtain ⟨xs, m, _, _, hlen, hxl, hfs⟩ := DataW.trod_struct Try.underlying71 hf
  have g0 : DataW.trod enc Try.prog w base spare held m 25 ((cs.toList.drop 0).take (Try.prog.cellsOf 25)) = xs[0]? := hfs 0 _ rfl
  have g1 : DataW.trod enc Try.prog w base spare held m 25 ((cs.toList.drop 101).take (Try.prog.cellsOf 25)) = xs[1]? := hfs 1 _ rfl
  have g2 : DataW.trod enc Try.prog w base spare held m 69 ((cs.toList.drop 202).take (Try.prog.cellsOf 69)) = xs[2]? := hfs 2 _ rfl
  have g3 : DataW.trod enc Try.prog w base spare held m 42 ((cs.toList.drop 203).take (Try.prog.cellsOf 42)) = xs[3]? := hfs 3 _ rfl
  rw [Try.cellsSq] at g0 g1
  rw [Try.cellsSet] at g2
  rw [Try.cellsBk] at g3
  have hx4 : xs.length = 4 := hxl
  rw [List.getElem?_eq_getElem (by omega)] at g0 g1 g2 g3
  obtain ⟨q, hq, e0⟩ := trod_square g0
  obtain ⟨q', hq', e1⟩ := trod_square g1
  obtain ⟨p0, c0, ys, e2, r0, n0⟩ := trod_numbers g2
  obtain ⟨p1, p2, c1, c2, ns, ls, e3, r1, r2, n1, n2, s1, b2⟩ := trod_book g3
  refine ⟨q, q', p0, p1, p2, c0, c1, c2, ys, ns, ls, ?_, hq, hq', r0, r1, r2, n0, n1, n2, s1, b2⟩
  have hl : cs.toList.length = 205 := by rw [Array.length_toList]; exact hsz
  congr 1
  apply Array.ext_getElem?
  intro i
  rw [dsk_get, ← Array.getElem?_toList]
  have at0 : ∀ j, j < 101 → cs.toList[j]? = (sqC q)[j]? := fun j hj => by
    have := congrArg (fun l => l[j]?) e0
    simpa [List.getElem?_take, hj, List.getElem?_drop] using this
  have at1 : ∀ j, j < 101 → cs.toList[101 + j]? = (sqC q')[j]? := fun j hj => by
    have := congrArg (fun l => l[j]?) e1
    simpa [List.getElem?_take, hj, List.getElem?_drop] using this
  have at2 : cs.toList[202]? = some (.slice p0 ys.length c0) := by
    have := congrArg (fun l => l[0]?) e2
    simpa [List.getElem?_take, List.getElem?_drop] using this
  have at3 : ∀ j, j < 2 → cs.toList[203 + j]? = (bkV p1 c1 p2 c2 ns.length ls.length)[j]? := fun j hj => by
    have := congrArg (fun l => l[j]?) e3
    simpa [List.getElem?_take, hj, List.getElem?_drop] using this
  by_cases h1 : i < 101
  · rw [if_pos h1]; exact at0 i h1
  · rw [if_neg h1]
    by_cases h2 : i < 202
    · rw [if_pos h2]
      have := at1 (i - 101) (by omega)
      rwa [show 101 + (i - 101) = i by omega] at this
    · rw [if_neg h2]
      by_cases h3 : i < 205
      · have : i = 202 ∨ i = 203 ∨ i = 204 := by omega
        rcases this with rfl | rfl | rfl
        · exact at2
        · exact at3 0 (by omega)
        · exact at3 1 (by omega)
      · rw [List.getElem?_eq_none (by omega), Array.getElem?_eq_none (by simp; omega)]
end

namespace IsDk
set_option maxRecDepth 100000 in
theorem lifted (os : Os) (started : os.Started) (H : Type) (enc : TypeId × Value → H) :
    ReturnsInHanded {} Try.checked os 9 .any (Rows.fnExactIsDeskSpec.pre6 enc Try.prog Try.f9 Rows.fnExactIsDeskRow.domain false) (Rows.fnExactIsDeskSpec.post enc Try.prog Try.f9 false true false false) := by
  refine returnsInHanded_of_change (C := Try.checked) Try.own started (by kernel_rfl) Try.func9
    (ChangeSpec.witness6 (enc := enc) (C := Try.checked) false ⟨#[], #[.agg (sqC ⟨0, fun _ _ => 0⟩ ++ sqC ⟨0, fun _ _ => 0⟩ ++ #[.slice none 0 0, .slice none 0 0, .slice none 0 0])], []⟩ 8 (by kernel_rfl) (by kernel_rfl) (by kernel_rfl) (by kernel_rfl)) ?_
  intro W base args ds gs before hval0 hW hcnd _
  have hval : ∀ (j : Nat) t v, Try.f9.params[j]? = some t → args[j]? = some v → Value.okWide Try.prog W .any base t v := hval0
  have hW' := hW
  obtain ⟨p, q, hA0, hV, rfl, hfz, hnd⟩ := hW
  have hA : DataW.TrodAll enc Try.prog W 0 (fun _ => true) true Try.f9.params.toList args.toList ds p := hA0
  rw [Try.params9] at hA hval
  obtain ⟨v0, vs0, d0, ds0, p0, q0, hargs, rfl, rfl, h0, r0⟩ := trodAll_cons hA
  obtain ⟨rfl, rfl, rfl⟩ := trodAll_nil r0
  obtain rfl : args = #[v0] := by cases args; simp_all
  obtain ⟨rfl, rfl⟩ := trodVars_none hV
  have k0 := h0
  have lt0 : ∀ x ∈ p0, x.block < W.heap.size := by obtain ⟨m, hm⟩ := k0; exact DataW.trod_lt m _ _ _ hm
  obtain ⟨q1, q2, a0, a1, a2, c0, c1, c2, xs, ns, ls, rfl, hq1, hq2, hr0, hr1, hr2, hk, hn, hm, hs, hby⟩ := open_desk (hval 0 71 v0 rfl rfl) h0
  clear hA0 hval0
  refine (lawIsDesk_any q1 q2 xs ns ls hq1 hq2 hk hn hm hs hby W a0 a1 a2 c0 c1 c2 hr0 hr1 hr2).mono fun e W' ⟨he, bel⟩ => ?_
  subst he
  exact ⟨_, rfl, _, _, _, [], _, [], hW', trodAll_mk1 (shut_bool Try.underlying4 _), (trodAll_cons_mk (Below.trod Try.laidOut (by kernel_rfl) (of_decide_eq_true (by kernel_rfl)) k0 bel lt0) trodAll_mk0), rfl, bel.frame _, fun h => by cases h⟩

theorem over : Rows.fnExactIsDeskRow.holds Try.pinned (OpenSpec.ofChange Rows.fnExactIsDeskSpec) :=
  OpenClaim.holds_of_wide 9 Try.f9 rfl rfl rfl rfl rfl rfl rfl ⟨rfl, rfl, rfl, rfl, rfl⟩ rfl rfl rfl rfl rfl (by kernel_rfl) Try.func9 (by kernel_rfl)
    (of_decide_eq_true (by kernel_rfl)) (by unfold Func.isWrapper; first | (rw [if_pos (by decide +kernel)]; kernel_rfl) | (rw [if_neg (by decide +kernel)]; exact ⟨rfl, rfl⟩))
    (fun os started H enc _ => lifted os started H enc)
end IsDk

/-- THE STATEMENT. -/
theorem isDesk_proved : Rows.FnExactIsDeskSaid := IsDk.over
#print axioms isDesk_proved
end Go.Proofs.Ytjdfjlgjpjgnhaa
