/- For every square and every pair of terms the program finds the same first place at which the identity fails, with the same code, as the reference: the law answers true for every input, and its arguments read as they did; no condition. -/
import Derived.Test.YtpmemoabkbmljaaF1
import Derived.Test.YtpmemoabkbmljaaC77
namespace Go.Proofs.Ytpmemoabkbmljaa
set_option linter.unusedSimpArgs false
set_option linter.unusedVariables false
open Go.ChangeShapes Go.WideShapes Go.ChangeAt Go.RowKit

theorem Try.cellsId : Try.prog.cellsOf 28 = 2 := by kernel_rfl
theorem Try.cellsBs : Try.prog.cellsOf 26 = 1 := by kernel_rfl
section
variable {H : Type} {enc : TypeId × Value → H} {w : World} {base : Nat} {spare : Nat → Bool} {held : Bool}

theorem cell_addr {a : Addr} {v : Value} (h : w.cell? a = some v) : a = ⟨a.block, a.off, none⟩ ∧ a.block < w.heap.size := by
  obtain ⟨b, off, sp⟩ := a
  refine ⟨?_, World.block_lt_of_cell? w _ h⟩
  cases sp with
  | none => rfl
  | some k =>
    unfold World.cell? at h
    split at h <;> simp at h
theorem cells_each {a : Addr} {n : Nat} {cs : List Value} (h : w.cells? base a n = some cs) : cs.length = n ∧ ∀ j, j < n → w.cell? (a.add j) = cs[j]? := by
  obtain ⟨_, h1, h2⟩ := World.cells?_some h
  exact ⟨h1, h2⟩

/-- A list of bytes that comes in. -/
theorem trod_byteS {fuel : Nat} {cs : List Value} {x : DataW H × List MemPlace} (h : DataW.trod enc Try.prog w base spare held fuel 26 cs = some x) :
    ∃ (p : Option Addr) (cap : Nat) (ls : List Nat), cs = [.slice p ls.length cap] ∧ rdp w p ls.length (bytF ls) ∧ ls.length ≤ maxLen := by
  rcases DataW.trod_slice Try.underlying26 h with ⟨rfl, _⟩ | ⟨a, len, cap, elems, rest, n, _, rfl, _, hb, hl, hm, hlen, hel, _, _⟩
  · exact ⟨none, 0, [], rfl, (fun h => absurd h (by simp)), Nat.zero_le _⟩
  · have each : ∀ i, ∃ q : Nat, i < len → w.cell? (a.add i) = some (.int .u8 (q : Int)) := fun i => by
      by_cases hi : i < len
      · have h1 := hel i hi
        rw [List.getElem?_eq_getElem (by omega), Try.cellsU8, Option.bind_eq_some_iff, Nat.mul_one] at h1
        obtain ⟨cs', hc, ht⟩ := h1
        obtain ⟨n, hn, _, hw⟩ := DataW.trod_int Try.underlying5 ht
        have hb := bounds_u8 hw
        obtain ⟨_, h2⟩ := cells_each hc
        have h3 := h2 0 (by omega)
        have ea : (a.add i).add 0 = a.add i := by simp [Addr.add]
        rw [ea, hn] at h3
        exact ⟨n.toNat, fun _ => by rw [h3, show ((n.toNat : Nat) : Int) = n by omega]; rfl⟩
      · exact ⟨0, fun h => absurd h hi⟩
    obtain ⟨g, hg⟩ := Classical.axiomOfChoice each
    have hll : ((List.range len).map g).length = len := by simp
    refine ⟨some a, cap, (List.range len).map g, by rw [hll], fun hn => ?_, by rw [hll]; omega⟩
    rw [hll] at hn ⊢
    have h0 := hg 0 (by omega)
    have ea : a.add 0 = a := by simp [Addr.add]
    rw [ea] at h0
    obtain ⟨e1, hlt⟩ := cell_addr h0
    refine ⟨a.block, a.off, by rw [← e1], hlt, fun j hj => ?_⟩
    have e2 : a.add j = ⟨a.block, a.off + j, none⟩ := by rw [e1, add_none]
    rw [← e2, hg j hj]
    show some _ = some (bytF ((List.range len).map g) j)
    unfold bytF elB
    rw [List.getD_eq_getElem?_getD, List.getElem?_map, List.getElem?_range hj]
    rfl
set_option maxRecDepth 100000 in
theorem open_identity {r : Reach} {b0 : Nat} {v : Value} {d : DataW H} {p : List MemPlace} (hv : Value.okWide Try.prog w r b0 28 v) (h : DataW.Trod enc Try.prog w base spare held 28 v d p) :
    ∃ (p1 p2 : Option Addr) (c1 c2 : Nat) (xs ys : List Nat), v = .agg (idV p1 c1 p2 c2 xs.length ys.length) ∧ rdp w p1 xs.length (bytF xs) ∧ rdp w p2 ys.length (bytF ys) ∧ xs.length ≤ maxLen ∧ ys.length ≤ maxLen := by
  obtain ⟨cs, rfl, hlen⟩ := okWide_struct Try.underlying28 hv
  rw [Try.cellsId] at hlen
  obtain ⟨fuel, hf⟩ := h
  obtain ⟨xs, m, _, _, _, hxl, hfs⟩ := DataW.trod_struct Try.underlying28 hf
  have g0 : DataW.trod enc Try.prog w base spare held m 26 ((cs.toList.drop 0).take (Try.prog.cellsOf 26)) = xs[0]? := hfs 0 _ rfl
  have g1 : DataW.trod enc Try.prog w base spare held m 26 ((cs.toList.drop 1).take (Try.prog.cellsOf 26)) = xs[1]? := hfs 1 _ rfl
  rw [Try.cellsBs] at g0 g1
  have hx2 : xs.length = 2 := hxl
  rw [List.getElem?_eq_getElem (by omega)] at g0 g1
  obtain ⟨p1, c1, ns, h1, r1, n1⟩ := trod_byteS g0
  obtain ⟨p2, c2, ls, h2, r2, n2⟩ := trod_byteS g1
  refine ⟨p1, p2, c1, c2, ns, ls, ?_, r1, r2, n1, n2⟩
  congr 1
  apply Array.ext'
  have hl2 : cs.toList.length = 2 := by simpa using hlen
  generalize cs.toList = l at *
  match l, hl2 with
  | [x, y], _ =>
    simp at h1 h2
    subst h1 h2
    rfl
end

namespace FailsAtLaw
set_option maxRecDepth 100000 in
theorem lifted (os : Os) (started : os.Started) (H : Type) (enc : TypeId × Value → H) :
    ReturnsInHanded {} Try.checked os 3 .any (Rows.fnExactFailsAtSpec.pre6 enc Try.prog Try.f3 Rows.fnExactFailsAtRow.domain false) (Rows.fnExactFailsAtSpec.post enc Try.prog Try.f3 false true false false) := by
  refine returnsInHanded_of_change (C := Try.checked) Try.own started (by kernel_rfl) Try.func3
    (ChangeSpec.witness6 (enc := enc) (C := Try.checked) false ⟨#[], #[.agg (sqs 0 fun _ _ => 0), .agg #[.slice none 0 0, .slice none 0 0]], []⟩ 8 (by kernel_rfl) (by kernel_rfl) (by kernel_rfl) (by kernel_rfl)) ?_
  intro W base args ds gs before hval0 hW hcnd _
  have hval : ∀ (j : Nat) t v, Try.f3.params[j]? = some t → args[j]? = some v → Value.okWide Try.prog W .any base t v := hval0
  have hW' := hW
  obtain ⟨p, q, hA0, hV, rfl, hfz, hnd⟩ := hW
  have hA : DataW.TrodAll enc Try.prog W 0 (fun _ => true) true Try.f3.params.toList args.toList ds p := hA0
  rw [Try.params3] at hA hval
  obtain ⟨v0, vs0, d0, ds0, p0, q0, hargs, rfl, rfl, h0, r0⟩ := trodAll_cons hA
  obtain ⟨v1, vs1, d1, ds1, p1, q1, rfl, rfl, rfl, h1, r1⟩ := trodAll_cons r0
  obtain ⟨rfl, rfl, rfl⟩ := trodAll_nil r1
  obtain rfl : args = #[v0, v1] := by cases args; simp_all
  obtain ⟨rfl, rfl⟩ := trodVars_none hV
  have k0 := h0
  have k1 := h1
  have lt0 : ∀ x ∈ p0, x.block < W.heap.size := by obtain ⟨m, hm⟩ := k0; exact DataW.trod_lt m _ _ _ hm
  have lt1 : ∀ x ∈ p1, x.block < W.heap.size := by obtain ⟨m, hm⟩ := k1; exact DataW.trod_lt m _ _ _ hm
  obtain ⟨n, t, rfl, ht⟩ := open_square (hval 0 25 v0 rfl rfl) h0
  obtain ⟨a1, a2, c1, c2, xs, ys, rfl, hr1, hr2, hn, hm⟩ := open_identity (hval 1 28 v1 rfl rfl) h1
  clear hA0 hval0
  refine (lawFailsAt_any n t ht xs ys hn hm W a1 a2 c1 c2 hr1 hr2).mono fun e W' ⟨he, bel⟩ => ?_
  subst he
  exact ⟨_, rfl, _, _, _, [], _, [], hW', trodAll_mk1 (shut_bool Try.underlying4 _), (trodAll_cons_mk (Below.trod Try.laidOut (by kernel_rfl) (of_decide_eq_true (by kernel_rfl)) k0 bel lt0) (trodAll_cons_mk (Below.trod Try.laidOut (by kernel_rfl) (of_decide_eq_true (by kernel_rfl)) k1 bel lt1) trodAll_mk0)), rfl, bel.frame _, fun h => by cases h⟩

theorem over : Rows.fnExactFailsAtRow.holds Try.pinned (OpenSpec.ofChange Rows.fnExactFailsAtSpec) :=
  OpenClaim.holds_of_wide 3 Try.f3 rfl rfl rfl rfl rfl rfl rfl ⟨rfl, rfl, rfl, rfl, rfl⟩ rfl rfl rfl rfl rfl (by kernel_rfl) Try.func3 (by kernel_rfl)
    (of_decide_eq_true (by kernel_rfl)) (by unfold Func.isWrapper; first | (rw [if_pos (by decide +kernel)]; kernel_rfl) | (rw [if_neg (by decide +kernel)]; exact ⟨rfl, rfl⟩))
    (fun os started H enc _ => lifted os started H enc)
end FailsAtLaw

/-- THE STATEMENT. -/
theorem failsAt_proved : Rows.FnExactFailsAtSaid := FailsAtLaw.over
#print axioms failsAt_proved
end Go.Proofs.Ytpmemoabkbmljaa
