/- The list of all subloops, for the reference: contracts. -/
import Derived.Test.YteonahoboligdaaDoorG4
namespace Go.Proofs.YteonahoboligdaaDoor
set_option linter.unusedSimpArgs false
set_option linter.unusedVariables false
open Go Go.RowKit

theorem und_slh : Tryd.prog.underlying 27 = some (.slice 26) := by kernel_rfl
theorem inf_elh : (Tryd.prog.info? 26).map (fun i => (i.zero, i.size, i.bytes)) = some (some (.slice none 0 0), 1, 24) := by kernel_rfl
theorem bsl_h0 (w : World) : (Instr.buildSlice 27 0 [].toArray).run Tryd.prog w = .ok (.slice (some ⟨w.heap.size, 0, none⟩) 0 0) (w.alloc (.cells #[] 26)) := by kernel_rfl
theorem bsl_h1 (p : Option Addr) (n c : Nat) (w : World) : (Instr.buildSlice 27 1 [(0, Value.slice p n c)].toArray).run Tryd.prog w = .ok (.slice (some ⟨w.heap.size, 0, none⟩) 1 1) (w.alloc (.cells #[.slice p n c] 26)) := by kernel_rfl
/-- A list of lists handed back, in memory that is old or new. -/
def LstPost (K : List (List Nat)) (w0 : World) (e : Ending) (w' : World) : Prop := ∃ g cap hd, e = .returned (.slice (some ⟨g, 0, none⟩) K.length cap) ∧ K.length ≤ cap ∧ Lst w' g hd K ∧ Below w0.heap.size w0 w'
theorem LstPost.mk {K : List (List Nat)} {w0 w' : World} {e : Ending} {g cap : Nat} {hd : List Value} (h1 : e = .returned (.slice (some ⟨g, 0, none⟩) K.length cap)) (h2 : K.length ≤ cap) (h3 : Lst w' g hd K) (h4 : Below w0.heap.size w0 w') : LstPost K w0 e w' := ⟨g, cap, hd, h1, h2, h3, h4⟩
/-- Where what is left of a slice begins. -/
def adr (g k cap : Nat) : Addr := if cap = k then ⟨g, 0, none⟩ else ⟨g, k, none⟩
theorem sl_lo (g len cap k : Nat) (h1 : k ≤ len) (h2 : len ≤ cap) (w : World) : (Instr.sliceAt 27 (.slice (some ⟨g, 0, none⟩) len cap) (some (.int .i64 (k : Int))) none none).run Tryd.prog w = .ok (.slice (some (adr g k cap)) (len - k) (cap - k)) w := by
  have hu : Tryd.prog.underlying 27 = some (.slice 26) := und_slh
  have hs : (sizeOf 26).run Tryd.prog w = .ok 1 w := by kernel_rfl
  have h1' : (k : Int) ≤ (len : Int) := by omega
  simp [Instr.sliceAt, Instr.slice, Sem.run_bind, run_underlying hu, Instr.sureAddr, Instr.sliceBounds, Instr.sliceBound, asIntOf, hs, h1', Addr.add, adr]
  rw [if_pos h1]
  by_cases h3 : cap = k
  · rw [if_pos h3, if_pos h3]
  · rw [if_neg h3, if_neg h3]
    by_cases h4 : k = 0
    · subst h4; rfl
    · rw [if_neg h4]
theorem sl_hi (g len cap k : Nat) (h1 : k ≤ cap) (w : World) : (Instr.sliceAt 27 (.slice (some ⟨g, 0, none⟩) len cap) none (some (.int .i64 (k : Int))) none).run Tryd.prog w = .ok (.slice (some ⟨g, 0, none⟩) k cap) w := by
  have hu : Tryd.prog.underlying 27 = some (.slice 26) := und_slh
  have hs : (sizeOf 26).run Tryd.prog w = .ok 1 w := by kernel_rfl
  have h1' : (k : Int) ≤ (cap : Int) := by omega
  simp [Instr.sliceAt, Instr.slice, Sem.run_bind, run_underlying hu, Instr.sureAddr, Instr.sliceBounds, Instr.sliceBound, asIntOf, hs, h1', Addr.add]
  intro h; omega
theorem news_rd {w : World} {g n : Nat} {xs : List Value} (h : rds w g n (fun j => xs.getD j undef)) (hn : xs.length = n) : ∀ j u, xs[j]? = some u → w.cell? ((⟨g, 0, none⟩ : Addr).add j) = some u := fun j u hu => by
  have hi := (List.getElem?_eq_some_iff.1 hu).1
  rw [add_none, Nat.zero_add, h.at_ j (by omega), List.getD_eq_getElem?_getD, hu]; rfl
theorem one_app {p : Option Addr} {n c : Nat} {xs : List Value} (h : ∀ u ∈ xs, u.oneCell' = true) : ∀ u ∈ [Value.slice p n c] ++ xs, u.oneCell' = true := fun u hu => by
  rcases List.mem_append.1 hu with h1 | h1
  · rw [List.mem_singleton.1 h1]; rfl
  · exact h u h1


end Go.Proofs.YteonahoboligdaaDoor
