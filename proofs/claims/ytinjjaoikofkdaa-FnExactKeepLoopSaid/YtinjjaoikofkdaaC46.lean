/- The name of a loop: contracts. -/
import Derived.Test.YtinjjaoikofkdaaC43
namespace Go.Proofs.Ytinjjaoikofkdaa
set_option linter.unusedSimpArgs false
set_option linter.unusedVariables false
open Go Go.RowKit

theorem results_mid {P : Program} {fn : Func} {r p q : Tmp} {ty : TypeId} (h : fn.results = #[.tmp r, .cell p ty, .tmp q]) (tmps : Array Value) (w : World) (b off : Nat) (part : Array Value) (d : TypeDesc)
    (hp : tmps.getD p undef = .pointer (some ⟨b, off, none⟩)) (hu : P.underlying ty = some d) (hd : (match d with | .struct _ | .array _ _ => true | _ => false) = true) (hi : (P.info? ty).map (·.size) = some part.size)
    (hc : ∀ j v, part[j]? = some v → w.cell? ⟨b, off + j, none⟩ = some v) (v u : Value) (hv : tmps.getD r undef = v) (hw : tmps.getD q undef = u) :
    (results fn tmps).run P w = .ok (.tuple #[v, .agg part, u]) w := by
  have hp' : tmps[p]?.getD undef = .pointer (some ⟨b, off, none⟩) := by simpa using hp
  have hv' : tmps[r]?.getD undef = v := by simpa using hv
  have hw' : tmps[q]?.getD undef = u := by simpa using hw
  simp [results, h, hp', hv', hw', asAddr, run_load_part w b off ty part d hu hd hi hc]

theorem placeOf_lt2 {α : Type} (p : α → Bool) (l : List α) (h : ¬ placeOf p l < 0) : ∃ k : Nat, k < l.length ∧ placeOf p l = (k : Int) := by
  unfold placeOf at h ⊢
  cases hf : l.findIdx? p with
  | none => rw [hf] at h; exact absurd (by decide) h
  | some k => exact ⟨k, (List.findIdx?_eq_some_iff_getElem.1 hf).1, rfl⟩
theorem isBk_len2 {ns : List ByteArray} {ls : List Sqr} (h : isBk ns ls = true) : ls.length = ns.length := by
  unfold isBk at h
  simp only [Bool.and_eq_true, decide_eq_true_eq] at h
  exact h.1.1.2
/-- The first isomorphism of two squares and its code. -/
noncomputable def isoC (q r : Sqr) : Int := (isoRes (isoAll q.n.toNat r.n.toNat q.t r.t)).2
theorem alkB_isoC (q r : Sqr) : alkB q r = (isoC q r == 0) := rfl
theorem implIso_sq (q r : Sqr) (w : World) (hq : okS q) (hr : okS r) : Calls Try.prog 74 #[.agg (sqs q.n q.t), .agg (sqs r.n r.t)] w fun e w' => e = .returned (.tuple #[.agg (bys (alkP q r)), .int .i64 (isoC q r)]) ∧ Below w.heap.size w w' := by
  have s1 := isSq_true.1 hq.2
  have s2 := isSq_true.1 hr.2
  have e1 : ((q.n.toNat : Nat) : Int) = q.n := Int.toNat_of_nonneg (by have := s1.lo; omega)
  have e2 : ((r.n.toNat : Nat) : Int) = r.n := Int.toNat_of_nonneg (by have := s2.lo; omega)
  have h := implIso_any q.n.toNat r.n.toNat q.t r.t w hq.1 hr.1 (by rw [e1]; exact hq.2) (by rw [e2]; exact hr.2)
  rw [e1, e2] at h
  exact h

/-- The name of a loop, the isomorphism, and a code. -/
noncomputable def nameOfR (ns : List ByteArray) (ls : List Sqr) (q : Sqr) : ByteArray × (Nat → Nat) × Int :=
  if isBk ns ls = true ∧ lpB q = true then (if placeOf (alkB q) ls < 0 then (⟨#[]⟩, (fun _ => 0), 4) else (ns.getD (placeOf (alkB q) ls).toNat .empty, keptP q ls, 0)) else (⟨#[]⟩, (fun _ => 0), 1)
/-- What is handed back. -/
def NmRes (r : ByteArray × (Nat → Nat) × Int) (w : World) (e : Ending) (w' : World) : Prop := e = .returned (.tuple #[.string r.1, .agg (bys r.2.1), .int .i64 r.2.2]) ∧ Below w.heap.size w w'
theorem isBk_loop {ns : List ByteArray} {ls : List Sqr} (h : BkIn ns ls) (hb : isBk ns ls = true) : ∀ q ∈ ls, okS q := by
  have h2 := isBkI_eq ns ls h.b
  rw [hb] at h2
  unfold isBkI at h2
  simp only [Bool.and_eq_true] at h2
  exact fun q hq => lpB_ok (h.b q hq) (List.all_eq_true.1 h2.1.1.1.2 q hq)



end Go.Proofs.Ytinjjaoikofkdaa
