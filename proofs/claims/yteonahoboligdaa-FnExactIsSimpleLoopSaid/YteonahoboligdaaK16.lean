/- A drawn region, each operation under an act of its own that holds what the operation reads. -/
import Derived.Test.YteonahoboligdaaRT
import Derived.Test.YteonahoboligdaaK12
namespace Go.Proofs.Yteonahoboligdaa
set_option linter.unusedSimpArgs false
set_option linter.unusedVariables false
open Go Go.RowKit

def updD (D : Nat → Bool) (i : Nat) : Nat → Bool := fun j => if j = i then true else D j
def updG (g : Nat → Value) (i : Nat) (u : Value) : Nat → Value := fun j => if j = i then u else g j
/-- What a place holds: what the operation that writes it has given, or what was there. -/
def readV (l : List Oper) (a : Act) (g : Nat → Value) (t : Nat) : Value := match l.findIdx? (fun o => o.dst == some t) with | some j => g j | none => a.tmps.getD t undef
theorem readV_full {l : List Oper} {a0 : Act} (hB : freeB l.toArray a0.tmps.size = true) (g : Nat → Value) (t : Nat) : (fullAct l 0 a0 g).tmps.getD t undef = readV l a0 g t := by
  unfold readV
  split
  · rename_i j hj
    obtain ⟨hlt, h1, _⟩ := List.findIdx?_eq_some_iff_getElem.1 hj
    have hd : l[j].dst = some t := by simpa using h1
    have hf := freeB_spec hB (show l.toArray[j]? = some l[j] by simp [hlt])
    rw [full_new l 0 a0 g t j l[j] (List.getElem?_eq_getElem hlt) hd (hf.lt t hd) fun j' o' h' hn => hf.own t hd j' o' (by simpa using h') hn, Nat.zero_add]
  · rename_i hn
    rw [List.findIdx?_eq_none_iff] at hn
    exact full_old l 0 a0 g t fun o ho hd => by
      have := hn o ho
      simp [hd] at this
/-- THE RULE, each operation under an act of one's own that holds what the operation reads. -/
theorem wp_region_own {P : Program} {id : Nat} {Q : Exit → Act → World → Prop} {a0 : Act} {w : World} {l : List Oper} (S : (Nat → Bool) → (Nat → Value) → World → Prop) (hm : P.follows .mixedOrders = true) (hB : freeB l.toArray a0.tmps.size = true)
    (g0 : Nat → Value) (hS : S (fun _ => false) g0 w.drew)
    (hstep : ∀ i o, l[i]? = some o → ∀ D g w, D i = false → (∀ e ∈ o.after, Region.binds .any e = true → D e.on = true) → S D g w →
      ∃ A : Act, (∀ t ∈ o.looksAt l.toArray, A.tmps.getD t undef = readV l a0 g t) ∧ yield P o A w fun u w' => S (updD D i) (updG g i u) w')
    (hQ : ∀ D g w, (∀ i, i < l.length → D i = true) → S D g w → Q .normal (fullAct l 0 a0 g) w) : (Code.region id l.toArray true).wp P Q a0 w := by
  refine wp_region_free S hm hB g0 hS (fun i o hi D g w hi0 hpre hS => ?_) hQ
  obtain ⟨A, hA, hy⟩ := hstep i o hi D g w hi0 hpre hS
  have hsel : ∀ cs b, o.op ≠ .select cs b := fun cs b => by
    simp only [freeB, Bool.and_eq_true] at hB
    exact Region.noSelect_spec hB.1 i o cs b (by simpa using hi)
  have he : execOp (fullAct l 0 a0 g).eval o = execOp A.eval o := execOp_congr o hsel fun x hx => by
    cases x with
    | tmp t =>
      have ht : t ∈ o.looksAt l.toArray := List.mem_append_left _ (List.mem_filterMap.2 ⟨.tmp t, by simpa using hx, rfl⟩)
      show (fullAct l 0 a0 g).tmps.getD t undef = A.tmps.getD t undef
      rw [hA t ht, readV_full hB]
    | _ => rfl
  unfold yield at hy ⊢
  rw [he]; exact hy

theorem updD_at (D : Nat → Bool) (i : Nat) : updD D i i = true := if_pos rfl
theorem updD_ne {D : Nat → Bool} {i j : Nat} (h : j ≠ i) : updD D i j = D j := if_neg h
theorem updG_at (g : Nat → Value) (i : Nat) (u : Value) : updG g i u i = u := if_pos rfl
theorem updG_ne {g : Nat → Value} {i j : Nat} {u : Value} (h : j ≠ i) : updG g i u j = g j := if_neg h
end Go.Proofs.Yteonahoboligdaa
