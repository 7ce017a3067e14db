/- A region that draws its order may be walked in the order of its text, where each operation gives one value in whatever world that meets a condition, and keeps the condition. -/
import Derived.Test.YthdldlpflieeoaaQ1
import Derived.Still
import Derived.StillTail
import Derived.Laws.CopyOwn
import Derived.Laws.OwnMore
import Derived.Laws.MakeOwn
import Derived.Test.YthdldlpflieeoaaRows
import Derived.Laws.IdiomStrings
import Derived.Laws.Concat
import Derived.Laws.Strings
namespace Go.Proofs.Ythdldlpflieeoaa
set_option linter.unusedSimpArgs false
set_option linter.unusedVariables false
open Go

section
variable {P : Program} {ops : Array Oper} {md : Region.Mode} {S : World → Prop}

/-- What an operation gives, and in which world. -/
def yieldR (P : Program) (o : Oper) (R : Value → World → Prop) : Result Next → Prop
  | .ok (.value u) w' => R u w'
  | .ok .skip w' => R undef w'
  | .ok (.enter f args) w' => Calls P f args w' fun e w'' => ∃ u, e = .returned u ∧ R u w''
  | .ok (.row row args) w' => Rows P row args w' R
  | _ => False
def yield (P : Program) (o : Oper) (a : Act) (w : World) (R : Value → World → Prop) : Prop := yieldR P o R ((execOp a.eval o).run P w)

/-- One value in each world that meets S; S is kept. -/
def YieldsS (P : Program) (ops : Array Oper) (S : World → Prop) (o : Oper) (v : Value) (a : Act) : Prop :=
  (Region.wanted o (yielded ops a.tmps) = true ∧ ∀ w, S w → yield P o a w fun u w' => (o.dst ≠ none → u = v) ∧ S w') ∨ (Region.wanted o (yielded ops a.tmps) = false ∧ v = undef)
theorem YieldsS.of_same {o : Oper} {v : Value} {a a' : Act} (hy : YieldsS P ops S o v a) (he : execOp a'.eval o = execOp a.eval o)
    (hw : Region.wanted o (yielded ops a'.tmps) = Region.wanted o (yielded ops a.tmps)) : YieldsS P ops S o v a' := by
  unfold YieldsS yield at *
  rw [he, hw]
  exact hy

def stOpT (P : Program) (ops : Array Oper) (S : World → Prop) (i : Nat) (K : Act → Prop) (a : Act) : Prop :=
  match ops[i]? with
  | none => K a
  | some o => ∃ v, YieldsS P ops S o v a ∧ K (a.put o.dst v)
theorem stOpT_mono {i : Nat} {a : Act} {K K' : Act → Prop} (h : ∀ a, K a → K' a) (hh : stOpT P ops S i K a) : stOpT P ops S i K' a := by
  unfold stOpT at *
  split
  · exact h _ (by simpa [*] using hh)
  · rename_i o ho
    simp only [ho] at hh
    obtain ⟨v, h1, h2⟩ := hh
    exact ⟨v, h1, h _ h2⟩

def wpAnyT (P : Program) (md : Region.Mode) (ops : Array Oper) (S : World → Prop) (Q : Act → Prop) : Nat → Array Bool → Act → Prop
  | 0, listed, a => Region.ready md ops listed = [] ∧ Q a
  | fuel + 1, listed, a => (Region.ready md ops listed = [] → Q a) ∧ ∀ i ∈ Region.ready md ops listed, stOpT P ops S i (wpAnyT P md ops S Q fuel (listed.setIfInBounds i true)) a

theorem put_none (a : Act) (o : Oper) (u v : Value) (h : o.dst ≠ none → u = v) : a.put o.dst u = a.put o.dst v := by
  cases hd : o.dst with
  | none => rfl
  | some d => rw [h (by simp [hd])]

theorem wpOp_of_stOpT {i : Nat} {a : Act} {w : World} {K : Act → Prop} {K' : Act → World → Prop} {Q' : Exit → Act → World → Prop} (hS : S w) (h : ∀ a w, S w → K a → K' a w) (hh : stOpT P ops S i K a) : wpOp P ops Q' i K' a w := by
  unfold stOpT at hh
  unfold wpOp
  split
  · rename_i ho; simp only [ho] at hh; exact h _ _ hS hh
  · rename_i o ho
    simp only [ho] at hh
    obtain ⟨v, hy, hK⟩ := hh
    rcases hy with ⟨hw, hy⟩ | ⟨hw, rfl⟩
    · rw [if_pos hw]
      refine .inl ?_
      have := hy w hS
      unfold yield at this
      unfold Oper.wp
      generalize (execOp a.eval o).run P w = r at *
      cases r with
      | ok n w' =>
        cases n <;> simp only [yieldR] at this <;> simp only [Oper.upon]
        case value u => rw [put_none a o u v this.1]; exact h _ _ this.2 hK
        case skip => rw [put_none a o _ v this.1]; exact h _ _ this.2 hK
        case enter f args =>
          exact this.mono fun e w'' ⟨u, he, h1, h2⟩ => by subst he; show K' (a.put o.dst u) w''; rw [put_none a o u v h1]; exact h _ _ h2 hK
        case row row args =>
          exact Rows.mono this fun u w'' ⟨h1, h2⟩ => by rw [put_none a o u v h1]; exact h _ _ h2 hK
      | halt x w' => simp only [yieldR] at this
    · rw [if_neg (by simp [hw])]
      exact h _ _ hS hK

theorem wpAny_of_T {Q : Act → Prop} {Q' : Exit → Act → World → Prop} (hQ : ∀ a w, S w → Q a → Q' .normal a w) : ∀ (fuel : Nat) (listed : Array Bool) (a : Act) (w : World), S w →
    wpAnyT P md ops S Q fuel listed a → wpAny P md ops Q' fuel listed a w
  | 0, _, _, _, hS, h => ⟨h.1, hQ _ _ hS h.2⟩
  | fuel + 1, _, _, _, hS, h => ⟨fun h0 => hQ _ _ hS (h.1 h0), fun i hi => wpOp_of_stOpT hS (fun a' w' hS' => wpAny_of_T hQ fuel _ a' w' hS') (h.2 i hi)⟩

theorem stOpT_put {j : Nat} {oi oj : Oper} {v : Value} (hj : ops[j]? = some oj) (hap : oi.apart ops oj = true)
    (hsi : ∀ cs b, oi.op ≠ .select cs b) (hsj : ∀ cs b, oj.op ≠ .select cs b) {K : Act → Prop} {a : Act}
    (hy : YieldsS P ops S oi v a) (h : stOpT P ops S j K (a.put oi.dst v)) :
    stOpT P ops S j (fun a' => YieldsS P ops S oi v a' ∧ K (a'.put oi.dst v)) a := by
  obtain ⟨h1, h2, h3⟩ := Oper.apart_spec hap
  unfold stOpT at *
  simp only [hj] at *
  obtain ⟨u, hu, hK⟩ := h
  refine ⟨u, hu.of_same (execOp_put oj hsj a oi.dst v h1).symm (wanted_put oj a oi.dst v h1).symm, hy.of_same (execOp_put oi hsi a oj.dst u h3) (wanted_put oi a oj.dst u h3), ?_⟩
  rw [← Act.put_comm a v u h2]
  exact hK

theorem wpAnyT_first {Q : Act → Prop} {i : Nat} {oi : Oper} {v : Value} (hi : ops[i]? = some oi) (hsel : ∀ (j : Nat) (o : Oper) cs b, ops[j]? = some o → o.op ≠ .select cs b) :
    ∀ (fuel : Nat) (listed : Array Bool) (a : Act),
      (∀ j oj, ops[j]? = some oj → j ≠ i → listed.getD j true = false → (∀ e ∈ oj.after, Region.binds md e = true → e.on ≠ i) → oi.apart ops oj = true) →
      i ∈ Region.ready md ops listed → YieldsS P ops S oi v a →
      wpAnyT P md ops S Q fuel (listed.setIfInBounds i true) (a.put oi.dst v) → wpAnyT P md ops S Q (fuel + 1) listed a := by
  intro fuel
  induction fuel with
  | zero =>
    intro listed a _ hr hy H
    refine ⟨fun h => (by rw [h] at hr; cases hr), fun j hj => ?_⟩
    by_cases hji : j = i
    · subst hji; unfold stOpT; simp only [hi]; exact ⟨v, hy, H⟩
    · have := ready_mono hj hji
      rw [H.1] at this
      cases this
  | succ fuel ih =>
    intro listed a hfree hr hy H
    refine ⟨fun h => (by rw [h] at hr; cases hr), fun j hj => ?_⟩
    by_cases hji : j = i
    · subst hji; unfold stOpT; simp only [hi]; exact ⟨v, hy, H⟩
    · have h1 := H.2 j (ready_mono hj hji)
      obtain ⟨hjun, oj, hoj, hall⟩ := mem_ready.1 hj
      have hnot : ∀ e ∈ oj.after, Region.binds md e = true → e.on ≠ i := fun e he hb heq => by
        have h1 := hall e he hb
        have h0 := (mem_ready.1 hr).1
        rw [heq] at h1
        rcases Nat.lt_or_ge i listed.size with h' | h'
        · simp [h'] at h0 h1; rw [h0] at h1; cases h1
        · simp [Array.getElem?_eq_none h'] at h1
      have h2 := stOpT_put hoj (hfree j oj hoj hji hjun hnot) (fun cs b => hsel i oi cs b hi) (fun cs b => hsel j oj cs b hoj) hy h1
      have hfree' : ∀ k ok, ops[k]? = some ok → k ≠ i → (listed.setIfInBounds j true).getD k true = false →
          (∀ e ∈ ok.after, Region.binds md e = true → e.on ≠ i) → oi.apart ops ok = true := fun k ok hk hki hun hno => by
        refine hfree k ok hk hki ?_ hno
        by_cases hjk : j = k
        · subst hjk; exact hjun
        · rw [getD_set_ne true hjk] at hun; exact hun
      refine stOpT_mono (fun a' h3 => ih (listed.setIfInBounds j true) a' hfree' (ready_mono hr (Ne.symm hji)) h3.1 ?_) h2
      rw [Array.setIfInBounds_comm _ _ hji]
      exact h3.2

/-- In the order of the text, each operation walked by itself in a world of which S alone is known. -/
def TQ (S : World → Prop) (a1 : Act) : Exit → Act → World → Prop := fun e a' w' => e = .normal ∧ a' = a1 ∧ S w'
def dstOk (o : Oper) (a a1 : Act) : Bool := (match o.dst with | some d => decide (d < a.tmps.size) | none => true) && (a.defers.length == a1.defers.length)
def wpText (P : Program) (S : World → Prop) (ops : Array Oper) : List Oper → Act → Act → Prop
  | [], a, af => a = af
  | o :: rest, a, af => ∃ a1, dstOk o a a1 = true ∧ (∀ w, S w → wpList P ops (TQ S a1) [o] a w) ∧ wpText P S ops rest a1 af

theorem wpText_nil {a : Act} : wpText P S ops [] a a := rfl
theorem wpText_cons {o : Oper} {rest : List Oper} {a a1 af : Act} (hs : ∀ w, S w → wpList P ops (TQ S a1) [o] a w) (hd : dstOk o a a1 = true) (h : wpText P S ops rest a1 af) : wpText P S ops (o :: rest) a af :=
  ⟨a1, hd, hs, h⟩

theorem Calls.some {P : Program} {f : FuncId} {args : Array Value} {w : World} {R : Ending → World → Prop} (h : Calls P f args w R) : ∃ e w', R e w' := by
  obtain ⟨e, w', _, hR, _⟩ := h []
  exact ⟨e, w', hR⟩
theorem Rows.some {P : Program} {f : String} {args : Array Value} {w : World} {R : Value → World → Prop} (h : Rows P f args w R) : ∃ e w', R e w' := by
  obtain ⟨v, w', hR, _⟩ := h default []
  exact ⟨v, w', hR⟩

theorem put_val {a a1 : Act} {o : Oper} {u : Value} (hd : dstOk o a a1 = true) (h : a.put o.dst u = a1) : (o.dst ≠ none → u = (match o.dst with | some d => a1.tmps.getD d undef | none => undef)) := by
  intro hne
  subst h
  cases hd' : o.dst with
  | none => exact absurd hd' hne
  | some d =>
    simp [dstOk, hd'] at hd
    simp [Act.put, hd.1]

theorem yields_of_text {o : Oper} {a a1 : Act} (w0 : World) (hw0 : S w0) (hd : dstOk o a a1 = true) (hs : ∀ w, S w → wpList P ops (TQ S a1) [o] a w) : ∃ v, YieldsS P ops S o v a ∧ a1 = a.put o.dst v := by
  by_cases hw : Region.wanted o (yielded ops a.tmps) = true
  · have key : ∀ w, S w → yield P o a w fun u w' => a.put o.dst u = a1 ∧ S w' := by
      intro w hS
      have h := hs w hS
      unfold wpList at h
      rw [if_pos hw] at h
      rcases h with h | ⟨_, a', w', he, _⟩
      case inr => cases he
      unfold Oper.wp at h
      unfold yield
      generalize (execOp a.eval o).run P w = r at *
      cases r with
      | ok n w' =>
        cases n <;> simp only [Oper.upon, wpList, TQ, true_and] at h <;> simp only [yieldR]
        case value u => exact h
        case skip => exact h
        case defer d =>
          have h1 := congrArg (fun a => a.defers.length) h.1
          simp [dstOk] at hd
          cases hdd : o.dst <;> simp [Act.put, hdd] at h1 <;> omega
        case enter f args =>
          refine h.mono fun e w'' he => ?_
          cases e with
          | returned u => exact ⟨u, rfl, he⟩
          | panicked c => cases he.1
          | outgrown => obtain ⟨_, _, h, _⟩ := he; cases h
        case row row args => exact h
      | halt x w' => cases x <;> simp [Oper.upon, TQ] at h
    refine ⟨match o.dst with | some d => a1.tmps.getD d undef | none => undef, .inl ⟨hw, fun w hS => ?_⟩, ?_⟩
    · have h := key w hS
      unfold yield at *
      generalize (execOp a.eval o).run P w = r at *
      cases r with
      | ok n w' =>
        cases n <;> simp only [yieldR] at h ⊢
        case value u => exact ⟨put_val hd h.1, h.2⟩
        case skip => exact ⟨put_val hd h.1, h.2⟩
        case enter f args => exact h.mono fun e w'' ⟨u, he, h1, h2⟩ => ⟨u, he, put_val hd h1, h2⟩
        case row row args => exact Rows.mono h fun u w'' ⟨h1, h2⟩ => ⟨put_val hd h1, h2⟩
      | halt x w' => simp only [yieldR] at h
    · have h := key w0 hw0
      have hex : ∃ u, a.put o.dst u = a1 := by
        unfold yield at h
        generalize (execOp a.eval o).run P w0 = r at *
        cases r with
        | ok n w' =>
          cases n <;> simp only [yieldR] at h
          case value u => exact ⟨u, h.1⟩
          case skip => exact ⟨_, h.1⟩
          case enter f args => obtain ⟨_, _, u, _, h1, _⟩ := Calls.some h; exact ⟨u, h1⟩
          case row row args => obtain ⟨u, _, h1, _⟩ := Rows.some h; exact ⟨u, h1⟩
        | halt x w' => simp only [yieldR] at h
      obtain ⟨u, hu⟩ := hex
      rw [← put_none a o u _ (put_val hd hu), hu]
  · have hw' : Region.wanted o (yielded ops a.tmps) = false := by simpa using hw
    refine ⟨undef, .inr ⟨hw', rfl⟩, ?_⟩
    have h := hs w0 hw0
    unfold wpList at h
    rw [if_neg hw] at h
    simp only [wpList, TQ, true_and] at h
    exact h.1.symm

theorem wpAnyT_lex {af : Act} (w0 : World) (hw0 : S w0) (hs : Region.noSelect ops = true) : ∀ (l : List Oper) (k : Nat) (listed : Array Bool) (a : Act), (∀ j, l[j]? = ops[k + j]?) →
    Region.lexFrom md ops l.length k listed = true → wpText P S ops l a af → wpAnyT P md ops S (fun a' => a' = af) l.length listed a
  | [], _, _, _, _, hB, h => ⟨by simpa [Region.lexFrom] using hB, h⟩
  | o :: l, k, listed, a, hl, hB, h => by
    have h0 : ops[k]? = some o := by simpa using (hl 0).symm
    simp only [List.length_cons, Region.lexFrom, Bool.and_eq_true] at hB
    obtain ⟨⟨hr, hf⟩, hB'⟩ := hB
    obtain ⟨a1, hd, hstep, hrest⟩ := h
    obtain ⟨v, hy, rfl⟩ := yields_of_text w0 hw0 hd hstep
    exact wpAnyT_first h0 (Region.noSelect_spec hs) l.length listed a (Region.free_spec h0 hf) (by simpa using hr) hy
      (wpAnyT_lex w0 hw0 hs l (k + 1) _ _ (fun j => by have := hl (j + 1); simpa [Nat.add_assoc, Nat.add_comm 1 j] using this) hB' hrest)

/-- THE RULE: a drawn region in the order of its text. -/
theorem wp_region_text {id : Nat} {Q : Exit → Act → World → Prop} {a af : Act} {w : World} {l : List Oper} (S : World → Prop) (hm : P.follows .mixedOrders = true) (hB : Region.lexB .any l.toArray = true)
    (hS : S w.drew) (h : wpText P S l.toArray l a af) (hQ : ∀ w', S w' → Q .normal af w') : (Code.region id l.toArray true).wp P Q a w := by
  simp only [Region.lexB, Bool.and_eq_true] at hB
  refine wp_region_any hm (wpAny_of_T (S := S) (Q := fun a' => a' = af) (fun a' w' hS' ha => by subst ha; exact hQ _ hS') _ _ _ _ hS ?_)
  have := wpAnyT_lex (md := .any) w.drew hS hB.1 l 0 (Array.replicate l.toArray.size false) a (by simp) (by simpa using hB.2) h
  simpa using this
end
end Go.Proofs.Ythdldlpflieeoaa

/- A drawn region whose last operations are forced to come last: the others in the order of the text, each in a world of which a condition alone is known; then the last ones. -/
namespace Go.Proofs.Ythdldlpflieeoaa
set_option linter.unusedSimpArgs false
set_option linter.unusedVariables false
open Go

section
variable {P : Program} {ops : Array Oper} {md : Region.Mode} {S : World → Prop}

def wpAnyLT (P : Program) (md : Region.Mode) (ops : Array Oper) (S : World → Prop) (n : Nat) (L : Array Bool → Act → Prop) : Nat → Array Bool → Act → Prop
  | 0, listed, a => L listed a
  | f + 1, listed, a => Region.ready md ops listed ≠ [] ∧ ∀ i ∈ Region.ready md ops listed, i < n ∧ stOpT P ops S i (wpAnyLT P md ops S n L f (listed.setIfInBounds i true)) a

theorem wpAny_of_headT {n g : Nat} {L : Array Bool → Act → Prop} {Q' : Exit → Act → World → Prop} (hL : ∀ listed a w, S w → L listed a → wpAny P md ops Q' g listed a w) :
    ∀ (f : Nat) (listed : Array Bool) (a : Act) (w : World), S w → wpAnyLT P md ops S n L f listed a → wpAny P md ops Q' (f + g) listed a w
  | 0, listed, a, w, hS, h => by rw [Nat.zero_add]; exact hL _ _ _ hS h
  | f + 1, listed, a, w, hS, h => by
    rw [show f + 1 + g = (f + g) + 1 by omega]
    exact ⟨fun h0 => absurd h0 h.1, fun i hi => wpOp_of_stOpT hS (fun a' w' hS' h' => wpAny_of_headT hL f _ a' w' hS' h') (h.2 i hi).2⟩

theorem wpAnyLT_first {n i : Nat} {oi : Oper} {v : Value} {L : Array Bool → Act → Prop} (hi : ops[i]? = some oi) (hsel : ∀ (j : Nat) (o : Oper) cs b, ops[j]? = some o → o.op ≠ .select cs b)
    (hs : Region.sinkB md ops n = true) (hc : Region.chainB md ops n = true) (hn : n < ops.size) (hin : i < n)
    (hdone : ∀ listed a, L listed a → ∀ j ∈ Region.ready md ops listed, n ≤ j) :
    ∀ (f : Nat) (listed : Array Bool) (a : Act), HeadInv md ops n listed →
      (∀ j oj, ops[j]? = some oj → j ≠ i → listed.getD j true = false → (∀ e ∈ oj.after, Region.binds md e = true → e.on ≠ i) → oi.apart ops oj = true) →
      i ∈ Region.ready md ops listed → YieldsS P ops S oi v a →
      wpAnyLT P md ops S n L f (listed.setIfInBounds i true) (a.put oi.dst v) → wpAnyLT P md ops S n L (f + 1) listed a := by
  have self : ∀ (K : Act → Prop) (a : Act), YieldsS P ops S oi v a → K (a.put oi.dst v) → stOpT P ops S i K a := fun K a hy hK => by unfold stOpT; simp only [hi]; exact ⟨v, hy, hK⟩
  intro f
  induction f with
  | zero =>
    intro listed a inv _ hr hy H
    have hun := (mem_ready.1 hr).1
    refine ⟨fun h => (by rw [h] at hr; cases hr), fun j hj => ?_⟩
    have hjn : j < n := by
      rcases Nat.lt_or_ge j n with h | h
      · exact h
      · exact absurd hj (tail_waits hs hc hn inv _ i rfl hin hun j h)
    refine ⟨hjn, ?_⟩
    by_cases hji : j = i
    · subst hji; exact self _ _ hy H
    · have := hdone _ _ H j (ready_mono hj hji)
      omega
  | succ f ih =>
    intro listed a inv hfree hr hy H
    have hun := (mem_ready.1 hr).1
    refine ⟨fun h => (by rw [h] at hr; cases hr), fun j hj => ?_⟩
    have hjn : j < n := by
      rcases Nat.lt_or_ge j n with h | h
      · exact h
      · exact absurd hj (tail_waits hs hc hn inv _ i rfl hin hun j h)
    refine ⟨hjn, ?_⟩
    by_cases hji : j = i
    · subst hji; exact self _ _ hy H
    · have h1 := (H.2 j (ready_mono hj hji)).2
      obtain ⟨hjun, oj, hoj, hall⟩ := mem_ready.1 hj
      have hnot : ∀ e ∈ oj.after, Region.binds md e = true → e.on ≠ i := fun e he hb heq => by
        have h1 := hall e he hb
        rw [heq, getD_both hun] at h1
        cases h1
      have h2 := stOpT_put hoj (hfree j oj hoj hji hjun hnot) (fun cs b => hsel i oi cs b hi) (fun cs b => hsel j oj cs b hoj) hy h1
      have hfree' : ∀ k ok, ops[k]? = some ok → k ≠ i → (listed.setIfInBounds j true).getD k true = false →
          (∀ e ∈ ok.after, Region.binds md e = true → e.on ≠ i) → oi.apart ops ok = true := fun k ok hk hki hun hno => by
        refine hfree k ok hk hki ?_ hno
        by_cases hjk : j = k
        · subst hjk; exact hjun
        · rw [getD_set_ne true hjk] at hun; exact hun
      refine stOpT_mono (fun a' h3 => ih (listed.setIfInBounds j true) a' (inv.set hj hjn) hfree' (ready_mono hr (Ne.symm hji)) h3.1 ?_) h2
      rw [Array.setIfInBounds_comm _ _ hji]
      exact h3.2

theorem wpAnyLT_lex {n g : Nat} {af : Act} (w0 : World) (hw0 : S w0) (hsel : Region.noSelect ops = true) (hs : Region.sinkB md ops n = true) (hc : Region.chainB md ops n = true) (hn : n < ops.size) :
    ∀ (l : List Oper) (k : Nat) (listed : Array Bool) (a : Act), (∀ j, j < l.length → l[j]? = ops[k + j]?) → k + l.length = n → HeadInv md ops n listed →
    Region.lexHead md ops g l.length k listed = true → wpText P S ops l a af →
    wpAnyLT P md ops S n (fun listed' a' => Region.seqB md ops g n listed' = true ∧ a' = af) l.length listed a
  | [], k, listed, a, _, hk, _, hB, h => by
    have : k = n := by simpa using hk
    subst this
    exact ⟨by simpa [Region.lexHead] using hB, h⟩
  | o :: l, k, listed, a, hl, hk, inv, hB, h => by
    have h0 : ops[k]? = some o := by simpa using (hl 0 (by simp)).symm
    simp only [List.length_cons, Region.lexHead, Bool.and_eq_true] at hB
    obtain ⟨⟨hr, hf⟩, hB'⟩ := hB
    have hkn : k < n := by simp only [List.length_cons] at hk; omega
    have hr' : k ∈ Region.ready md ops listed := by simpa using hr
    obtain ⟨a1, hd, hstep, hrest⟩ := h
    obtain ⟨v, hy, rfl⟩ := yields_of_text w0 hw0 hd hstep
    exact wpAnyLT_first h0 (Region.noSelect_spec hsel) hs hc hn hkn (fun listed' a' hL => seqB_ready hL.1) l.length listed a inv (Region.free_spec h0 hf) hr' hy
      (wpAnyLT_lex w0 hw0 hsel hs hc hn l (k + 1) _ _ (fun j hj => by have := hl (j + 1) (by simp; omega); simpa [Nat.add_assoc, Nat.add_comm 1 j] using this) (by simp only [List.length_cons] at hk; omega) (inv.set hr' hkn) hB' hrest)

/-- THE RULE WITH A TAIL: the first n operations in the order of the text; what stands behind them comes last. -/
theorem wp_region_text_tail {id : Nat} {Q : Exit → Act → World → Prop} {a af : Act} {w : World} {l : List Oper} (n : Nat) (S : World → Prop) (hm : P.follows .mixedOrders = true) (hB : Region.lexTailB .any l.toArray n = true)
    (hS : S w.drew) (h : wpText P S l.toArray (l.take n) a af) (hQ : ∀ w', S w' → wpList P l.toArray Q (l.drop n) af w') : (Code.region id l.toArray true).wp P Q a w := by
  simp only [Region.lexTailB, Bool.and_eq_true, decide_eq_true_eq] at hB
  obtain ⟨⟨⟨⟨hsel, hn⟩, hs⟩, hc⟩, hlex⟩ := hB
  have hn' : n < l.length := by simpa using hn
  have htl : (l.take n).length = n := by simp; omega
  have hdl : (l.drop n).length = l.toArray.size - n := by simp
  have inv0 : HeadInv .any l.toArray n (Array.replicate l.toArray.size false) :=
    ⟨by simp, fun j oj _ hl => (by rw [getD_replicate_false] at hl; cases hl), fun t _ ht => getD_in (by simpa using ht) (getD_replicate_false _ _)⟩
  have H := wpAnyLT_lex (md := .any) (g := l.toArray.size - n) w.drew hS hsel hs hc hn (l.take n) 0 _ a (fun j hj => by
    have hj' : j < n := by rw [htl] at hj; exact hj
    simp [hj']) (by simpa using htl) inv0 (by rw [htl]; exact hlex) h
  refine wp_region_any hm ?_
  have := wpAny_of_headT (S := S) (Q' := Q) (g := l.toArray.size - n) (fun listed a' w' hS' hL => by
    obtain ⟨hB, rfl⟩ := hL
    have h1 := wpAny_of_seq (P := P) (md := .any) (ops := l.toArray) (Q' := Q) (l.drop n) n listed a' w' (fun j => by simp) (by rw [hdl]; exact hB) (hQ w' hS')
    rwa [hdl] at h1) (l.take n).length _ a w.drew hS H
  rw [htl, show n + (l.toArray.size - n) = l.toArray.size by omega] at this
  exact this
end
end Go.Proofs.Ythdldlpflieeoaa

/- A drawn region with a new box among its operations: the box may be made at any time, so its place is not known ahead; all else in the order of the text, what stands behind the box comes last. -/
namespace Go.Proofs.Ythdldlpflieeoaa
set_option linter.unusedSimpArgs false
set_option linter.unusedVariables false
open Go Go.RowKit

section
variable {P : Program} {ops : Array Oper} {md : Region.Mode} {S : List Value → World → Prop}

/-- One value in each world that meets S; S is kept. -/
def YieldsG (P : Program) (ops : Array Oper) (S : List Value → World → Prop) (o : Oper) (v : Value) (a : Act) : Prop :=
  (Region.wanted o (yielded ops a.tmps) = true ∧ ∀ g w, S g w → yield P o a w fun u w' => (o.dst ≠ none → u = v) ∧ S g w') ∨ (Region.wanted o (yielded ops a.tmps) = false ∧ v = undef)
theorem YieldsG.of_same {o : Oper} {v : Value} {a a' : Act} (hy : YieldsG P ops S o v a) (he : execOp a'.eval o = execOp a.eval o)
    (hw : Region.wanted o (yielded ops a'.tmps) = Region.wanted o (yielded ops a.tmps)) : YieldsG P ops S o v a' := by
  unfold YieldsG yield at *
  rw [he, hw]
  exact hy

def stOpG (P : Program) (ops : Array Oper) (S : List Value → World → Prop) (i : Nat) (K : Act → Prop) (a : Act) : Prop :=
  match ops[i]? with
  | none => K a
  | some o => ∃ v, YieldsG P ops S o v a ∧ K (a.put o.dst v)
theorem stOpG_mono {i : Nat} {a : Act} {K K' : Act → Prop} (h : ∀ a, K a → K' a) (hh : stOpG P ops S i K a) : stOpG P ops S i K' a := by
  unfold stOpG at *
  split
  · exact h _ (by simpa [*] using hh)
  · rename_i o ho
    simp only [ho] at hh
    obtain ⟨v, h1, h2⟩ := hh
    exact ⟨v, h1, h _ h2⟩

theorem wpOp_of_stOpG {i : Nat} {a : Act} {w : World} {K : Act → Prop} {K' : Act → World → Prop} {Q' : Exit → Act → World → Prop} {g : List Value} (hS : S g w) (h : ∀ a w, S g w → K a → K' a w) (hh : stOpG P ops S i K a) : wpOp P ops Q' i K' a w := by
  unfold stOpG at hh
  unfold wpOp
  split
  · rename_i ho; simp only [ho] at hh; exact h _ _ hS hh
  · rename_i o ho
    simp only [ho] at hh
    obtain ⟨v, hy, hK⟩ := hh
    rcases hy with ⟨hw, hy⟩ | ⟨hw, rfl⟩
    · rw [if_pos hw]
      refine .inl ?_
      have := hy g w hS
      unfold yield at this
      unfold Oper.wp
      generalize (execOp a.eval o).run P w = r at *
      cases r with
      | ok n w' =>
        cases n <;> simp only [yieldR] at this <;> simp only [Oper.upon]
        case value u => rw [put_none a o u v this.1]; exact h _ _ this.2 hK
        case skip => rw [put_none a o _ v this.1]; exact h _ _ this.2 hK
        case enter f args =>
          exact this.mono fun e w'' ⟨u, he, h1, h2⟩ => by subst he; show K' (a.put o.dst u) w''; rw [put_none a o u v h1]; exact h _ _ h2 hK
        case row row args =>
          exact Rows.mono this fun u w'' ⟨h1, h2⟩ => by rw [put_none a o u v h1]; exact h _ _ h2 hK
      | halt x w' => simp only [yieldR] at this
    · rw [if_neg (by simp [hw])]
      exact h _ _ hS hK

theorem stOpG_put {j : Nat} {oi oj : Oper} {v : Value} (hj : ops[j]? = some oj) (hap : oi.apart ops oj = true)
    (hsi : ∀ cs b, oi.op ≠ .select cs b) (hsj : ∀ cs b, oj.op ≠ .select cs b) {K : Act → Prop} {a : Act}
    (hy : YieldsG P ops S oi v a) (h : stOpG P ops S j K (a.put oi.dst v)) :
    stOpG P ops S j (fun a' => YieldsG P ops S oi v a' ∧ K (a'.put oi.dst v)) a := by
  obtain ⟨h1, h2, h3⟩ := Oper.apart_spec hap
  unfold stOpG at *
  simp only [hj] at *
  obtain ⟨u, hu, hK⟩ := h
  refine ⟨u, hu.of_same (execOp_put oj hsj a oi.dst v h1).symm (wanted_put oj a oi.dst v h1).symm, hy.of_same (execOp_put oi hsi a oj.dst u h3) (wanted_put oi a oj.dst u h3), ?_⟩
  rw [← Act.put_comm a v u h2]
  exact hK

/-- In the order of the text, each operation walked by itself in a world of which S alone is known. -/
def TQG (S : List Value → World → Prop) (g : List Value) (a1 : Act) : Exit → Act → World → Prop := fun e a' w' => e = .normal ∧ a' = a1 ∧ S g w'
def wpTextG (P : Program) (S : List Value → World → Prop) (ops : Array Oper) : List Oper → Act → Act → Prop
  | [], a, af => a = af
  | o :: rest, a, af => ∃ a1, dstOk o a a1 = true ∧ (∀ g w, S g w → wpList P ops (TQG S g a1) [o] a w) ∧ wpTextG P S ops rest a1 af

theorem wpTextG_nil {a : Act} : wpTextG P S ops [] a a := rfl
theorem wpTextG_cons {o : Oper} {rest : List Oper} {a a1 af : Act} (hs : ∀ g w, S g w → wpList P ops (TQG S g a1) [o] a w) (hd : dstOk o a a1 = true) (h : wpTextG P S ops rest a1 af) : wpTextG P S ops (o :: rest) a af :=
  ⟨a1, hd, hs, h⟩

theorem put_valG {a a1 : Act} {o : Oper} {u : Value} (hd : dstOk o a a1 = true) (h : a.put o.dst u = a1) : (o.dst ≠ none → u = (match o.dst with | some d => a1.tmps.getD d undef | none => undef)) := by
  intro hne
  subst h
  cases hd' : o.dst with
  | none => exact absurd hd' hne
  | some d =>
    simp [dstOk, hd'] at hd
    simp [Act.put, hd.1]

theorem yieldsG_of_text {o : Oper} {a a1 : Act} (w0 : World) (g0 : List Value) (hw0 : S g0 w0) (hd : dstOk o a a1 = true) (hs : ∀ g w, S g w → wpList P ops (TQG S g a1) [o] a w) : ∃ v, YieldsG P ops S o v a ∧ a1 = a.put o.dst v := by
  by_cases hw : Region.wanted o (yielded ops a.tmps) = true
  · have key : ∀ g w, S g w → yield P o a w fun u w' => a.put o.dst u = a1 ∧ S g w' := by
      intro g w hS
      have h := hs g w hS
      unfold wpList at h
      rw [if_pos hw] at h
      rcases h with h | ⟨_, a', w', he, _⟩
      case inr => cases he
      unfold Oper.wp at h
      unfold yield
      generalize (execOp a.eval o).run P w = r at *
      cases r with
      | ok n w' =>
        cases n <;> simp only [Oper.upon, wpList, TQG, true_and] at h <;> simp only [yieldR]
        case value u => exact h
        case skip => exact h
        case defer d =>
          have h1 := congrArg (fun a => a.defers.length) h.1
          simp [dstOk] at hd
          cases hdd : o.dst <;> simp [Act.put, hdd] at h1 <;> omega
        case enter f args =>
          refine h.mono fun e w'' he => ?_
          cases e with
          | returned u => exact ⟨u, rfl, he⟩
          | panicked c => cases he.1
          | outgrown => obtain ⟨_, _, h, _⟩ := he; cases h
        case row row args => exact h
      | halt x w' => cases x <;> simp [Oper.upon, TQG] at h
    refine ⟨match o.dst with | some d => a1.tmps.getD d undef | none => undef, .inl ⟨hw, fun g w hS => ?_⟩, ?_⟩
    · have h := key g w hS
      unfold yield at *
      generalize (execOp a.eval o).run P w = r at *
      cases r with
      | ok n w' =>
        cases n <;> simp only [yieldR] at h ⊢
        case value u => exact ⟨put_valG hd h.1, h.2⟩
        case skip => exact ⟨put_valG hd h.1, h.2⟩
        case enter f args => exact h.mono fun e w'' ⟨u, he, h1, h2⟩ => ⟨u, he, put_valG hd h1, h2⟩
        case row row args => exact Rows.mono h fun u w'' ⟨h1, h2⟩ => ⟨put_valG hd h1, h2⟩
      | halt x w' => simp only [yieldR] at h
    · have h := key g0 w0 hw0
      have hex : ∃ u, a.put o.dst u = a1 := by
        unfold yield at h
        generalize (execOp a.eval o).run P w0 = r at *
        cases r with
        | ok n w' =>
          cases n <;> simp only [yieldR] at h
          case value u => exact ⟨u, h.1⟩
          case skip => exact ⟨_, h.1⟩
          case enter f args => obtain ⟨_, _, u, _, h1, _⟩ := Calls.some h; exact ⟨u, h1⟩
          case row row args => obtain ⟨u, _, h1, _⟩ := Rows.some h; exact ⟨u, h1⟩
        | halt x w' => simp only [yieldR] at h
      obtain ⟨u, hu⟩ := hex
      rw [← put_none a o u _ (put_valG hd hu), hu]
  · have hw' : Region.wanted o (yielded ops a.tmps) = false := by simpa using hw
    refine ⟨undef, .inr ⟨hw', rfl⟩, ?_⟩
    have h := hs g0 w0 hw0
    unfold wpList at h
    rw [if_neg hw] at h
    simp only [wpList, TQG, true_and] at h
    exact h.1.symm


/-- The act with the values of the operations from k on. -/
def puts (ops : Array Oper) : Nat → Act → List Value → Act
  | _, a, [] => a
  | k, a, v :: g => puts ops (k + 1) (match ops[k]? with | some o => a.put o.dst v | none => a) g
theorem puts_snoc : ∀ (g : List Value) (k : Nat) (a : Act) (v : Value) (o : Oper), ops[k + g.length]? = some o → puts ops k a (g ++ [v]) = (puts ops k a g).put o.dst v
  | [], k, a, v, o, h => by simp only [List.length_nil, Nat.add_zero] at h; simp [puts, h]
  | u :: g, k, a, v, o, h => by
    simp only [List.cons_append, puts]
    exact puts_snoc g (k + 1) _ v o (by rw [← h]; congr 1; simp only [List.length_cons]; omega)

def wpAnyG (P : Program) (md : Region.Mode) (ops : Array Oper) (S : List Value → World → Prop) (h n : Nat) (af : Act) (L : Array Bool → List Value → Act → Prop) : Nat → Array Bool → List Value → Act → Prop
  | 0, listed, g, a => L listed g a
  | f + 1, listed, g, a => Region.ready md ops listed ≠ [] ∧ ∀ i ∈ Region.ready md ops listed, i < n ∧
      (h ≤ i → i = h + g.length ∧ ∀ oi, ops[i]? = some oi → execOp a.eval oi = execOp (puts ops h af g).eval oi ∧ ∀ v, wpAnyG P md ops S h n af L f (listed.setIfInBounds i true) (g ++ [v]) (a.put oi.dst v)) ∧
      (i < h → stOpG P ops S i (wpAnyG P md ops S h n af L f (listed.setIfInBounds i true) g) a)

theorem wpOp_of_new {i : Nat} {oh : Oper} (hh : ops[i]? = some oh) (hg : oh.guard = none) {a af : Act} {R : Value → World → Prop} (he : execOp a.eval oh = execOp af.eval oh) {w : World} (hA : yield P oh af w R)
    {K' : Act → World → Prop} {Q' : Exit → Act → World → Prop} (hK : ∀ v w', R v w' → K' (a.put oh.dst v) w') : wpOp P ops Q' i K' a w := by
  unfold wpOp
  simp only [hh]
  rw [if_pos (by simp [Region.wanted, hg])]
  refine .inl ?_
  have := hA
  unfold yield at this
  rw [← he] at this
  unfold Oper.wp
  generalize (execOp a.eval oh).run P w = r at *
  cases r with
  | ok n w' =>
    cases n <;> simp only [yieldR] at this <;> simp only [Oper.upon]
    case value u => exact hK _ _ this
    case skip => exact hK _ _ this
    case enter f args => exact this.mono fun e w'' ⟨u, he, h1⟩ => by subst he; exact hK _ _ h1
    case row row args => exact Rows.mono this fun u w'' h1 => hK _ _ h1
  | halt x w' => simp only [yieldR] at this

theorem wpAny_of_headG {h n r : Nat} {af : Act} (hn : n ≤ ops.size) (hA : ∀ (g : List Value) (oi : Oper) (w : World), h + g.length < n → ops[h + g.length]? = some oi → S g w → oi.guard = none ∧ yield P oi (puts ops h af g) w fun u w' => S (g ++ [u]) w')
    {L : Array Bool → List Value → Act → Prop} {Q' : Exit → Act → World → Prop} (hL : ∀ listed g a w, S g w → L listed g a → wpAny P md ops Q' r listed a w) :
    ∀ (f : Nat) (listed : Array Bool) (g : List Value) (a : Act) (w : World), S g w → wpAnyG P md ops S h n af L f listed g a → wpAny P md ops Q' (f + r) listed a w
  | 0, listed, g, a, w, hS, hw => by rw [Nat.zero_add]; exact hL _ _ _ _ hS hw
  | f + 1, listed, g, a, w, hS, hw => by
    rw [show f + 1 + r = (f + r) + 1 by omega]
    refine ⟨fun h0 => absurd h0 hw.1, fun i hi => ?_⟩
    obtain ⟨hin, h1, h2⟩ := hw.2 i hi
    by_cases e : h ≤ i
    · obtain ⟨hig, h3⟩ := h1 e
      obtain ⟨oi, hoi⟩ : ∃ oi, ops[i]? = some oi := ⟨ops[i]'(by omega), by rw [Array.getElem?_eq_getElem]⟩
      obtain ⟨hx, h4⟩ := h3 oi hoi
      obtain ⟨hg, hy⟩ := hA g oi w (by omega) (by rw [← hig]; exact hoi) hS
      exact wpOp_of_new hoi hg hx hy fun v w' hS' => wpAny_of_headG hn hA hL f _ _ _ _ hS' (h4 v)
    · exact wpOp_of_stOpG hS (fun a' w' hS' hw' => wpAny_of_headG hn hA hL f _ _ a' w' hS' hw') (h2 (by omega))

theorem wpAnyG_first {h n i : Nat} {af : Act} {oi : Oper} {v : Value} {L : Array Bool → List Value → Act → Prop} (hi : ops[i]? = some oi) (hih : i < h) (hhn : h ≤ n)
    (hsel : ∀ (j : Nat) (o : Oper) cs b, ops[j]? = some o → o.op ≠ .select cs b)
    (hs : Region.sinkB md ops n = true) (hc : Region.chainB md ops n = true) (hn : n < ops.size)
    (hdone : ∀ listed g a, L listed g a → ∀ j ∈ Region.ready md ops listed, n ≤ j) :
    ∀ (f : Nat) (listed : Array Bool) (g : List Value) (a : Act), HeadInv md ops n listed →
      (∀ j oj, ops[j]? = some oj → j ≠ i → listed.getD j true = false → (∀ e ∈ oj.after, Region.binds md e = true → e.on ≠ i) → oi.apart ops oj = true) →
      i ∈ Region.ready md ops listed → YieldsG P ops S oi v a →
      wpAnyG P md ops S h n af L f (listed.setIfInBounds i true) g (a.put oi.dst v) → wpAnyG P md ops S h n af L (f + 1) listed g a := by
  intro f
  have self : ∀ (K : Act → Prop) (a : Act), YieldsG P ops S oi v a → K (a.put oi.dst v) → stOpG P ops S i K a := fun K a hy hK => by unfold stOpG; simp only [hi]; exact ⟨v, hy, hK⟩
  induction f with
  | zero =>
    intro listed g a inv _ hr hy H
    have hun := (mem_ready.1 hr).1
    refine ⟨fun h => (by rw [h] at hr; cases hr), fun j hj => ?_⟩
    have hjn : j < n := by
      rcases Nat.lt_or_ge j n with h' | h'
      · exact h'
      · exact absurd hj (tail_waits hs hc hn inv _ i rfl (by omega) hun j h')
    by_cases hji : j = i
    · subst hji; exact ⟨hjn, fun e => absurd e (by omega), fun _ => self _ _ hy H⟩
    · have := hdone _ _ _ H j (ready_mono hj hji)
      omega
  | succ f ih =>
    intro listed g a inv hfree hr hy H
    have hun := (mem_ready.1 hr).1
    refine ⟨fun h => (by rw [h] at hr; cases hr), fun j hj => ?_⟩
    have hjn : j < n := by
      rcases Nat.lt_or_ge j n with h' | h'
      · exact h'
      · exact absurd hj (tail_waits hs hc hn inv _ i rfl (by omega) hun j h')
    refine ⟨hjn, ?_⟩
    by_cases hji : j = i
    · subst hji; exact ⟨fun e => absurd e (by omega), fun _ => self _ _ hy H⟩
    · obtain ⟨_, g1, g2⟩ := H.2 j (ready_mono hj hji)
      obtain ⟨hjun, oj, hoj, hall⟩ := mem_ready.1 hj
      have hnot : ∀ e ∈ oj.after, Region.binds md e = true → e.on ≠ i := fun e he hb heq => by
        have h1 := hall e he hb
        rw [heq, getD_both hun] at h1
        cases h1
      have hap := hfree j oj hoj hji hjun hnot
      have hfree' : ∀ k ok, ops[k]? = some ok → k ≠ i → (listed.setIfInBounds j true).getD k true = false →
          (∀ e ∈ ok.after, Region.binds md e = true → e.on ≠ i) → oi.apart ops ok = true := fun k ok hk hki hun hno => by
        refine hfree k ok hk hki ?_ hno
        by_cases hjk : j = k
        · subst hjk; exact hjun
        · rw [getD_set_ne true hjk] at hun; exact hun
      refine ⟨fun e => ?_, fun e => ?_⟩
      · obtain ⟨hg0, g1⟩ := g1 e
        refine ⟨hg0, fun o2 ho2 => ?_⟩
        obtain rfl : oj = o2 := by rw [hoj] at ho2; exact Option.some.inj ho2
        obtain ⟨gx, g1⟩ := g1 oj hoj
        obtain ⟨p1, p2, p3⟩ := Oper.apart_spec hap
        refine ⟨(execOp_put oj (fun cs b => hsel j oj cs b hoj) a oi.dst v p1).symm.trans gx, fun u => ?_⟩
        refine ih (listed.setIfInBounds j true) (g ++ [u]) _ (inv.set hj hjn) hfree' (ready_mono hr (Ne.symm hji)) (hy.of_same (execOp_put oi (fun cs b => hsel i oi cs b hi) a oj.dst u p3) (wanted_put oi a oj.dst u p3)) ?_
        rw [Array.setIfInBounds_comm _ _ hji, ← Act.put_comm a v u p2]
        exact g1 u
      · have h2 := stOpG_put hoj hap (fun cs b => hsel i oi cs b hi) (fun cs b => hsel j oj cs b hoj) hy (g2 e)
        refine stOpG_mono (fun a' h3 => ih (listed.setIfInBounds j true) g a' (inv.set hj hjn) hfree' (ready_mono hr (Ne.symm hji)) h3.1 ?_) h2
        rw [Array.setIfInBounds_comm _ _ hji]
        exact h3.2

theorem wpAnyG_specials {h n r : Nat} {af : Act} (hn : n ≤ ops.size) : ∀ (f : Nat) (listed : Array Bool) (g : List Value), h + g.length + f = n → Region.seqB md ops (r + f) (h + g.length) listed = true →
    wpAnyG P md ops S h n af (fun listed' g a' => Region.seqB md ops r n listed' = true ∧ h + g.length = n ∧ a' = puts ops h af g) f listed g (puts ops h af g)
  | 0, listed, g, hk, hB => ⟨by rw [← hk]; exact hB, by omega, rfl⟩
  | f + 1, listed, g, hk, hB => by
    rw [← Nat.add_assoc] at hB
    simp only [Region.seqB, Bool.and_eq_true, decide_eq_true_eq] at hB
    refine ⟨fun h0 => (by rw [hB.1] at h0; cases h0), fun i hi => ?_⟩
    rw [hB.1] at hi
    obtain rfl : i = h + g.length := by simpa using hi
    refine ⟨by omega, fun _ => ⟨rfl, fun oi hoi => ⟨rfl, fun v => ?_⟩⟩, fun e => absurd e (by omega)⟩
    rw [← puts_snoc g h af v oi hoi]
    exact wpAnyG_specials hn f _ (g ++ [v]) (by simp only [List.length_append, List.length_singleton]; omega) (by simp only [List.length_append, List.length_singleton]; exact hB.2)

theorem wpAnyG_lex {h n r : Nat} {af : Act} (hhn : h ≤ n) (g0 : List Value) (w0 : World) (hw0 : S g0 w0) (hsel : Region.noSelect ops = true) (hs : Region.sinkB md ops n = true) (hc : Region.chainB md ops n = true) (hn : n < ops.size) :
    ∀ (l : List Oper) (k : Nat) (listed : Array Bool) (a : Act), (∀ j, j < l.length → l[j]? = ops[k + j]?) → k + l.length = h → HeadInv md ops n listed →
    Region.lexHead md ops (r + (n - h)) l.length k listed = true → wpTextG P S ops l a af →
    wpAnyG P md ops S h n af (fun listed' g a' => Region.seqB md ops r n listed' = true ∧ h + g.length = n ∧ a' = puts ops h af g) (l.length + (n - h)) listed [] a
  | [], k, listed, a, _, hk, inv, hB, ht => by
    obtain rfl : k = h := by simpa using hk
    simp only [List.length_nil, Region.lexHead] at hB
    subst ht
    rw [List.length_nil, Nat.zero_add]
    exact wpAnyG_specials (by omega) (n - k) listed [] (by simp; omega) hB
  | o :: l, k, listed, a, hl, hk, inv, hB, ht => by
    have h0 : ops[k]? = some o := by simpa using (hl 0 (by simp)).symm
    simp only [List.length_cons] at hk hB ⊢
    rw [Region.lexHead] at hB
    simp only [Bool.and_eq_true] at hB
    obtain ⟨⟨hr, hf⟩, hB'⟩ := hB
    have hr' : k ∈ Region.ready md ops listed := by simpa using hr
    obtain ⟨a1, hd, hstep, hrest⟩ := ht
    obtain ⟨v, hy, rfl⟩ := yieldsG_of_text w0 g0 hw0 hd hstep
    rw [show l.length + 1 + (n - h) = (l.length + (n - h)) + 1 by omega]
    exact wpAnyG_first h0 (by omega) hhn (Region.noSelect_spec hsel) hs hc hn (fun listed' g a' hL => seqB_ready hL.1) _ listed [] a inv (Region.free_spec h0 hf) hr' hy
      (wpAnyG_lex hhn g0 w0 hw0 hsel hs hc hn l (k + 1) _ _ (fun j hj => by have := hl (j + 1) (by simp; omega); simpa [Nat.add_assoc, Nat.add_comm 1 j] using this) (by omega) (inv.set hr' (by omega)) hB' hrest)

def newB (ops : Array Oper) (h n : Nat) : Bool :=
  Region.noSelect ops && decide (n < ops.size) && decide (h ≤ n) && Region.sinkB .any ops n && Region.chainB .any ops n && Region.lexHead .any ops (ops.size - n + (n - h)) h 0 (Array.replicate ops.size false)

/-- THE RULE WITH NEW BOXES: the first h operations in the order of the text; those from h to n at any time, in their order; then what stands behind them. -/
theorem wp_region_text_new {id : Nat} {Q : Exit → Act → World → Prop} {a af : Act} {w : World} {l : List Oper} (h n : Nat) (S : List Value → World → Prop) (hm : P.follows .mixedOrders = true) (hB : newB l.toArray h n = true)
    (hA : ∀ (g : List Value) (oi : Oper) (w : World), h + g.length < n → l.toArray[h + g.length]? = some oi → S g w → oi.guard = none ∧ yield P oi (puts l.toArray h af g) w fun u w' => S (g ++ [u]) w')
    (hS : S [] w.drew) (ht : wpTextG P S l.toArray (l.take h) a af) (hQ : ∀ g w', h + g.length = n → S g w' → wpList P l.toArray Q (l.drop n) (puts l.toArray h af g) w') : (Code.region id l.toArray true).wp P Q a w := by
  simp only [newB, Bool.and_eq_true, decide_eq_true_eq] at hB
  obtain ⟨⟨⟨⟨⟨hsel, hn⟩, hhn⟩, hs⟩, hc⟩, hlex⟩ := hB
  have hn' : n < l.length := by simpa using hn
  have htl : (l.take h).length = h := by simp; omega
  have hdl : (l.drop n).length = l.toArray.size - n := by simp
  have inv0 : HeadInv .any l.toArray n (Array.replicate l.toArray.size false) :=
    ⟨by simp, fun j oj _ hl => (by rw [getD_replicate_false] at hl; cases hl), fun t _ ht => getD_in (by simpa using ht) (getD_replicate_false _ _)⟩
  have H := wpAnyG_lex (md := .any) (r := l.toArray.size - n) hhn [] w.drew hS hsel hs hc hn (l.take h) 0 _ a (fun j hj => by
    have hj' : j < h := by rw [htl] at hj; exact hj
    simp [hj']) (by simpa using htl) inv0 (by rw [htl]; exact hlex) ht
  refine wp_region_any hm ?_
  have := wpAny_of_headG (S := S) (Q' := Q) (r := l.toArray.size - n) (by omega) hA (fun listed g a' w' hS' hL => by
    obtain ⟨hB, hg, rfl⟩ := hL
    have h1 := wpAny_of_seq (P := P) (md := .any) (ops := l.toArray) (Q' := Q) (l.drop n) n listed _ w' (fun j => by simp) (by rw [hdl]; exact hB) (hQ g w' hg hS')
    rwa [hdl] at h1) ((l.take h).length + (n - h)) _ [] a w.drew hS H
  rw [htl, show h + (n - h) + (l.toArray.size - n) = l.toArray.size by omega] at this
  exact this

/-- One new box, or one store. -/
theorem wp_region_new1 {id : Nat} {Q : Exit → Act → World → Prop} {a af : Act} {w : World} {l : List Oper} (h : Nat) (o1 : Oper) (S : List Value → World → Prop) (hm : P.follows .mixedOrders = true) (hB : newB l.toArray h (h + 1) = true)
    (h1 : l[h]? = some o1) (hg1 : o1.guard = none) (hA : ∀ w, S [] w → yield P o1 af w fun u w' => S [u] w')
    (hS : S [] w.drew) (ht : wpTextG P S l.toArray (l.take h) a af) (hQ : ∀ v w', S [v] w' → wpList P l.toArray Q (l.drop (h + 1)) (af.put o1.dst v) w') : (Code.region id l.toArray true).wp P Q a w := by
  have h1' : l.toArray[h]? = some o1 := by simpa using h1
  refine wp_region_text_new h (h + 1) S hm hB (fun g oi w hg hoi hS => ?_) hS ht fun g w' hg hS => ?_
  · obtain rfl : g = [] := List.length_eq_zero_iff.1 (by omega)
    obtain rfl : o1 = oi := by rw [List.length_nil, Nat.add_zero, h1'] at hoi; exact Option.some.inj hoi
    exact ⟨hg1, hA w hS⟩
  · obtain ⟨v, rfl⟩ : ∃ v, g = [v] := List.length_eq_one_iff.1 (by omega)
    simp only [puts, h1']
    exact hQ v w' hS
/-- A new box and a store, or two boxes, .. -/
theorem wp_region_new2 {id : Nat} {Q : Exit → Act → World → Prop} {a af : Act} {w : World} {l : List Oper} (h : Nat) (o1 o2 : Oper) (S : List Value → World → Prop) (hm : P.follows .mixedOrders = true) (hB : newB l.toArray h (h + 2) = true)
    (h1 : l[h]? = some o1) (hg1 : o1.guard = none) (h2 : l[h + 1]? = some o2) (hg2 : o2.guard = none) (hA : ∀ w, S [] w → yield P o1 af w fun u w' => S [u] w') (hA2 : ∀ v w, S [v] w → yield P o2 (af.put o1.dst v) w fun u w' => S [v, u] w')
    (hS : S [] w.drew) (ht : wpTextG P S l.toArray (l.take h) a af) (hQ : ∀ v u w', S [v, u] w' → wpList P l.toArray Q (l.drop (h + 2)) ((af.put o1.dst v).put o2.dst u) w') : (Code.region id l.toArray true).wp P Q a w := by
  have h1' : l.toArray[h]? = some o1 := by simpa using h1
  have h2' : l.toArray[h + 1]? = some o2 := by simpa using h2
  refine wp_region_text_new h (h + 2) S hm hB (fun g oi w hg hoi hS => ?_) hS ht fun g w' hg hS => ?_
  · match g, hg, hoi, hS with
    | [], _, hoi, hS =>
      obtain rfl : o1 = oi := by rw [List.length_nil, Nat.add_zero, h1'] at hoi; exact Option.some.inj hoi
      exact ⟨hg1, hA w hS⟩
    | [v], _, hoi, hS =>
      obtain rfl : o2 = oi := by rw [List.length_singleton, h2'] at hoi; exact Option.some.inj hoi
      refine ⟨hg2, ?_⟩
      simp only [puts, h1']
      exact hA2 v w hS
    | _ :: _ :: _, hg, _, _ => simp only [List.length_cons] at hg; omega
  · match g, hg, hS with
    | [v, u], _, hS =>
      simp only [puts, h1', h2']
      exact hQ v u w' hS
    | [], hg, _ => simp only [List.length_nil] at hg; omega
    | [_], hg, _ => simp only [List.length_singleton] at hg; omega
    | _ :: _ :: _ :: _, hg, _ => simp only [List.length_cons] at hg; omega

/-! ### A new box of cells -/
theorem yield_alloc {oh : Oper} {ty : TypeId} (ho : oh.op = .alloc ty) {cs : Array Value} (hz : ∀ w, (zeroValue ty).run P w = .ok (.agg cs) w) {a : Act} {w : World} {R : Value → World → Prop}
    (hR : R (.pointer (some ⟨w.heap.size, 0, none⟩)) (w.alloc (.cells cs ty))) : yield P oh a w R := by
  unfold yield
  simp [execOp, ho, Instr.alloc, hz, newVar, newRow, Value.cells, yieldR, hR]
theorem yield_store {oh : Oper} {ty : TypeId} {x y : Operand} (ho : oh.op = .store ty x y) (hg : oh.guard = none) {a : Act} {w : World} {R : Value → World → Prop}
    (h : wpList P ops (fun e _ w' => e = .normal ∧ R undef w') [oh] a w) : yield P oh a w R := by
  unfold wpList at h
  rw [if_pos (by simp [Region.wanted, hg])] at h
  rcases h with h | ⟨_, a', w', he, _⟩
  case inr => cases he
  unfold Oper.wp at h
  unfold yield
  have hex : execOp a.eval oh = (do Instr.storeAt ty (a.eval x) (a.eval y); pure .skip) := by simp [execOp, ho]
  rw [hex] at h ⊢
  simp only [Sem.run_bind] at h ⊢
  generalize (Instr.storeAt ty (a.eval x) (a.eval y)).run P w = r at *
  cases r with
  | ok n w' => simp [Oper.upon, yieldR, wpList] at h ⊢; exact h
  | halt e w' => cases e <;> simp [Oper.upon] at h
/-- What is known of a new box at any place. -/
def Got (g : List Value) (w : World) (lo : Nat) (cs : Array Value) (t : Nat) : Prop := ∀ v u, g = v :: u → ∃ b, v = .pointer (some ⟨b, 0, none⟩) ∧ lo ≤ b ∧ blk w b cs t
theorem Got.none (w : World) (lo : Nat) (cs : Array Value) (t : Nat) : Got [] w lo cs t := fun v u h => by cases h
theorem Got.later {g : List Value} {w w' : World} {lo : Nat} {cs : Array Value} {t : Nat} (h : Got g w lo cs t) (hb : Below w.heap.size w w') : Got g w' lo cs t := fun v u e => by
  obtain ⟨b, h1, h2, h3⟩ := h v u e; exact ⟨b, h1, h2, h3.later hb⟩
theorem Got.new {w : World} {lo : Nat} (cs : Array Value) (t : Nat) (h : lo ≤ w.heap.size) : Got [.pointer (some ⟨w.heap.size, 0, Option.none⟩)] (w.alloc (.cells cs t)) lo cs t := fun v u e => by
  cases e; exact ⟨_, rfl, h, blk_new _ _ _ _ rfl⟩
theorem Got.made {w : World} {lo b : Nat} {cs : Array Value} {t : Nat} (h : lo ≤ b) (hb : blk w b cs t) (u : List Value) : Got (.pointer (some ⟨b, 0, Option.none⟩) :: u) w lo cs t := fun v u e => by
  cases e; exact ⟨_, rfl, h, hb⟩
end
end Go.Proofs.Ythdldlpflieeoaa

/- Drawn regions with operations that float among the others (new boxes, stores): the others in the order of a list. -/
namespace Go.Proofs.Ythdldlpflieeoaa
set_option linter.unusedSimpArgs false
set_option linter.unusedVariables false
open Go Go.RowKit

section
variable {P : Program} {ops : Array Oper} {md : Region.Mode} {S : List Value → World → Prop}

/-- The act with the values of the floating operations. -/
def putsI (ops : Array Oper) : List Nat → Act → List Value → Act
  | _, a, [] => a
  | [], a, _ :: _ => a
  | i :: L, a, v :: g => putsI ops L (match ops[i]? with | some o => a.put o.dst v | none => a) g
theorem putsI_snoc : ∀ (g : List Value) (L : List Nat) (a : Act) (v : Value) (i : Nat) (o : Oper), L[g.length]? = some i → ops[i]? = some o → putsI ops L a (g ++ [v]) = (putsI ops L a g).put o.dst v
  | [], L, a, v, i, o, hL, h => by
    match L, hL with
    | k :: L, hL =>
      obtain rfl : k = i := by simpa using hL
      simp only [List.nil_append, putsI, h]
  | u :: g, L, a, v, i, o, hL, h => by
    match L, hL with
    | k :: L, hL =>
      simp only [List.cons_append, putsI]
      exact putsI_snoc g L _ v i o (by simpa using hL) h

def wpAnyI (P : Program) (md : Region.Mode) (ops : Array Oper) (S : List Value → World → Prop) (Sp : List Nat) (n : Nat) (af : Act) (L : Array Bool → List Value → Act → Prop) : Nat → Array Bool → List Value → Act → Prop
  | 0, listed, g, a => L listed g a
  | f + 1, listed, g, a => Region.ready md ops listed ≠ [] ∧ ∀ i ∈ Region.ready md ops listed, i < n ∧
      (i ∈ Sp → Sp[g.length]? = some i ∧ ∀ oi, ops[i]? = some oi → execOp a.eval oi = execOp (putsI ops Sp af g).eval oi ∧ ∀ v, wpAnyI P md ops S Sp n af L f (listed.setIfInBounds i true) (g ++ [v]) (a.put oi.dst v)) ∧
      (i ∉ Sp → stOpG P ops S i (wpAnyI P md ops S Sp n af L f (listed.setIfInBounds i true) g) a)

theorem wpOp_of_newI {i : Nat} {oh : Oper} (hh : ops[i]? = some oh) (hg : oh.guard = none) {a af : Act} {R : Value → World → Prop} (he : execOp a.eval oh = execOp af.eval oh) {w : World} (hA : yield P oh af w R)
    {K' : Act → World → Prop} {Q' : Exit → Act → World → Prop} (hK : ∀ v w', R v w' → K' (a.put oh.dst v) w') : wpOp P ops Q' i K' a w := by
  unfold wpOp
  simp only [hh]
  rw [if_pos (by simp [Region.wanted, hg])]
  refine .inl ?_
  have := hA
  unfold yield at this
  rw [← he] at this
  unfold Oper.wp
  generalize (execOp a.eval oh).run P w = r at *
  cases r with
  | ok n w' =>
    cases n <;> simp only [yieldR] at this <;> simp only [Oper.upon]
    case value u => exact hK _ _ this
    case skip => exact hK _ _ this
    case enter f args => exact this.mono fun e w'' ⟨u, he, h1⟩ => by subst he; exact hK _ _ h1
    case row row args => exact Rows.mono this fun u w'' h1 => hK _ _ h1
  | halt x w' => simp only [yieldR] at this

theorem wpAny_of_headI {Sp : List Nat} {n r : Nat} {af : Act} (hn : n ≤ ops.size) (hA : ∀ (g : List Value) (i : Nat) (oi : Oper) (w : World), Sp[g.length]? = some i → ops[i]? = some oi → S g w → oi.guard = none ∧ yield P oi (putsI ops Sp af g) w fun u w' => S (g ++ [u]) w')
    {L : Array Bool → List Value → Act → Prop} {Q' : Exit → Act → World → Prop} (hL : ∀ listed g a w, S g w → L listed g a → wpAny P md ops Q' r listed a w) :
    ∀ (f : Nat) (listed : Array Bool) (g : List Value) (a : Act) (w : World), S g w → wpAnyI P md ops S Sp n af L f listed g a → wpAny P md ops Q' (f + r) listed a w
  | 0, listed, g, a, w, hS, hw => by rw [Nat.zero_add]; exact hL _ _ _ _ hS hw
  | f + 1, listed, g, a, w, hS, hw => by
    rw [show f + 1 + r = (f + r) + 1 by omega]
    refine ⟨fun h0 => absurd h0 hw.1, fun i hi => ?_⟩
    obtain ⟨hin, h1, h2⟩ := hw.2 i hi
    by_cases e : i ∈ Sp
    · obtain ⟨hig, h3⟩ := h1 e
      obtain ⟨oi, hoi⟩ : ∃ oi, ops[i]? = some oi := ⟨ops[i]'(by omega), by rw [Array.getElem?_eq_getElem]⟩
      obtain ⟨hx, h4⟩ := h3 oi hoi
      obtain ⟨hg, hy⟩ := hA g i oi w hig hoi hS
      exact wpOp_of_newI hoi hg hx hy fun v w' hS' => wpAny_of_headI hn hA hL f _ _ _ _ hS' (h4 v)
    · exact wpOp_of_stOpG hS (fun a' w' hS' hw' => wpAny_of_headI hn hA hL f _ _ a' w' hS' hw') (h2 e)

theorem wpAnyI_first {Sp : List Nat} {n i : Nat} {af : Act} {oi : Oper} {v : Value} {L : Array Bool → List Value → Act → Prop} (hi : ops[i]? = some oi) (hih : i ∉ Sp) (hin : i < n)
    (hsel : ∀ (j : Nat) (o : Oper) cs b, ops[j]? = some o → o.op ≠ .select cs b)
    (hT : ∀ listed, HeadInv md ops n listed → ∀ i, i < n → listed.getD i true = false → ∀ j ∈ Region.ready md ops listed, j < n)
    (hdone : ∀ listed g a, L listed g a → ∀ j ∈ Region.ready md ops listed, n ≤ j) :
    ∀ (f : Nat) (listed : Array Bool) (g : List Value) (a : Act), HeadInv md ops n listed →
      (∀ j oj, ops[j]? = some oj → j ≠ i → listed.getD j true = false → (∀ e ∈ oj.after, Region.binds md e = true → e.on ≠ i) → oi.apart ops oj = true) →
      i ∈ Region.ready md ops listed → YieldsG P ops S oi v a →
      wpAnyI P md ops S Sp n af L f (listed.setIfInBounds i true) g (a.put oi.dst v) → wpAnyI P md ops S Sp n af L (f + 1) listed g a := by
  intro f
  have self : ∀ (K : Act → Prop) (a : Act), YieldsG P ops S oi v a → K (a.put oi.dst v) → stOpG P ops S i K a := fun K a hy hK => by unfold stOpG; simp only [hi]; exact ⟨v, hy, hK⟩
  induction f with
  | zero =>
    intro listed g a inv _ hr hy H
    have hun := (mem_ready.1 hr).1
    refine ⟨fun h => (by rw [h] at hr; cases hr), fun j hj => ?_⟩
    have hjn : j < n := hT listed inv i hin hun j hj
    by_cases hji : j = i
    · subst hji; exact ⟨hjn, fun e => absurd e hih, fun _ => self _ _ hy H⟩
    · have := hdone _ _ _ H j (ready_mono hj hji)
      omega
  | succ f ih =>
    intro listed g a inv hfree hr hy H
    have hun := (mem_ready.1 hr).1
    refine ⟨fun h => (by rw [h] at hr; cases hr), fun j hj => ?_⟩
    have hjn : j < n := hT listed inv i hin hun j hj
    refine ⟨hjn, ?_⟩
    by_cases hji : j = i
    · subst hji; exact ⟨fun e => absurd e hih, fun _ => self _ _ hy H⟩
    · obtain ⟨_, g1, g2⟩ := H.2 j (ready_mono hj hji)
      obtain ⟨hjun, oj, hoj, hall⟩ := mem_ready.1 hj
      have hnot : ∀ e ∈ oj.after, Region.binds md e = true → e.on ≠ i := fun e he hb heq => by
        have h1 := hall e he hb
        rw [heq, getD_both hun] at h1
        cases h1
      have hap := hfree j oj hoj hji hjun hnot
      have hfree' : ∀ k ok, ops[k]? = some ok → k ≠ i → (listed.setIfInBounds j true).getD k true = false →
          (∀ e ∈ ok.after, Region.binds md e = true → e.on ≠ i) → oi.apart ops ok = true := fun k ok hk hki hun hno => by
        refine hfree k ok hk hki ?_ hno
        by_cases hjk : j = k
        · subst hjk; exact hjun
        · rw [getD_set_ne true hjk] at hun; exact hun
      refine ⟨fun e => ?_, fun e => ?_⟩
      · obtain ⟨hg0, g1⟩ := g1 e
        refine ⟨hg0, fun o2 ho2 => ?_⟩
        obtain rfl : oj = o2 := by rw [hoj] at ho2; exact Option.some.inj ho2
        obtain ⟨gx, g1⟩ := g1 oj hoj
        obtain ⟨p1, p2, p3⟩ := Oper.apart_spec hap
        refine ⟨(execOp_put oj (fun cs b => hsel j oj cs b hoj) a oi.dst v p1).symm.trans gx, fun u => ?_⟩
        refine ih (listed.setIfInBounds j true) (g ++ [u]) _ (inv.set hj hjn) hfree' (ready_mono hr (Ne.symm hji)) (hy.of_same (execOp_put oi (fun cs b => hsel i oi cs b hi) a oj.dst u p3) (wanted_put oi a oj.dst u p3)) ?_
        rw [Array.setIfInBounds_comm _ _ hji, ← Act.put_comm a v u p2]
        exact g1 u
      · have h2 := stOpG_put hoj hap (fun cs b => hsel i oi cs b hi) (fun cs b => hsel j oj cs b hoj) hy (g2 e)
        refine stOpG_mono (fun a' h3 => ih (listed.setIfInBounds j true) g a' (inv.set hj hjn) hfree' (ready_mono hr (Ne.symm hji)) h3.1 ?_) h2
        rw [Array.setIfInBounds_comm _ _ hji]
        exact h3.2

/-- From here on one operation alone is ready each time, in the order of a list; then c. -/
def seqI (md : Region.Mode) (ops : Array Oper) (c : Array Bool → Bool) : List Nat → Array Bool → Bool
  | [], listed => c listed
  | k :: L, listed => decide (Region.ready md ops listed = [k]) && decide (k < ops.size) && seqI md ops c L (listed.setIfInBounds k true)
def lexI (md : Region.Mode) (ops : Array Oper) (c : Array Bool → Bool) : List Nat → Array Bool → Bool
  | [], listed => c listed
  | k :: L, listed => (Region.ready md ops listed).contains k && Region.free md ops listed k && lexI md ops c L (listed.setIfInBounds k true)

theorem wpAnyI_specials {Sp : List Nat} {n r : Nat} {af : Act} (hsp : ∀ i ∈ Sp, i < n) : ∀ (L : List Nat) (listed : Array Bool) (g : List Value), Sp.drop g.length = L → g.length ≤ Sp.length → seqI md ops (fun l => Region.seqB md ops r n l) L listed = true →
    wpAnyI P md ops S Sp n af (fun listed' g a' => Region.seqB md ops r n listed' = true ∧ g.length = Sp.length ∧ a' = putsI ops Sp af g) L.length listed g (putsI ops Sp af g)
  | [], listed, g, hL, hg, hB => ⟨hB, by have := congrArg List.length hL; rw [List.length_drop] at this; simp at this; omega, rfl⟩
  | k :: L, listed, g, hL, hg, hB => by
    simp only [seqI, Bool.and_eq_true, decide_eq_true_eq] at hB
    have hk : Sp[g.length]? = some k := by
      have := congrArg (fun l => l[0]?) hL
      simpa [List.getElem?_drop] using this
    have hmem : k ∈ Sp := List.mem_of_getElem? hk
    refine ⟨fun h0 => (by rw [hB.1.1] at h0; cases h0), fun i hi => ?_⟩
    rw [hB.1.1] at hi
    obtain rfl : i = k := by simpa using hi
    refine ⟨hsp i hmem, fun _ => ⟨hk, fun oi hoi => ⟨rfl, fun v => ?_⟩⟩, fun e => absurd hmem e⟩
    rw [← putsI_snoc g Sp af v i oi hk hoi]
    refine wpAnyI_specials hsp L _ (g ++ [v]) ?_ ?_ hB.2
    · rw [List.length_append, List.length_singleton, ← List.drop_drop, hL]; rfl
    · have := (List.getElem?_eq_some_iff.1 hk).1
      simp only [List.length_append, List.length_singleton]; omega

theorem wpAnyI_lex {Sp : List Nat} {n r : Nat} {af : Act} (hsp : ∀ i ∈ Sp, i < n) (g0 : List Value) (w0 : World) (hw0 : S g0 w0) (hsel : Region.noSelect ops = true) (hT : ∀ listed, HeadInv md ops n listed → ∀ i, i < n → listed.getD i true = false → ∀ j ∈ Region.ready md ops listed, j < n) :
    ∀ (I : List Nat) (l : List Oper) (listed : Array Bool) (a : Act), I.map (fun i => ops[i]?) = l.map some → (∀ i ∈ I, i ∉ Sp ∧ i < n) → HeadInv md ops n listed →
    lexI md ops (fun ls => seqI md ops (fun l => Region.seqB md ops r n l) Sp ls) I listed = true → wpTextG P S ops l a af →
    wpAnyI P md ops S Sp n af (fun listed' g a' => Region.seqB md ops r n listed' = true ∧ g.length = Sp.length ∧ a' = putsI ops Sp af g) (I.length + Sp.length) listed [] a
  | [], l, listed, a, hl, _, inv, hB, ht => by
    obtain rfl : l = [] := by cases l <;> simp_all
    simp only [lexI] at hB
    subst ht
    rw [List.length_nil, Nat.zero_add]
    have h0 : putsI ops Sp a [] = a := by cases Sp <;> rfl
    have := wpAnyI_specials (P := P) (S := S) (af := a) hsp Sp listed [] (by simp) (by simp) hB
    rwa [h0] at this
  | k :: I, l, listed, a, hl, hI, inv, hB, ht => by
    match l, hl, ht with
    | o :: l, hl, ht =>
      simp only [List.map_cons, List.cons.injEq] at hl
      obtain ⟨h0, hl⟩ := hl
      simp only [lexI, Bool.and_eq_true] at hB
      obtain ⟨⟨hr, hf⟩, hB'⟩ := hB
      have hr' : k ∈ Region.ready md ops listed := by simpa using hr
      obtain ⟨hk1, hk2⟩ := hI k (by simp)
      obtain ⟨a1, hd, hstep, hrest⟩ := ht
      obtain ⟨v, hy, rfl⟩ := yieldsG_of_text w0 g0 hw0 hd hstep
      rw [show (k :: I).length + Sp.length = (I.length + Sp.length) + 1 by simp only [List.length_cons]; omega]
      exact wpAnyI_first h0 hk1 hk2 (Region.noSelect_spec hsel) hT (fun listed' g a' hL => seqB_ready hL.1) _ listed [] a inv (Region.free_spec h0 hf) hr' hy
        (wpAnyI_lex hsp g0 w0 hw0 hsel hT I l _ _ hl (fun i hi => hI i (by simp [hi])) (inv.set hr' hk2) hB' hrest)

def newI (ops : Array Oper) (I Sp : List Nat) (n : Nat) : Bool :=
  Region.noSelect ops && decide (n ≤ ops.size) && Sp.all (fun i => decide (i < n)) && I.all (fun i => !Sp.contains i && decide (i < n)) && decide (I.length + Sp.length = n) && (decide (n = ops.size) || decide (n < ops.size) && Region.sinkB .any ops n && Region.chainB .any ops n) &&
    lexI .any ops (fun ls => seqI .any ops (fun l => Region.seqB .any ops (ops.size - n) n l) Sp ls) I (Array.replicate ops.size false)

/-- THE RULE WITH FLOATING OPERATIONS: those of I in this order; those of Sp at any time, in their order; from n on what stands behind all of them. -/
theorem wp_region_float {id : Nat} {Q : Exit → Act → World → Prop} {a af : Act} {w : World} {l : List Oper} (I Sp : List Nat) (n : Nat) (S : List Value → World → Prop) (hm : P.follows .mixedOrders = true) (hB : newI l.toArray I Sp n = true)
    (li : List Oper) (hli : I.map (fun i => l.toArray[i]?) = li.map some)
    (hA : ∀ (g : List Value) (i : Nat) (oi : Oper) (w : World), Sp[g.length]? = some i → l.toArray[i]? = some oi → S g w → oi.guard = none ∧ yield P oi (putsI l.toArray Sp af g) w fun u w' => S (g ++ [u]) w')
    (hS : S [] w.drew) (ht : wpTextG P S l.toArray li a af) (hQ : ∀ g w', g.length = Sp.length → S g w' → wpList P l.toArray Q (l.drop n) (putsI l.toArray Sp af g) w') : (Code.region id l.toArray true).wp P Q a w := by
  simp only [newI, Bool.and_eq_true, Bool.or_eq_true, decide_eq_true_eq, List.all_eq_true, Bool.not_eq_true'] at hB
  obtain ⟨⟨⟨⟨⟨⟨hsel, hn⟩, hsp⟩, hI⟩, hlen⟩, hs⟩, hlex⟩ := hB
  have hT : ∀ listed, HeadInv .any l.toArray n listed → ∀ i, i < n → listed.getD i true = false → ∀ j ∈ Region.ready .any l.toArray listed, j < n := fun listed inv i hin hun j hj => by
    rcases hs with hs | ⟨⟨hn', hs⟩, hc⟩
    · obtain ⟨_, oj, hoj, _⟩ := mem_ready.1 hj
      have := (Array.getElem?_eq_some_iff.1 hoj).1
      omega
    · rcases Nat.lt_or_ge j n with h' | h'
      · exact h'
      · exact absurd hj (tail_waits hs hc hn' inv _ i rfl hin hun j h')
  have hdl : (l.drop n).length = l.toArray.size - n := by simp
  have inv0 : HeadInv .any l.toArray n (Array.replicate l.toArray.size false) :=
    ⟨by simp, fun j oj _ hl => (by rw [getD_replicate_false] at hl; cases hl), fun t _ ht => getD_in (by simpa using ht) (getD_replicate_false _ _)⟩
  have H := wpAnyI_lex (md := .any) (r := l.toArray.size - n) hsp [] w.drew hS hsel hT I li _ a hli (fun i hi => ⟨by have := (hI i hi).1; simpa using this, (hI i hi).2⟩) inv0 hlex ht
  refine wp_region_any hm ?_
  have := wpAny_of_headI (S := S) (Q' := Q) (r := l.toArray.size - n) hn hA (fun listed g a' w' hS' hL => by
    obtain ⟨hB, hg, rfl⟩ := hL
    have h1 := wpAny_of_seq (P := P) (md := .any) (ops := l.toArray) (Q' := Q) (l.drop n) n listed _ w' (fun j => by simp) (by rw [hdl]; exact hB) (hQ g w' hg hS')
    rwa [hdl] at h1) (I.length + Sp.length) _ [] a w.drew hS H
  rw [hlen, show n + (l.toArray.size - n) = l.toArray.size by omega] at this
  exact this

/-- One operation floats. -/
theorem wp_region_float1 {id : Nat} {Q : Exit → Act → World → Prop} {a af : Act} {w : World} {l : List Oper} (I : List Nat) (s1 n : Nat) (o1 : Oper) (S : List Value → World → Prop) (hm : P.follows .mixedOrders = true) (hB : newI l.toArray I [s1] n = true)
    (h1 : l[s1]? = some o1) (hg1 : o1.guard = none) (hA : ∀ w, S [] w → yield P o1 af w fun u w' => S [u] w')
    (hS : S [] w.drew) (ht : wpTextG P S l.toArray (I.filterMap fun i => l[i]?) a af) (hQ : ∀ v w', S [v] w' → wpList P l.toArray Q (l.drop n) (af.put o1.dst v) w') : (Code.region id l.toArray true).wp P Q a w := by
  have h1' : l.toArray[s1]? = some o1 := by simpa using h1
  have hI : ∀ i ∈ I, i < l.length := by
    simp only [newI, Bool.and_eq_true, Bool.or_eq_true, decide_eq_true_eq, List.all_eq_true, Bool.not_eq_true'] at hB
    obtain ⟨⟨⟨⟨⟨⟨_, hn⟩, _⟩, hI⟩, _⟩, _⟩, _⟩ := hB
    exact fun i hi => by have := (hI i hi).2; have : n ≤ l.length := by simpa using hn
                         omega
  have hli : I.map (fun i => l.toArray[i]?) = (I.filterMap fun i => l[i]?).map some := by
    clear hB ht
    induction I with
    | nil => rfl
    | cons k I ih =>
      have hk := hI k (by simp)
      rw [List.map_cons, List.filterMap_cons, ih (fun i hi => hI i (by simp [hi]))]
      simp [hk]
  refine wp_region_float I [s1] n S hm hB _ hli (fun g i oi w hg hoi hS => ?_) hS ht fun g w' hg hS => ?_
  · match g, hg, hS with
    | [], hg, hS =>
      obtain rfl : s1 = i := by simpa using hg
      obtain rfl : o1 = oi := by rw [h1'] at hoi; exact Option.some.inj hoi
      exact ⟨hg1, hA w hS⟩
    | _ :: _, hg, _ => simp at hg
  · obtain ⟨v, rfl⟩ : ∃ v, g = [v] := List.length_eq_one_iff.1 (by simpa using hg)
    simp only [putsI, h1']
    exact hQ v w' hS
/-- Two operations float. -/
theorem wp_region_float2 {id : Nat} {Q : Exit → Act → World → Prop} {a af : Act} {w : World} {l : List Oper} (I : List Nat) (s1 s2 n : Nat) (o1 o2 : Oper) (S : List Value → World → Prop) (hm : P.follows .mixedOrders = true) (hB : newI l.toArray I [s1, s2] n = true)
    (h1 : l[s1]? = some o1) (hg1 : o1.guard = none) (h2 : l[s2]? = some o2) (hg2 : o2.guard = none) (hA : ∀ w, S [] w → yield P o1 af w fun u w' => S [u] w') (hA2 : ∀ v w, S [v] w → yield P o2 (af.put o1.dst v) w fun u w' => S [v, u] w')
    (hS : S [] w.drew) (ht : wpTextG P S l.toArray (I.filterMap fun i => l[i]?) a af) (hQ : ∀ v u w', S [v, u] w' → wpList P l.toArray Q (l.drop n) ((af.put o1.dst v).put o2.dst u) w') : (Code.region id l.toArray true).wp P Q a w := by
  have h1' : l.toArray[s1]? = some o1 := by simpa using h1
  have h2' : l.toArray[s2]? = some o2 := by simpa using h2
  have hI : ∀ i ∈ I, i < l.length := by
    simp only [newI, Bool.and_eq_true, Bool.or_eq_true, decide_eq_true_eq, List.all_eq_true, Bool.not_eq_true'] at hB
    obtain ⟨⟨⟨⟨⟨⟨_, hn⟩, _⟩, hI⟩, _⟩, _⟩, _⟩ := hB
    exact fun i hi => by have := (hI i hi).2; have : n ≤ l.length := by simpa using hn
                         omega
  have hli : I.map (fun i => l.toArray[i]?) = (I.filterMap fun i => l[i]?).map some := by
    clear hB ht
    induction I with
    | nil => rfl
    | cons k I ih =>
      have hk := hI k (by simp)
      rw [List.map_cons, List.filterMap_cons, ih (fun i hi => hI i (by simp [hi]))]
      simp [hk]
  refine wp_region_float I [s1, s2] n S hm hB _ hli (fun g i oi w hg hoi hS => ?_) hS ht fun g w' hg hS => ?_
  · match g, hg, hS with
    | [], hg, hS =>
      obtain rfl : s1 = i := by simpa using hg
      obtain rfl : o1 = oi := by rw [h1'] at hoi; exact Option.some.inj hoi
      exact ⟨hg1, hA w hS⟩
    | [v], hg, hS =>
      obtain rfl : s2 = i := by simpa using hg
      obtain rfl : o2 = oi := by rw [h2'] at hoi; exact Option.some.inj hoi
      simp only [putsI, h1']
      exact ⟨hg2, hA2 v w hS⟩
    | _ :: _ :: _, hg, _ => simp at hg
  · obtain ⟨v, u, rfl⟩ : ∃ v u, g = [v, u] := by
      match g, hg with
      | [v, u], _ => exact ⟨v, u, rfl⟩
    simp only [putsI, h1', h2']
    exact hQ v u w' hS
/-- Three operations float. -/
theorem wp_region_float3 {id : Nat} {Q : Exit → Act → World → Prop} {a af : Act} {w : World} {l : List Oper} (I : List Nat) (s1 s2 s3 n : Nat) (o1 o2 o3 : Oper) (S : List Value → World → Prop) (hm : P.follows .mixedOrders = true) (hB : newI l.toArray I [s1, s2, s3] n = true)
    (h1 : l[s1]? = some o1) (hg1 : o1.guard = none) (h2 : l[s2]? = some o2) (hg2 : o2.guard = none) (h3 : l[s3]? = some o3) (hg3 : o3.guard = none) (hA : ∀ w, S [] w → yield P o1 af w fun u w' => S [u] w') (hA2 : ∀ v w, S [v] w → yield P o2 (af.put o1.dst v) w fun u w' => S [v, u] w')
    (hA3 : ∀ v u w, S [v, u] w → yield P o3 ((af.put o1.dst v).put o2.dst u) w fun x w' => S [v, u, x] w')
    (hS : S [] w.drew) (ht : wpTextG P S l.toArray (I.filterMap fun i => l[i]?) a af) (hQ : ∀ v u x w', S [v, u, x] w' → wpList P l.toArray Q (l.drop n) (((af.put o1.dst v).put o2.dst u).put o3.dst x) w') : (Code.region id l.toArray true).wp P Q a w := by
  have h1' : l.toArray[s1]? = some o1 := by simpa using h1
  have h2' : l.toArray[s2]? = some o2 := by simpa using h2
  have h3' : l.toArray[s3]? = some o3 := by simpa using h3
  have hI : ∀ i ∈ I, i < l.length := by
    simp only [newI, Bool.and_eq_true, Bool.or_eq_true, decide_eq_true_eq, List.all_eq_true, Bool.not_eq_true'] at hB
    obtain ⟨⟨⟨⟨⟨⟨_, hn⟩, _⟩, hI⟩, _⟩, _⟩, _⟩ := hB
    exact fun i hi => by have := (hI i hi).2; have : n ≤ l.length := by simpa using hn
                         omega
  have hli : I.map (fun i => l.toArray[i]?) = (I.filterMap fun i => l[i]?).map some := by
    clear hB ht
    induction I with
    | nil => rfl
    | cons k I ih =>
      have hk := hI k (by simp)
      rw [List.map_cons, List.filterMap_cons, ih (fun i hi => hI i (by simp [hi]))]
      simp [hk]
  refine wp_region_float I [s1, s2, s3] n S hm hB _ hli (fun g i oi w hg hoi hS => ?_) hS ht fun g w' hg hS => ?_
  · match g, hg, hS with
    | [], hg, hS =>
      obtain rfl : s1 = i := by simpa using hg
      obtain rfl : o1 = oi := by rw [h1'] at hoi; exact Option.some.inj hoi
      exact ⟨hg1, hA w hS⟩
    | [v], hg, hS =>
      obtain rfl : s2 = i := by simpa using hg
      obtain rfl : o2 = oi := by rw [h2'] at hoi; exact Option.some.inj hoi
      simp only [putsI, h1']
      exact ⟨hg2, hA2 v w hS⟩
    | [v, u], hg, hS =>
      obtain rfl : s3 = i := by simpa using hg
      obtain rfl : o3 = oi := by rw [h3'] at hoi; exact Option.some.inj hoi
      simp only [putsI, h1', h2']
      exact ⟨hg3, hA3 v u w hS⟩
    | _ :: _ :: _ :: _, hg, _ => simp at hg
  · obtain ⟨v, u, x, rfl⟩ : ∃ v u x, g = [v, u, x] := by
      match g, hg with
      | [v, u, x], _ => exact ⟨v, u, x, rfl⟩
    simp only [putsI, h1', h2', h3']
    exact hQ v u x w' hS
end
end Go.Proofs.Ythdldlpflieeoaa

/- A drawn region in which every operation may come as soon as its forerunners are there: what holds is told by which have been done and what they gave. -/
namespace Go.Proofs.Ythdldlpflieeoaa
set_option linter.unusedSimpArgs false
set_option linter.unusedVariables false
open Go Go.RowKit

section
variable {P : Program}

/-- The act in which all operations of a list have given g. -/
def fullAct : List Oper → Nat → Act → (Nat → Value) → Act
  | [], _, a, _ => a
  | o :: l, k, a, g => fullAct l (k + 1) (a.put o.dst (g k)) g
theorem actput_size (a : Act) (d : Option Tmp) (v : Value) : (a.put d v).tmps.size = a.tmps.size := by cases d <;> simp [Act.put]
theorem actput_def (a : Act) (d : Option Tmp) (v : Value) : (a.put d v).defers = a.defers := by cases d <;> rfl
theorem actput_old {a : Act} {x : Option Tmp} {d : Tmp} (v : Value) (h : x ≠ some d) : (a.put x v).tmps.getD d undef = a.tmps.getD d undef := by
  cases x with
  | none => rfl
  | some e =>
    have : e ≠ d := fun h' => h (by rw [h'])
    simp [Act.put, Array.getD_eq_getD_getElem?, Array.getElem?_setIfInBounds_ne this]
theorem actput_new {a : Act} {d : Tmp} (v : Value) (h : d < a.tmps.size) : (a.put (some d) v).tmps.getD d undef = v := by simp [Act.put, h]
theorem full_size : ∀ (l : List Oper) (k : Nat) (a : Act) (g : Nat → Value), (fullAct l k a g).tmps.size = a.tmps.size
  | [], _, _, _ => rfl
  | o :: l, k, a, g => by rw [fullAct, full_size l, actput_size]
theorem full_def : ∀ (l : List Oper) (k : Nat) (a : Act) (g : Nat → Value), (fullAct l k a g).defers = a.defers
  | [], _, _, _ => rfl
  | o :: l, k, a, g => by rw [fullAct, full_def l, actput_def]
theorem full_old : ∀ (l : List Oper) (k : Nat) (a : Act) (g : Nat → Value) (d : Tmp), (∀ o ∈ l, o.dst ≠ some d) → (fullAct l k a g).tmps.getD d undef = a.tmps.getD d undef
  | [], _, _, _, _, _ => rfl
  | o :: l, k, a, g, d, h => by
    rw [fullAct, full_old l _ _ g d fun o' ho' => h o' (List.mem_cons_of_mem _ ho'), actput_old _ (h o (List.mem_cons_self ..))]
theorem full_new : ∀ (l : List Oper) (k : Nat) (a : Act) (g : Nat → Value) (d : Tmp) (j : Nat) (o : Oper), l[j]? = some o → o.dst = some d → d < a.tmps.size → (∀ j' o', l[j']? = some o' → j' ≠ j → o'.dst ≠ some d) → (fullAct l k a g).tmps.getD d undef = g (k + j)
  | x :: l, k, a, g, d, 0, o, hj, hd, hlt, hne => by
    obtain rfl : x = o := by simpa using hj
    rw [fullAct, full_old l _ _ g d fun o' ho' => by
      obtain ⟨i, hi⟩ := List.getElem?_of_mem ho'
      exact hne (i + 1) o' (by simpa using hi) (by omega), hd, actput_new _ hlt, Nat.add_zero]
  | x :: l, k, a, g, d, j + 1, o, hj, hd, hlt, hne => by
    rw [fullAct, full_new l (k + 1) _ g d j o (by simpa using hj) hd (by rw [actput_size]; exact hlt) fun j' o' h' hn => hne (j' + 1) o' (by simpa using h') (by omega), Nat.add_assoc, Nat.add_comm 1 j]
  | [], _, _, _, _, _, _, hj, _, _, _ => by simp at hj

/-- What the rule asks of a region: no guard; results in places of their own; forerunners stand ahead; what is read comes from a forerunner or was there. -/
def freeB (ops : Array Oper) (T : Nat) : Bool :=
  Region.noSelect ops && (List.range ops.size).all fun i => match ops[i]? with
    | none => true
    | some o => o.guard.isNone && (match o.dst with | some d => decide (d < T) && (List.range ops.size).all (fun j => match ops[j]? with | some o' => decide (j = i) || o'.dst != some d | none => true) | none => true) &&
        o.after.toList.all (fun e => !Region.binds .any e || decide (e.on < i)) &&
        (o.looksAt ops).all fun t => (List.range ops.size).all fun j => match ops[j]? with | some o' => o'.dst != some t || o.after.toList.any (fun e => Region.binds .any e && e.on == j) | none => true
structure FreeOp (ops : Array Oper) (T i : Nat) (o : Oper) : Prop where
  guard : o.guard = none
  lt : ∀ d, o.dst = some d → d < T
  own : ∀ d, o.dst = some d → ∀ j o', ops[j]? = some o' → j ≠ i → o'.dst ≠ some d
  ahead : ∀ e ∈ o.after, Region.binds .any e = true → e.on < i
  reads : ∀ t ∈ o.looksAt ops, ∀ j o', ops[j]? = some o' → o'.dst = some t → ∃ e ∈ o.after, Region.binds .any e = true ∧ e.on = j
theorem freeB_spec {ops : Array Oper} {T : Nat} (h : freeB ops T = true) {i : Nat} {o : Oper} (hi : ops[i]? = some o) : FreeOp ops T i o := by
  have hlt : ∀ {j o'}, ops[j]? = some o' → j < ops.size := fun h => (Array.getElem?_eq_some_iff.1 h).1
  simp only [freeB, Bool.and_eq_true, List.all_eq_true, List.mem_range] at h
  have h1 := h.2 i (hlt hi)
  simp only [hi, Bool.and_eq_true, Option.isNone_iff_eq_none, List.all_eq_true, List.mem_range] at h1
  obtain ⟨⟨⟨h2, h3⟩, h4⟩, h5⟩ := h1
  refine ⟨h2, fun d hd => ?_, fun d hd j o' hj hne => ?_, fun e he hb => ?_, fun t ht j o' hj hd => ?_⟩
  · simp only [hd, Bool.and_eq_true, decide_eq_true_eq] at h3; exact h3.1
  · simp only [hd, Bool.and_eq_true, decide_eq_true_eq, List.all_eq_true, List.mem_range] at h3
    have := h3.2 j (hlt hj)
    simp only [hj, Bool.or_eq_true, decide_eq_true_eq] at this
    rcases this with h | h
    · exact absurd h hne
    · simpa using h
  · have := h4 e (by simpa using he)
    simp only [hb, Bool.not_true, Bool.false_or, decide_eq_true_eq] at this
    exact this
  · have := h5 t ht j (hlt hj)
    simp only [hj, hd, bne_self_eq_false, Bool.false_or, List.any_eq_true, Bool.and_eq_true, beq_iff_eq] at this
    obtain ⟨e, he, h6⟩ := this
    exact ⟨e, by simpa using he, h6⟩

theorem wpOp_of_yield {ops : Array Oper} {i : Nat} {o : Oper} (ho : ops[i]? = some o) (hg : o.guard = none) {a a' : Act} (he : execOp a.eval o = execOp a'.eval o) {w : World} {R : Value → World → Prop} (hy : yield P o a' w R)
    {K : Act → World → Prop} {Q : Exit → Act → World → Prop} (h : ∀ u w', R u w' → K (a.put o.dst u) w') : wpOp P ops Q i K a w := by
  unfold wpOp
  simp only [ho]
  rw [if_pos (by simp [Region.wanted, hg])]
  refine .inl ?_
  unfold yield at hy
  rw [← he] at hy
  unfold Oper.wp
  generalize (execOp a.eval o).run P w = r at *
  cases r with
  | ok n w' =>
    cases n <;> simp only [yieldR] at hy <;> simp only [Oper.upon]
    case value u => exact h _ _ hy
    case skip => exact h _ _ hy
    case enter f args => exact hy.mono fun e w'' ⟨u, he, h1⟩ => by subst he; exact h _ _ h1
    case row row args => exact Rows.mono hy fun u w'' h1 => h _ _ h1
  | halt x w' => simp only [yieldR] at hy

/-- What holds between the operations. -/
def FInv (ops : Array Oper) (a0 : Act) (S : (Nat → Bool) → (Nat → Value) → World → Prop) (listed : Array Bool) (a : Act) (w : World) : Prop :=
  ∃ g : Nat → Value, a.defers = a0.defers ∧ a.tmps.size = a0.tmps.size ∧ (∀ i o d, ops[i]? = some o → o.dst = some d → listed.getD i false = true → a.tmps.getD d undef = g i) ∧
    (∀ d, (∀ i o, ops[i]? = some o → listed.getD i false = true → o.dst ≠ some d) → a.tmps.getD d undef = a0.tmps.getD d undef) ∧ S (fun i => listed.getD i false) g w

theorem all_listed {ops : Array Oper} {T : Nat} (hB : freeB ops T = true) {listed : Array Bool} (hsz : listed.size = ops.size) (h : Region.ready .any ops listed = []) : ∀ i, i < ops.size → listed.getD i false = true := by
  intro i
  induction i using Nat.strongRecOn with
  | ind i ih =>
    intro hi
    cases hl : listed.getD i false with
    | true => rfl
    | false =>
      exfalso
      have hi' : ops[i]? = some ops[i] := Array.getElem?_eq_getElem hi
      have : i ∈ Region.ready .any ops listed := mem_ready.2 ⟨by
        have hlt : i < listed.size := by omega
        simpa [Array.getD_eq_getD_getElem?, hlt] using hl, ops[i], hi', fun e he hb => by
        have h1 := (freeB_spec hB hi').ahead e he hb
        exact ih e.on h1 (by omega)⟩
      rw [h] at this
      cases this

theorem full_congr {l : List Oper} {a0 : Act} {S : (Nat → Bool) → (Nat → Value) → World → Prop} (hB : freeB l.toArray a0.tmps.size = true) {listed : Array Bool} {a : Act} {g : Nat → Value} {i : Nat} {o : Oper} (ho : l.toArray[i]? = some o)
    (hset : ∀ i o d, l.toArray[i]? = some o → o.dst = some d → listed.getD i false = true → a.tmps.getD d undef = g i)
    (hold : ∀ d, (∀ i o, l.toArray[i]? = some o → listed.getD i false = true → o.dst ≠ some d) → a.tmps.getD d undef = a0.tmps.getD d undef)
    (hpre : ∀ e ∈ o.after, Region.binds .any e = true → listed.getD e.on false = true) : execOp a.eval o = execOp (fullAct l 0 a0 g).eval o := by
  have hf := freeB_spec hB ho
  have hsel : ∀ cs b, o.op ≠ .select cs b := fun cs b => by
    simp only [freeB, Bool.and_eq_true] at hB
    exact Region.noSelect_spec hB.1 i o cs b ho
  refine execOp_congr o hsel fun x hx => ?_
  cases x with
  | tmp t =>
    have ht : t ∈ o.looksAt l.toArray := List.mem_append_left _ (List.mem_filterMap.2 ⟨.tmp t, by simpa using hx, rfl⟩)
    show a.tmps.getD t undef = (fullAct l 0 a0 g).tmps.getD t undef
    by_cases hw : ∃ (j : Nat) (o' : Oper), l.toArray[j]? = some o' ∧ o'.dst = some t
    · obtain ⟨j, o', hj, hd⟩ := hw
      obtain ⟨e, he, hb, rfl⟩ := hf.reads t ht j o' hj hd
      have hfj := freeB_spec hB hj
      rw [hset _ o' t hj hd (hpre e he hb), full_new l 0 a0 g t e.on o' (by simpa using hj) hd (hfj.lt t hd) fun j' o'' h' hn => hfj.own t hd j' o'' (by simpa using h') hn, Nat.zero_add]
    · rw [hold t fun j o' hj _ hd => hw ⟨j, o', hj, hd⟩, full_old l 0 a0 g t fun o' ho' hd => by
        obtain ⟨j, hj⟩ := List.getElem?_of_mem ho'
        exact hw ⟨j, o', by simpa using hj, hd⟩]
  | _ => rfl

/-- THE RULE. -/
theorem wp_region_free {id : Nat} {Q : Exit → Act → World → Prop} {a0 : Act} {w : World} {l : List Oper} (S : (Nat → Bool) → (Nat → Value) → World → Prop) (hm : P.follows .mixedOrders = true) (hB : freeB l.toArray a0.tmps.size = true)
    (g0 : Nat → Value) (hS : S (fun _ => false) g0 w.drew)
    (hstep : ∀ i o, l[i]? = some o → ∀ D g w, D i = false → (∀ e ∈ o.after, Region.binds .any e = true → D e.on = true) → S D g w → yield P o (fullAct l 0 a0 g) w fun u w' => S (fun j => if j = i then true else D j) (fun j => if j = i then u else g j) w')
    (hQ : ∀ D g w, (∀ i, i < l.length → D i = true) → S D g w → Q .normal (fullAct l 0 a0 g) w) : (Code.region id l.toArray true).wp P Q a0 w := by
  refine wp_region_any hm ?_
  have hend : ∀ listed a w, listed.size = l.toArray.size → FInv l.toArray a0 S listed a w → Region.ready .any l.toArray listed = [] → Q .normal a w := by
    intro listed a w hsz ⟨g, h1, h2, h3, h4, h5⟩ hr
    have hall := all_listed hB hsz hr
    have : a = fullAct l 0 a0 g := by
      obtain ⟨tm, df⟩ := a
      have e1 : tm = (fullAct l 0 a0 g).tmps := by
        apply Array.ext
        · rw [full_size]; exact h2
        · intro d hd hd'
          have e : tm.getD d undef = (fullAct l 0 a0 g).tmps.getD d undef := by
            by_cases hw : ∃ (j : Nat) (o' : Oper), l.toArray[j]? = some o' ∧ o'.dst = some d
            · obtain ⟨j, o', hj, hdd⟩ := hw
              have hfj := freeB_spec hB hj
              rw [show tm.getD d undef = g j from h3 j o' d hj hdd (hall j (Array.getElem?_eq_some_iff.1 hj).1), full_new l 0 a0 g d j o' (by simpa using hj) hdd (hfj.lt d hdd) fun j' o'' h' hn => hfj.own d hdd j' o'' (by simpa using h') hn, Nat.zero_add]
            · rw [show tm.getD d undef = a0.tmps.getD d undef from h4 d fun j o' hj _ hdd => hw ⟨j, o', hj, hdd⟩, full_old l 0 a0 g d fun o' ho' hdd => by
                obtain ⟨j, hj⟩ := List.getElem?_of_mem ho'
                exact hw ⟨j, o', by simpa using hj, hdd⟩]
          simpa [Array.getD_eq_getD_getElem?, hd, hd'] using e
      have e2 : df = (fullAct l 0 a0 g).defers := by rw [full_def]; exact h1
      rw [e1, e2]
    rw [this]
    exact hQ _ g w (fun i hi => hall i (by simpa using hi)) h5
  have main : ∀ (fuel : Nat) (listed : Array Bool) (a : Act) (w : World), listed.size = l.toArray.size → ((List.range l.toArray.size).filter fun i => !listed.getD i false).length ≤ fuel → FInv l.toArray a0 S listed a w → wpAny P .any l.toArray Q fuel listed a w := by
    intro fuel
    induction fuel with
    | zero =>
      intro listed a w hsz hc hI
      have hnil : Region.ready .any l.toArray listed = [] := by
        rw [List.eq_nil_iff_forall_not_mem]
        intro i hi
        obtain ⟨h0, o, ho, _⟩ := mem_ready.1 hi
        have hlt := (Array.getElem?_eq_some_iff.1 ho).1
        have : i ∈ (List.range l.toArray.size).filter fun i => !listed.getD i false := by
          rw [List.mem_filter]
          refine ⟨List.mem_range.2 hlt, ?_⟩
          have hlt' : i < listed.size := by omega
          simpa [Array.getD_eq_getD_getElem?, hlt'] using h0
        rw [List.eq_nil_of_length_eq_zero (Nat.le_zero.1 hc)] at this
        cases this
      exact ⟨hnil, hend listed a w hsz hI hnil⟩
    | succ fuel ih =>
      intro listed a w hsz hc hI
      refine ⟨hend listed a w hsz hI, fun i hi => ?_⟩
      obtain ⟨h0, o, ho, hpre⟩ := mem_ready.1 hi
      have hlt := (Array.getElem?_eq_some_iff.1 ho).1
      have hf := freeB_spec hB ho
      obtain ⟨g, h1, h2, h3, h4, h5⟩ := hI
      have hlt' : i < listed.size := by omega
      have h0' : listed.getD i false = false := by simpa [Array.getD_eq_getD_getElem?, hlt'] using h0
      have hD : ∀ j, (listed.setIfInBounds i true).getD j false = if j = i then true else listed.getD j false := fun j => by
        by_cases hj : j = i
        · subst hj; simp [Array.getD_eq_getD_getElem?, hlt']
        · rw [if_neg hj, getD_set_ne false (Ne.symm hj)]
      refine wpOp_of_yield ho hf.guard (full_congr (S := S) hB ho h3 h4 hpre) (hstep i o (by simpa using ho) _ g w h0' hpre h5) fun u w' hS' => ?_
      refine ih _ _ w' (by simpa using hsz) ?_ ⟨fun j => if j = i then u else g j, by rw [actput_def]; exact h1, by rw [actput_size]; exact h2, fun j o' d hj hd hl => ?_, fun d hd => ?_, ?_⟩
      · have e : ((List.range l.toArray.size).filter fun j => !(listed.setIfInBounds i true).getD j false) = ((List.range l.toArray.size).filter fun j => !listed.getD j false).filter fun j => !decide (j = i) := by
          rw [List.filter_filter]
          congr 1
          funext j
          rw [hD j]
          by_cases hj : j = i <;> simp [hj]
        rw [e]
        have := (List.length_filter_lt_length_iff_exists (p := fun j => !decide (j = i)) (l := (List.range l.toArray.size).filter fun j => !listed.getD j false)).2 ⟨i, List.mem_filter.2 ⟨List.mem_range.2 hlt, by simp [h0']⟩, by simp⟩
        omega
      · rw [hD j] at hl
        by_cases hj' : j = i
        · subst hj'
          obtain rfl : o = o' := by rw [ho] at hj; exact Option.some.inj hj
          show _ = if j = j then u else g j
          rw [hd, if_pos rfl, actput_new _ (by rw [h2]; exact hf.lt d hd)]
        · rw [if_neg hj'] at hl
          show _ = if j = i then u else g j
          rw [if_neg hj', actput_old _ fun h => (freeB_spec hB hj).own d hd i o ho (Ne.symm hj') h]
          exact h3 j o' d hj hd hl
      · rw [actput_old _ (hd i o ho (by rw [hD i, if_pos rfl]))]
        exact h4 d fun j o' hj hl => hd j o' hj (by
          rw [hD j]
          by_cases hj' : j = i
          · rw [if_pos hj']
          · rw [if_neg hj']; exact hl)
      · have e : (fun j => (listed.setIfInBounds i true).getD j false) = fun j => if j = i then true else listed.getD j false := funext hD
        rw [e]; exact hS'
  have e0 : ∀ i, (Array.replicate l.toArray.size false).getD i false = false := fun i => by
    simp only [Array.getD_eq_getD_getElem?, Array.getElem?_replicate]
    split <;> rfl
  refine main _ _ _ _ (by simp) (by
    refine Nat.le_trans (List.length_filter_le _ _) ?_
    simp) ⟨g0, rfl, rfl, fun i o d _ _ h => ?_, fun _ _ => rfl, ?_⟩
  · rw [e0 i] at h; cases h
  · rw [show (fun i => (Array.replicate l.toArray.size false).getD i false) = fun _ => false from funext e0]
    exact hS
end
end Go.Proofs.Ythdldlpflieeoaa

/- What is known of memory, in one list: blocks, rows of slices, rows that are read; and steps of the walk over it. -/
namespace Go.Proofs.Ythdldlpflieeoaa
set_option linter.unusedSimpArgs false
set_option linter.unusedVariables false
open Go Go.RowKit

def aggD : TypeDesc → Bool | .struct _ => true | .array _ _ => true | _ => false
def oneV : Value → Bool | .agg _ => false | .tuple _ => false | _ => true
/-- Of what was there, D alone may have changed. -/
structure Kept (D : Nat → Prop) (w w' : World) : Prop where
  os : w'.os = w.os
  tape : w'.tape = w.tape
  output : w'.output = w.output
  size : w.heap.size ≤ w'.heap.size
  block : ∀ k, k < w.heap.size → ¬ D k → w'.heap[k]? = w.heap[k]?
/-- A place of which something is known: a whole block; a slice that owns its row; the first cells of a row; what holds as long as some blocks are as they are. -/
inductive Ent where
  | box (b : Nat) (cs : Array Value) (t : Nat)
  | row (B : Nat) (v : Value) (n : Nat) (xs : List Value) (e size : Nat)
  | rd (g n : Nat) (f : Nat → Value)
  | res (D : Nat → Prop) (R : World → Prop)
def Ent.place : Ent → Nat → Prop
  | .box b _ _ => fun k => b = k
  | .row _ v _ _ _ _ => fun k => v.ownBlock = some k
  | .rd g _ _ => fun k => g = k
  | .res D _ => D
def Ent.holds (w : World) : Ent → Prop
  | .box b cs t => blk w b cs t
  | .row B v n xs e size => w.ownsRow B e size v n xs
  | .rd g n f => rds w g n f
  | .res D R => (∀ k, D k → k < w.heap.size) ∧ ∀ (E : Nat → Prop) (w' : World), Kept E w w' → (∀ k, D k → ¬ E k) → R w'
def Ent.rules (w : World) : Ent → Prop
  | .box b cs _ => (∀ j, w.cell? ⟨b, j, none⟩ = cs[j]?) ∧ (∀ j, w.frozen? ⟨b, j, none⟩ = false)
  | .row _ _ _ _ _ _ => True
  | .rd g n f => ∀ j, j < n → w.cell? ⟨g, j, none⟩ = some (f j)
  | .res _ _ => True
def isLoad : Op → Nat → Bool | .load t _, ty => t == ty | _, _ => false
def isStore : Op → Nat → Bool | .store t _ _, ty => t == ty | _, _ => false
def isBoxOp : Op → Nat → Bool | .box t _, ty => t == ty | _, _ => false
def isAlloc : Op → Nat → Bool | .alloc t, ty => t == ty | _, _ => false
def addrOf : Op → Operand | .load _ x => x | .store _ x _ => x | _ => .tmp 0
def valOf : Op → Operand | .store _ _ y => y | .box _ x => x | _ => .tmp 0
def isBsl : Op → Nat → Nat → Bool | .buildSlice t n _, ty, len => t == ty && n == len | _, _, _ => false
def bslParts : Op → List (Nat × Operand) | .buildSlice _ _ ps => ps.toList | _ => []
def isAppCallee : Callee → Bool | .builtin .append => true | _ => false
def isApp : Op → Nat → Bool | .call c, ty => isAppCallee c.callee && c.args.toList.length == 2 && c.argTypes.toList == [ty, ty] | _, _ => false
def appS : Op → Operand | .call c => c.args.toList.getD 0 (.tmp 0) | _ => .tmp 0
def appX : Op → Operand | .call c => c.args.toList.getD 1 (.tmp 0) | _ => .tmp 0
def isRow (L : List Ent) (i : Nat) : Bool := match L[i]? with | some (.row _ _ _ _ _ _) => true | _ => false
def isBox (L : List Ent) (i : Nat) : Bool := match L[i]? with | some (.box _ _ _) => true | _ => false
def entBlk (L : List Ent) (i : Nat) : Nat := match L[i]? with | some (.box b _ _) => b | _ => 0
def entCells (L : List Ent) (i : Nat) : Array Value := match L[i]? with | some (.box _ cs _) => cs | _ => #[]
def entT (L : List Ent) (i : Nat) : Nat := match L[i]? with | some (.box _ _ t) => t | _ => 0
def apart (x y : Ent) : Prop := ∀ b, x.place b → y.place b → False
theorem apart.symm {x y : Ent} (h : apart x y) : apart y x := fun b h1 h2 => h b h2 h1
/-- No block that was there may change. -/
def no : Nat → Prop := fun _ => False

theorem Kept.refl (D : Nat → Prop) (w : World) : Kept D w w := ⟨rfl, rfl, rfl, Nat.le_refl _, fun _ _ _ => rfl⟩
theorem Kept.trans {D E : Nat → Prop} {a b c : World} (h : Kept D a b) (k : Kept E b c) (hE : ∀ k, k < a.heap.size → E k → D k) : Kept D a c :=
  ⟨k.os.trans h.os, k.tape.trans h.tape, k.output.trans h.output, Nat.le_trans h.size k.size,
    fun i hi hd => (k.block i (Nat.lt_of_lt_of_le hi h.size) fun he => hd (hE i hi he)).trans (h.block i hi hd)⟩
theorem Kept.of_below {w w' : World} (h : Below w.heap.size w w') (D : Nat → Prop) : Kept D w w' := ⟨h.os, h.tape, h.output, h.size, fun k hk _ => h.block k hk⟩
theorem Kept.of_grown {w w' : World} {row : Option Nat} (h : w.grownBy w' row) : Kept (fun k => row = some k) w w' := ⟨h.os, h.tape, h.output, h.size, fun k hk hd => h.block k hk (fun e => hd e.symm)⟩
theorem Kept.below {w w' : World} (h : Kept no w w') : Below w.heap.size w w' := ⟨h.os, h.tape, h.output, h.size, fun k hk => h.block k hk id⟩
theorem Kept.grown {w w' : World} {b : Nat} (h : Kept (· = b) w w') : w.grownBy w' (some b) := ⟨h.os, h.tape, h.output, h.size, fun k hk hd => h.block k hk fun e => hd (by rw [e])⟩
theorem kept_put (w : World) (b : Nat) (cs : Array Value) (t : Nat) : Kept (· = b) w (World.put w b cs t) :=
  ⟨rfl, rfl, rfl, by simp [World.put], fun k _ hk => by simp only [World.put]; rw [Array.getElem?_setIfInBounds, if_neg (fun e => hk e.symm)]⟩
theorem kept_setCell (w : World) (b j : Nat) (v : Value) : Kept (· = b) w (w.setCell ⟨b, j, none⟩ v) :=
  ⟨rfl, rfl, rfl, by simp [World.setCell], fun k _ hk => by simp only [World.setCell, Array.getElem?_modify]; rw [if_neg (fun e => hk e.symm)]⟩
theorem kept_alloc (w : World) (o : Obj) (D : Nat → Prop) : Kept D w (w.alloc o) := .of_below ((Below.refl _ _).alloc (Nat.le_refl _) _) D
theorem kept_drew (w : World) (D : Nat → Prop) : Kept D w w.drew := ⟨rfl, rfl, rfl, Nat.le_refl _, fun _ _ _ => rfl⟩

theorem Ent.lt {w : World} {x : Ent} (h : x.holds w) {b : Nat} (hb : x.place b) : b < w.heap.size := by
  cases x with
  | box b' cs t => cases hb; exact blk.lt h
  | row B v n xs e size => exact (World.ownsRow.lt h b hb).2
  | rd g n f => cases hb; exact rds.lt h
  | res D R => exact h.1 b hb
theorem Ent.holds_of {w w' : World} {x : Ent} (h : x.holds w) {D : Nat → Prop} (hk : Kept D w w') (hd : ∀ b, x.place b → ¬ D b) : x.holds w' := by
  have hl := fun b => Ent.lt h (b := b)
  cases x with
  | box b cs t => exact ⟨by rw [hk.block b (hl b rfl) (hd b rfl)]; exact blk.out h⟩
  | row B v n xs e size =>
    have h' : w.ownsRow B e size v n xs := h
    rcases h'.2 with ⟨h1, h2⟩ | ⟨g, cap, cur, rfl, hb, hh, h3⟩
    · exact ⟨h'.1, .inl ⟨h1, h2⟩⟩
    · exact ⟨h'.1, .inr ⟨g, cap, cur, rfl, hb, by rw [hk.block g (hl g rfl) (hd g rfl)]; exact hh, h3⟩⟩
  | rd g n f =>
    have h' : rds w g n f := h
    have e := hk.block g (hl g rfl) (hd g rfl)
    exact ⟨Nat.lt_of_lt_of_le h'.lt hk.size, fun j hj => by rw [World.cell?_of_block (w := w) (a := ⟨g, j, none⟩) e]; exact h'.at_ j hj⟩
  | res E R =>
    refine ⟨fun k hk' => Nat.lt_of_lt_of_le (h.1 k hk') hk.size, fun F w2 hF hd2 => h.2 (fun k => D k ∨ F k) w2 ⟨hF.os.trans hk.os, hF.tape.trans hk.tape, hF.output.trans hk.output, Nat.le_trans hk.size hF.size, fun k hl hn => ?_⟩ fun k hE hn => ?_⟩
    · rw [hF.block k (Nat.lt_of_lt_of_le hl hk.size) fun h => hn (.inr h), hk.block k hl fun h => hn (.inl h)]
    · rcases hn with h | h
      · exact hd k hE h
      · exact hd2 k hE h
theorem Ent.res_now {w : World} {D : Nat → Prop} {R : World → Prop} (h : (Ent.res D R).holds w) : R w := h.2 no w ⟨rfl, rfl, rfl, Nat.le_refl _, fun _ _ _ => rfl⟩ fun _ _ h => h
theorem Ent.rules_of {w : World} {x : Ent} (h : x.holds w) : x.rules w := by
  cases x with
  | box b cs t =>
    have h' : blk w b cs t := h
    have := h'.out
    exact ⟨fun j => by simp [World.cell?, this], fun j => h'.free j⟩
  | row B v n xs e size => trivial
  | rd g n f => exact fun j hj => rds.at_ h j hj
  | res D R => trivial

/-- What a list tells of the cells. -/
def ruleAll (w : World) : List Ent → Prop
  | [] => True
  | .box b cs _ :: L => ((∀ j, w.cell? ⟨b, j, none⟩ = cs[j]?) ∧ ∀ j, w.frozen? ⟨b, j, none⟩ = false) ∧ ruleAll w L
  | .rd g n f :: L => (∀ j, j < n → w.cell? ⟨g, j, none⟩ = some (f j)) ∧ ruleAll w L
  | .row _ _ _ _ _ _ :: L => ruleAll w L
  | .res _ _ :: L => ruleAll w L
theorem ruleAll_of {w : World} : ∀ {L : List Ent}, (∀ x ∈ L, x.holds w) → ruleAll w L
  | [], _ => trivial
  | .box b cs t :: L, h => ⟨Ent.rules_of (h (.box b cs t) (List.mem_cons_self ..)), ruleAll_of fun x hx => h x (List.mem_cons_of_mem _ hx)⟩
  | .rd g n f :: L, h => ⟨Ent.rules_of (h (.rd g n f) (List.mem_cons_self ..)), ruleAll_of fun x hx => h x (List.mem_cons_of_mem _ hx)⟩
  | .row .. :: L, h => ruleAll_of (L := L) fun x hx => h x (List.mem_cons_of_mem _ hx)
  | .res .. :: L, h => ruleAll_of (L := L) fun x hx => h x (List.mem_cons_of_mem _ hx)

/-- w comes from w0: of what was there D alone may have changed; what L tells is so, at places apart from one another. -/
structure Mm (D : Nat → Prop) (w0 w : World) (L : List Ent) : Prop where
  kept : Kept D w0 w
  ents : ∀ (i : Nat) (x : Ent), L[i]? = some x → x.holds w
  dist : ∀ (i j : Nat) (x y : Ent), L[i]? = some x → L[j]? = some y → i ≠ j → apart x y

section
variable {D : Nat → Prop} {w0 w w' : World} {L : List Ent}
theorem Mm.start (D : Nat → Prop) (w : World) : Mm D w w [] := ⟨.refl _ _, fun _ _ h => by simp at h, fun _ _ _ _ h => by simp at h⟩
theorem Mm.eq {L' : List Ent} (M : Mm D w0 w L) (h : L = L') : Mm D w0 w L' := h ▸ M
theorem Mm.below (M : Mm no w0 w L) : Below w0.heap.size w0 w := M.kept.below
theorem Mm.size (M : Mm D w0 w L) : w0.heap.size ≤ w.heap.size := M.kept.size
theorem Mm.at_ (M : Mm D w0 w L) (i : Nat) {x : Ent} (h : L[i]? = some x) : x.holds w := M.ents i x h
theorem Mm.box (M : Mm D w0 w L) (i : Nat) {b : Nat} {cs : Array Value} {t : Nat} (h : L[i]? = some (.box b cs t)) : blk w b cs t := M.ents i _ h
theorem Mm.row (M : Mm D w0 w L) (i : Nat) {B : Nat} {v : Value} {n : Nat} {xs : List Value} {e size : Nat} (h : L[i]? = some (.row B v n xs e size)) : w.ownsRow B e size v n xs := M.ents i _ h
theorem Mm.rd (M : Mm D w0 w L) (i : Nat) {g n : Nat} {f : Nat → Value} (h : L[i]? = some (.rd g n f)) : rds w g n f := M.ents i _ h
theorem Mm.ruleAll (M : Mm D w0 w L) : ruleAll w L := ruleAll_of fun x hx => by
  obtain ⟨i, hi⟩ := List.getElem?_of_mem hx
  exact M.ents i x hi
theorem Mm.rules (M : Mm D w0 w L) : ∀ x ∈ L, x.rules w := fun x hx => by
  obtain ⟨i, hi⟩ := List.getElem?_of_mem hx
  exact Ent.rules_of (M.ents i x hi)
/-- What is allowed is more. -/
theorem Mm.only (M : Mm no w w L) (D : Nat → Prop) : Mm D w w L := ⟨.refl _ _, M.ents, M.dist⟩
/-- Nothing is known any longer, but that old memory is as it was. -/
theorem Mm.after (M : Mm D w0 w L) {E : Nat → Prop} (hk : Kept E w w') (hE : ∀ k, k < w0.heap.size → E k → D k) : Mm D w0 w' [] := ⟨M.kept.trans hk hE, fun _ _ h => by simp at h, fun _ _ _ _ h => by simp at h⟩
theorem own_of_blk {B b n e size : Nat} {cs : Array Value} (h : blk w b cs e) (hB : B ≤ b) (hs : cs.size = n * size) (hn : n ≤ maxLen) : w.ownsRow B e size (.slice (some ⟨b, 0, none⟩) n n) n cs.toList :=
  ⟨by rw [Array.length_toList, hs], .inr ⟨b, n, cs, rfl, hB, h.out, Nat.le_refl _, hn, hs, by rw [List.take_of_length_le (by rw [Array.length_toList, hs]; exact Nat.le_refl _)]⟩⟩
/-- Something more is known. -/
theorem Mm.add (M : Mm D w0 w L) {x : Ent} (hx : x.holds w) (hd : ∀ y ∈ L, apart x y) : Mm D w0 w (x :: L) := by
  refine ⟨M.kept, fun i y h => ?_, fun i j y z hy hz hij => ?_⟩
  · cases i with
    | zero => cases h; exact hx
    | succ i => exact M.ents i y h
  · cases i with
    | zero =>
      cases j with
      | zero => exact absurd rfl hij
      | succ j => cases hy; exact hd z (List.mem_of_getElem? (by simpa using hz))
    | succ i =>
      cases j with
      | zero => cases hz; exact (hd y (List.mem_of_getElem? (by simpa using hy))).symm
      | succ j => exact M.dist i j y z hy hz (by omega)
/-- The world goes on; nothing that is known changes. -/
theorem Mm.go {E : Nat → Prop} (M : Mm D w0 w L) (hk : Kept E w w') (hE : ∀ k, k < w0.heap.size → E k → D k) (hL : ∀ x ∈ L, ∀ b, x.place b → ¬ E b) : Mm D w0 w' L :=
  ⟨M.kept.trans hk hE, fun i x h => Ent.holds_of (M.ents i x h) hk (hL x (List.mem_of_getElem? h)), M.dist⟩
theorem Mm.later (M : Mm D w0 w L) (hb : Below w.heap.size w w') : Mm D w0 w' L := M.go (.of_below hb no) (fun _ _ h => h.elim) fun _ _ _ _ h => h
theorem Mm.drew (M : Mm D w0 w L) : Mm D w0 w.drew L := M.go (kept_drew w no) (fun _ _ h => h.elim) fun _ _ _ _ h => h
theorem Mm.fresh (M : Mm D w0 w L) {x y : Ent} (hy : y ∈ L) (hx : ∀ b, x.place b → w.heap.size ≤ b) : apart x y := fun b h1 h2 => by
  obtain ⟨i, hi⟩ := List.getElem?_of_mem hy
  have := Ent.lt (M.ents i y hi) h2
  have := hx b h1
  omega
/-- A call that makes memory: what it hands back is new. -/
theorem Mm.gain (M : Mm D w0 w L) (hb : Below w.heap.size w w') {x : Ent} (hx : x.holds w') (hn : ∀ b, x.place b → w.heap.size ≤ b) : Mm D w0 w' (x :: L) :=
  (M.later hb).add hx fun y hy => M.fresh hy hn
theorem Mm.alloc (M : Mm D w0 w L) (cs : Array Value) (t : Nat) : Mm D w0 (w.alloc (.cells cs t)) (.box w.heap.size cs t :: L) :=
  M.gain ((Below.refl _ _).alloc (Nat.le_refl _) _) (blk_new w cs t _ rfl) fun b h => by cases h; exact Nat.le_refl _
/-- One place is written. -/
theorem Mm.set {E : Nat → Prop} (M : Mm D w0 w L) (i : Nat) {x y : Ent} (hi : L[i]? = some x) (hk : Kept E w w') (hE : ∀ k, E k → x.place k) (hD : ∀ k, k < w0.heap.size → E k → D k) (hy : y.holds w') (hp : ∀ b, y.place b → x.place b ∨ w.heap.size ≤ b) : Mm D w0 w' (L.set i y) := by
  have hil : i < L.length := (List.getElem?_eq_some_iff.1 hi).1
  refine ⟨M.kept.trans hk hD, fun j z h => ?_, fun j k z u hz hu hjk => ?_⟩
  · rw [List.getElem?_set] at h
    split at h
    · rename_i e; simp [hil] at h; subst h; exact hy
    · rename_i e
      exact Ent.holds_of (M.ents j z h) hk fun b hb he => M.dist i j x z hi h e b (hE b he) hb
  · rw [List.getElem?_set] at hz hu
    have key : ∀ j z, L[j]? = some z → i ≠ j → apart y z := fun j z h e b h1 h2 => by
      rcases hp b h1 with h3 | h3
      · exact M.dist i j x z hi h e b h3 h2
      · have := Ent.lt (M.ents j z h) h2; omega
    split at hz
    · rename_i e
      simp [hil] at hz; subst hz
      rw [if_neg (by omega)] at hu
      exact key k u hu (by omega)
    · rename_i e
      split at hu
      · rename_i e2
        simp [hil] at hu; subst hu
        exact (key j z hz (by omega)).symm
      · exact M.dist j k z u hz hu hjk
theorem Mm.put (M : Mm D w0 w L) (i : Nat) {b : Nat} {cs : Array Value} {t : Nat} (hi : L[i]? = some (.box b cs t)) (hb : w0.heap.size ≤ b ∨ D b) (cs' : Array Value) : Mm D w0 (World.put w b cs' t) (L.set i (.box b cs' t)) :=
  M.set i hi (kept_put w b cs' t) (fun k h => h.symm) (fun k hk h => by subst h; rcases hb with h | h; omega; exact h) (blk_put (M.box i hi) t) fun k h => .inl h
theorem Mm.setc (M : Mm D w0 w L) (i : Nat) {b : Nat} {cs : Array Value} {t : Nat} (hi : L[i]? = some (.box b cs t)) (hb : w0.heap.size ≤ b ∨ D b) (j : Nat) (v : Value) : Mm D w0 (w.setCell ⟨b, j, none⟩ v) (L.set i (.box b (cs.setIfInBounds j v) t)) :=
  M.set i hi (kept_setCell w b j v) (fun k h => h.symm) (fun k hk h => by subst h; rcases hb with h | h; omega; exact h) ((M.box i hi).set j v) fun k h => .inl h
/-- A call wrote to one block that is known. -/
theorem Mm.wrote (M : Mm D w0 w L) (i : Nat) {b : Nat} {cs cs' : Array Value} {t : Nat} (hi : L[i]? = some (.box b cs t)) (hb : w0.heap.size ≤ b ∨ D b) (hg : w.grownBy w' (some b)) (h : blk w' b cs' t) : Mm D w0 w' (L.set i (.box b cs' t)) :=
  M.set i hi (.of_grown hg) (fun k h => Option.some.inj h) (fun k hk h => by cases h; rcases hb with h | h; omega; exact h) h fun k h => .inl h
/-- A slice has been made longer. -/
theorem Mm.longer (M : Mm D w0 w L) (i : Nat) {B : Nat} {v v' : Value} {n n' : Nat} {xs xs' : List Value} {e size : Nat} (hi : L[i]? = some (.row B v n xs e size)) (hB : w0.heap.size ≤ B ∨ ∀ k, v.ownBlock = some k → D k) (hg : w.grownBy w' v.ownBlock) (h : w'.ownsRow B e size v' n' xs')
    (hf : v'.ownBlock = v.ownBlock ∨ ∃ g, v'.ownBlock = some g ∧ w.heap.size ≤ g) : Mm D w0 w' (L.set i (.row B v' n' xs' e size)) :=
  M.set i hi (.of_grown hg) (fun k h => h) (fun k hk h => by
    have := (World.ownsRow.lt (M.row i hi) k h).1
    rcases hB with hB | hB
    · omega
    · exact hB k h) h fun b hb => by
    have hb' : v'.ownBlock = some b := hb
    rcases hf with h | ⟨g, h, h2⟩
    · exact .inl (show v.ownBlock = some b by rw [← h]; exact hb')
    · rw [h] at hb'; cases hb'; exact .inr h2
/-- The block of a slice: the one that it had, or a new one. -/
def Far (v' v : Value) (lo : Nat) : Prop := v'.ownBlock = v.ownBlock ∨ ∃ g, v'.ownBlock = some g ∧ lo ≤ g
theorem Far.own {v' v : Value} {lo : Nat} (h : Far v' v lo) {D : Nat → Prop} (hD : ∀ k, v.ownBlock = some k → D k) : ∀ k, v'.ownBlock = some k → D k ∨ lo ≤ k := fun k hk => by
  rcases h with h | ⟨g, h, h2⟩
  · exact .inl (hD k (by rw [← h]; exact hk))
  · rw [h] at hk; cases hk; exact .inr h2
/-- A block is now a row that a slice owns. -/
theorem Mm.asRow (M : Mm D w0 w L) (i : Nat) {b : Nat} {cs : Array Value} {e : Nat} (hi : L[i]? = some (.box b cs e)) (B n size : Nat) (hB : B ≤ b) (hs : cs.size = n * size) (hn : n ≤ maxLen) : Mm D w0 w (L.set i (.row B (.slice (some ⟨b, 0, none⟩) n n) n cs.toList e size)) :=
  M.set i hi (.refl no w) (fun _ h => h.elim) (fun _ _ h => h.elim) (own_of_blk (M.box i hi) hB hs hn) fun k h => .inl (by cases h; rfl)
/-- What a visitor keeps goes on. -/
theorem Mm.visit (M : Mm D w0 w L) (i : Nat) {E E' : Nat → Prop} {R R' : World → Prop} (hi : L[i]? = some (.res E R)) (h : (Ent.res E' R').holds w') (hs : ∀ k, E' k → E k ∨ w.heap.size ≤ k) (hk : Kept E w w') (hD : ∀ k, k < w0.heap.size → E k → D k) : Mm D w0 w' (L.set i (.res E' R')) :=
  M.set i hi hk (fun _ h => h) hD h hs
theorem Mm.drop (M : Mm D w0 w L) (i : Nat) : Mm D w0 w (L.eraseIdx i) := by
  have key : ∀ j x, (L.eraseIdx i)[j]? = some x → L[if j < i then j else j + 1]? = some x := fun j x h => by
    rw [List.getElem?_eraseIdx] at h; split <;> simp_all
  refine ⟨M.kept, fun j x h => M.ents _ x (key j x h), fun j k x y hx hy hjk => M.dist _ _ x y (key j x hx) (key k y hy) ?_⟩
  split <;> split <;> omega
/-- L tells less. -/
theorem Mm.sub (M : Mm D w0 w L) (f : List Nat) (hf : f.Nodup) : Mm D w0 w (f.filterMap (L[·]?)) := by
  have key : ∀ (f : List Nat) (j : Nat) (x : Ent), (f.filterMap (L[·]?))[j]? = some x → ∃ k ∈ f, L[k]? = some x := fun f j x h => by
    have := List.mem_of_getElem? h
    simpa using this
  induction f with
  | nil => exact ⟨M.kept, fun _ _ h => by simp at h, fun _ _ _ _ h => by simp at h⟩
  | cons a f ih =>
    have ih := ih (List.nodup_cons.1 hf).2
    cases ha : L[a]? with
    | none => simpa [List.filterMap_cons, ha] using ih
    | some x =>
      simp only [List.filterMap_cons, ha]
      refine ih.add (M.ents a x ha) fun y hy => ?_
      obtain ⟨j, hj⟩ := List.getElem?_of_mem hy
      obtain ⟨k, hk, hky⟩ := key f j y hj
      exact M.dist a k x y ha hky fun e => (List.nodup_cons.1 hf).1 (e ▸ hk)
/-- What was known in a world before is told of the new one, if the call's own world is the new beginning. -/
theorem Mm.anew (M : Mm D w0 w L) : Mm no w w L := ⟨.refl _ _, M.ents, M.dist⟩
theorem Mm.onto {L' : List Ent} (M : Mm D w0 w L) (M' : Mm no w w' L') : Mm D w0 w' L' := ⟨M.kept.trans M'.kept fun _ _ h => h.elim, M'.ents, M'.dist⟩
end

section
variable {P : Program} {D : Nat → Prop} {w0 w : World} {L : List Ent} {ops : Array Oper} {rest : List Oper} {o : Oper} {a : Act} {Q : Exit → Act → World → Prop}

/-- A new variable. -/
theorem wpM_box (M : Mm D w0 w L) (hw : Region.wanted o (yielded ops a.tmps) = true) (ty : TypeId) (x : Operand) (ho : o.op = .box ty x) (v : Value) (hx : a.eval x = v) (cs : Array Value) (hv : v.cells = cs)
    (h : ∀ b w', w0.heap.size ≤ b → Mm D w0 w' (.box b cs ty :: L) → wpList P ops Q rest (a.put o.dst (.pointer (some ⟨b, 0, none⟩))) w') : wpList P ops Q (o :: rest) a w := by
  refine wpList_wanted hw ?_
  subst hv
  unfold Oper.wp execOp
  have e : (Instr.box ty v).run P w = .ok (.pointer (some ⟨w.heap.size, 0, none⟩)) (w.alloc (.cells v.cells ty)) := by
    simp [Instr.box, newVar, Sem.run]
    first | done | rfl
  simp only [ho, hx, Sem.run_bind, e, Result.andThen_ok, Sem.run_pure]
  exact h _ _ M.size (M.alloc _ _)
theorem wpM_alloc (M : Mm D w0 w L) (hw : Region.wanted o (yielded ops a.tmps) = true) (ty : TypeId) (ho : o.op = .alloc ty) (z : Value) (hz : (zeroValue ty).run P w = .ok z w) (cs : Array Value) (hv : z.cells = cs)
    (h : ∀ b w', w0.heap.size ≤ b → Mm D w0 w' (.box b cs ty :: L) → wpList P ops Q rest (a.put o.dst (.pointer (some ⟨b, 0, none⟩))) w') : wpList P ops Q (o :: rest) a w := by
  refine wpList_wanted hw ?_
  subst hv
  unfold Oper.wp execOp
  have e : (Instr.alloc ty true (.tuple #[])).run P w = .ok (.pointer (some ⟨w.heap.size, 0, none⟩)) (w.alloc (.cells z.cells ty)) := by
    simp [Instr.alloc, newVar, Sem.run_bind, hz]
    first | done | rfl
  simp only [ho, Sem.run_bind, e, Result.andThen_ok, Sem.run_pure]
  exact h _ _ M.size (M.alloc _ _)
/-- A whole struct or array, or a part of one, is read. -/
theorem wpM_lda (M : Mm D w0 w L) (i : Nat) {b : Nat} {cs : Array Value} {t : Nat} (hi : L[i]? = some (.box b cs t)) (hw : Region.wanted o (yielded ops a.tmps) = true) (ty : TypeId) (x : Operand) (ho : o.op = .load ty x)
    (off : Nat) (hx : a.eval x = .pointer (some ⟨b, off, none⟩)) (part : Array Value) (d : TypeDesc) (hu : P.underlying ty = some d) (hd : aggD d = true) (hs : (P.info? ty).map (·.size) = some part.size)
    (hp : ∀ j v, part[j]? = some v → cs[off + j]? = some v) (h : wpList P ops Q rest (a.put o.dst (.agg part)) w) : wpList P ops Q (o :: rest) a w :=
  wpList_wanted hw (wp_load_part ty x ho b off hx part d hu (by cases d <;> first | rfl | (simp [aggD] at hd)) hs (cells_of_blk (M.box i hi) off part hp) h)
theorem whole (cs : Array Value) : ∀ j v, cs[j]? = some v → cs[0 + j]? = some v := fun j v h => by rw [Nat.zero_add]; exact h
/-- A whole struct or array is written. -/
theorem wpM_sta (M : Mm D w0 w L) (i : Nat) {b : Nat} {cs : Array Value} {t : Nat} (hi : L[i]? = some (.box b cs t)) (hb : w0.heap.size ≤ b ∨ D b) (hw : Region.wanted o (yielded ops a.tmps) = true) (ty : TypeId) (x y : Operand) (ho : o.op = .store ty x y)
    (hx : a.eval x = .pointer (some ⟨b, 0, none⟩)) (part : Array Value) (hy : a.eval y = .agg part) (hs : (P.info? ty).map (·.size) = some part.size) (hsz : part.size = cs.size) (hl : flat part)
    (h : ∀ w', Mm D w0 w' (L.set i (.box b part t)) → wpList P ops Q rest (a.put o.dst undef) w') : wpList P ops Q (o :: rest) a w :=
  wpList_wanted hw (wp_store_part ty x y ho b 0 hx part hy hs cs t (M.box i hi) (by omega) hl (by
    rw [splice_all cs part.toList (by simpa using hsz), Array.toArray_toList]
    exact h _ (M.put i hi hb part)))
/-- A part of a struct or array is written. -/
theorem wpM_stp (M : Mm D w0 w L) (i : Nat) {b : Nat} {cs : Array Value} {t : Nat} (hi : L[i]? = some (.box b cs t)) (hb : w0.heap.size ≤ b ∨ D b) (hw : Region.wanted o (yielded ops a.tmps) = true) (ty : TypeId) (x y : Operand) (ho : o.op = .store ty x y)
    (off : Nat) (hx : a.eval x = .pointer (some ⟨b, off, none⟩)) (part : Array Value) (hy : a.eval y = .agg part) (hs : (P.info? ty).map (·.size) = some part.size) (hsz : off + part.size ≤ cs.size) (hl : flat part) (cs' : Array Value) (hcs : splice cs off part.toList = cs')
    (h : ∀ w', Mm D w0 w' (L.set i (.box b cs' t)) → wpList P ops Q rest (a.put o.dst undef) w') : wpList P ops Q (o :: rest) a w :=
  wpList_wanted hw (wp_store_part ty x y ho b off hx part hy hs cs t (M.box i hi) hsz hl (by subst hcs; exact h _ (M.put i hi hb _)))
/-- One cell is written. -/
theorem wpM_st (M : Mm D w0 w L) (i : Nat) {b : Nat} {cs : Array Value} {t : Nat} (hi : L[i]? = some (.box b cs t)) (hb : w0.heap.size ≤ b ∨ D b) (hw : Region.wanted o (yielded ops a.tmps) = true) (ty : TypeId) (x y : Operand) (ho : o.op = .store ty x y)
    (j : Nat) (hx : a.eval x = .pointer (some ⟨b, j, none⟩)) (v : Value) (hy : a.eval y = v) (hv : oneV v = true) (hs : (P.info? ty).map (·.size) = some 1) (hj : j < cs.size) (cs' : Array Value) (hcs : cs.setIfInBounds j v = cs')
    (h : ∀ w', Mm D w0 w' (L.set i (.box b cs' t)) → wpList P ops Q rest (a.put o.dst undef) w') : wpList P ops Q (o :: rest) a w := by
  subst hcs
  refine wpList_wanted hw ?_
  have hB := M.box i hi
  have hcell := hB.cell j cs[j] (by simp [hj])
  have hfree := hB.free j
  cases hq : P.info? ty with
  | none => simp [hq] at hs
  | some q =>
    have hs' : q.size = 1 := by simpa [hq] using hs
    have hst : (storeVar ty ⟨b, j, none⟩ v).run P w = .ok () (w.setCell ⟨b, j, none⟩ v) := by
      have hc : v.cells = #[v] := by cases v <;> simp_all [Value.cells, oneV]
      have step : (store ((⟨b, j, none⟩ : Addr).add 0) v).run P w = .ok () (w.setCell ⟨b, j, none⟩ v) := by
        rw [add_none, Nat.add_zero]
        cases v <;> simp_all [store, Sem.run, oneV]
      simp [storeVar, sizeOf, typeInfo, hq, hs', hc, storeCells, step]
    unfold Oper.wp execOp
    simp only [ho, hx, hy, Instr.storeAt, Instr.sureAddr, Sem.run_bind, Sem.run_pure, Result.andThen_ok, hst]
    exact h _ (M.setc i hi hb j v)
/-- append(v, x): one element more. -/
theorem wpM_app (M : Mm D w0 w L) (i : Nat) {B : Nat} {v : Value} {n : Nat} {xs : List Value} {e : TypeId} {size : Nat} (hi : L[i]? = some (.row B v n xs e size)) (hB : w0.heap.size ≤ B ∨ ∀ k, v.ownBlock = some k → D k) (hBw : B ≤ w.heap.size) (hgd : o.guard = none) (s x : Operand) (t : TypeId)
    (ho : o.op = .call { callee := .builtin .append, args := #[s, x], argTypes := #[t, t] }) (z : Value) (bytes : Nat) (ht : P.underlying t = some (.slice e)) (hinfo : (P.info? e).map (fun i => (i.zero, i.size, i.bytes)) = some (some z, size, bytes))
    (hzs : z.cells.size = size) (hsz : 0 < size) (hby : 0 < bytes) (hs : a.eval s = v) (k : Nat) {b : Nat} {ys : Array Value} (hk : L[k]? = some (.box b ys e)) (hx : a.eval x = .slice (some ⟨b, 0, none⟩) 1 1) (hys : ys.size = size) (h1 : flat ys) (hbytes : (n + 1) * bytes ≤ 140737488355328)
    (h : ∀ v' w', Far v' v w0.heap.size → Mm D w0 w' (L.set i (.row B v' (n + 1) (xs ++ ys.toList) e size)) → wpList P ops Q rest (a.put o.dst v') w') : wpList P ops Q (o :: rest) a w :=
  wpList_app1 hgd s x t ho B e z size bytes ht hinfo hzs hsz hby v n xs hs (M.row i hi) b hx ys (M.box k hk) hys h1 hbytes hBw fun v' w' hown hg hf => h v' w' (by
    rcases hf with h | h
    · exact .inl h
    · exact .inr ⟨_, h, M.size⟩) (M.longer i hi hB hg hown (by
    rcases hf with h | h
    · exact .inl h
    · exact .inr ⟨_, h, Nat.le_refl _⟩))
/-- A slice of given parts: a new block. -/
theorem wpM_bsl (M : Mm D w0 w L) (hgd : o.guard = none) (ty : TypeId) (len : Nat) (l : List (Nat × Operand)) (ho : o.op = .buildSlice ty len l.toArray)
    (vals : List (Nat × Value)) (hv : l.map (fun p => (p.1, a.eval p.2)) = vals) (cs : Array Value) (e : TypeId) (hb : ∀ w : World, (Instr.buildSlice ty len vals.toArray).run P w = .ok (.slice (some ⟨w.heap.size, 0, none⟩) len len) (w.alloc (.cells cs e)))
    (h : ∀ b w', w0.heap.size ≤ b → Mm D w0 w' (.box b cs e :: L) → wpList P ops Q rest (a.put o.dst (.slice (some ⟨b, 0, none⟩) len len)) w') : wpList P ops Q (o :: rest) a w :=
  wpList_bsl hgd ty len l ho vals hv _ _ (hb w) (h _ _ M.size (M.alloc _ _))
/-- A drawn region in the order of its text, whose last operations come last. -/
theorem wp_region_mm {id : Nat} {l : List Oper} {af : Act} (M : Mm D w0 w L) (n : Nat) (hm : P.follows .mixedOrders = true) (hB : Region.lexTailB .any l.toArray n = true)
    (h : wpText P (fun w' => Mm D w0 w' L) l.toArray (l.take n) a af) (hQ : ∀ w', Mm D w0 w' L → wpList P l.toArray Q (l.drop n) af w') : (Code.region id l.toArray true).wp P Q a w :=
  wp_region_text_tail n _ hm hB M.drew h hQ
/-- A drawn region in the order of its text. -/
theorem wp_region_mm0 {id : Nat} {l : List Oper} {af : Act} (M : Mm D w0 w L) (hm : P.follows .mixedOrders = true) (hB : Region.lexB .any l.toArray = true)
    (h : wpText P (fun w' => Mm D w0 w' L) l.toArray l a af) (hQ : ∀ w', Mm D w0 w' L → Q .normal af w') : (Code.region id l.toArray true).wp P Q a w :=
  wp_region_text _ hm hB M.drew h hQ
/-- copy into a known block out of another one. -/
theorem wpM_copy (M : Mm D w0 w L) (i : Nat) {b : Nat} {cs : Array Value} {t : Nat} (hi : L[i]? = some (.box b cs t)) (hb : w0.heap.size ≤ b ∨ D b) (k : Nat) {c : Nat} {ds : Array Value} {u : Nat} (hk : L[k]? = some (.box c ds u)) (hgd : o.guard = none) (d s : Operand) (dT sT : TypeId)
    (ho : o.op = .call { callee := .builtin .copy, args := #[d, s], argTypes := #[dT, sT] }) (elem : TypeId) (hu : P.underlying dT = some (.slice elem)) (hsz : (P.info? elem).map (·.size) = some 1)
    (off dLen dCap off2 sLen sCap : Nat) (hd : a.eval d = .slice (some ⟨b, off, none⟩) dLen dCap) (hs : a.eval s = .slice (some ⟨c, off2, none⟩) sLen sCap) (m : Nat) (hm : m = Nat.min sLen dLen) (h1 : off + m ≤ cs.size) (h2 : off2 + m ≤ ds.size) (hl : flat ds)
    (cs' : Array Value) (hsz' : cs'.size = cs.size) (hcs : ∀ j, j < cs.size → cs'[j]? = if off ≤ j ∧ j < off + m then ds[off2 + (j - off)]? else cs[j]?)
    (h : ∀ w', Mm D w0 w' (L.set i (.box b cs' t)) → wpList P ops Q rest (a.put o.dst (goInt m)) w') : wpList P ops Q (o :: rest) a w := by
  have hB := M.box i hi
  have hC := M.box k hk
  have hlen : ((ds.toList.drop off2).take m).length = m := by simp; omega
  have hget : ∀ j, j < m → ((ds.toList.drop off2).take m)[j]? = ds[off2 + j]? := fun j hj => by
    rw [List.getElem?_take, if_pos hj, List.getElem?_drop, Array.getElem?_toList]
  refine wpList_copy_own hgd d s dT sT ho elem hu hsz b off dLen dCap ⟨c, off2, none⟩ sLen sCap hd hs cs t hB.out ((ds.toList.drop off2).take m) (by rw [hlen, hm]) (fun j v hj => ?_) (by rw [hlen]; exact h1) (fun v hv => ?_) ?_
  · have hjm : j < m := by rw [← hlen]; exact (List.getElem?_eq_some_iff.1 hj).1
    rw [add_none]
    exact hC.cell _ _ (by rw [← hget j hjm]; exact hj)
  · exact flat_one hl v (List.mem_of_mem_drop (List.mem_of_mem_take hv))
  · rw [hlen]
    have e : (cs.toList.take off ++ ((ds.toList.drop off2).take m ++ cs.toList.drop (off + m))).toArray = cs' := by
      apply Array.ext_getElem?
      intro j
      rcases Nat.lt_or_ge j cs.size with hj | hj
      · rw [hcs j hj, List.getElem?_toArray]
        by_cases c1 : j < off
        · rw [if_neg (by omega), List.getElem?_append_left (by simp; omega), List.getElem?_take, if_pos c1, Array.getElem?_toList]
        · rw [List.getElem?_append_right (by simp; omega)]
          have e1 : (cs.toList.take off).length = off := by simp; omega
          rw [e1]
          by_cases c2 : j < off + m
          · rw [if_pos (by omega), List.getElem?_append_left (by rw [hlen]; omega), hget _ (by omega)]
          · rw [if_neg (by omega), List.getElem?_append_right (by rw [hlen]; omega), hlen, List.getElem?_drop, Array.getElem?_toList]
            congr 1; omega
      · rw [Array.getElem?_eq_none (by simp; omega), Array.getElem?_eq_none (by omega)]
    rw [e]
    have hw : w.setRow b cs' = World.put w b cs' t := by
      have h3 := hB.out
      have h4 := hB.lt
      have : (w.setRow b cs').heap = (World.put w b cs' t).heap := by
        simp only [World.setRow, World.put]
        apply Array.ext_getElem?
        intro k
        rw [Array.getElem?_modify, Array.getElem?_setIfInBounds]
        by_cases e : b = k
        · subst e; rw [if_pos rfl, if_pos rfl, if_pos h4, h3]; rfl
        · rw [if_neg e, if_neg e]
      unfold World.setRow World.put at *
      rw [World.mk.injEq]
      simp_all
    rw [hw]
    exact h _ (M.put i hi hb cs')
/-! The same steps, each asked for in parts that fail at once where they do not fit. -/
theorem isLoad_spec {p : Op} {ty : Nat} (h : isLoad p ty = true) : p = .load ty (addrOf p) := by cases p <;> simp_all [isLoad, addrOf]
theorem isStore_spec {p : Op} {ty : Nat} (h : isStore p ty = true) : p = .store ty (addrOf p) (valOf p) := by cases p <;> simp_all [isStore, addrOf, valOf]
theorem isBoxOp_spec {p : Op} {ty : Nat} (h : isBoxOp p ty = true) : p = .box ty (valOf p) := by cases p <;> simp_all [isBoxOp, valOf]
theorem isAlloc_spec {p : Op} {ty : Nat} (h : isAlloc p ty = true) : p = .alloc ty := by cases p <;> simp_all [isAlloc]
theorem isBox_spec {L : List Ent} {i : Nat} (h : isBox L i = true) : L[i]? = some (.box (entBlk L i) (entCells L i) (entT L i)) := by
  unfold isBox at h
  unfold entBlk entCells entT
  split at h
  · rename_i e; simp only [e]
  · cases h

theorem wpM_box' (M : Mm D w0 w L) (ty : TypeId) (cs : Array Value) (ho : isBoxOp o.op ty = true) (H : Region.wanted o (yielded ops a.tmps) = true ∧ (a.eval (valOf o.op)).cells = cs)
    (h : ∀ b w', w0.heap.size ≤ b → Mm D w0 w' (.box b cs ty :: L) → wpList P ops Q rest (a.put o.dst (.pointer (some ⟨b, 0, none⟩))) w') : wpList P ops Q (o :: rest) a w :=
  wpM_box M H.1 ty _ (isBoxOp_spec ho) _ rfl cs H.2 h
theorem wpM_alloc' (M : Mm D w0 w L) (ty : TypeId) (cs : Array Value) (ho : isAlloc o.op ty = true) (H : Region.wanted o (yielded ops a.tmps) = true ∧ ∃ z, (zeroValue ty).run P w = .ok z w ∧ z.cells = cs)
    (h : ∀ b w', w0.heap.size ≤ b → Mm D w0 w' (.box b cs ty :: L) → wpList P ops Q rest (a.put o.dst (.pointer (some ⟨b, 0, none⟩))) w') : wpList P ops Q (o :: rest) a w := by
  obtain ⟨hw, z, hz, hv⟩ := H
  exact wpM_alloc M hw ty (isAlloc_spec ho) z hz cs hv h
theorem wpM_lda' (M : Mm D w0 w L) (i : Nat) (ty : TypeId) (off : Nat) (part : Array Value) (ho : isLoad o.op ty = true) (hi : isBox L i = true) (hat : a.eval (addrOf o.op) = .pointer (some ⟨entBlk L i, off, none⟩))
    (H : Region.wanted o (yielded ops a.tmps) = true ∧ (P.info? ty).map (·.size) = some part.size ∧ ∃ d, P.underlying ty = some d ∧ aggD d = true) (hp : ∀ j v, part[j]? = some v → (entCells L i)[off + j]? = some v)
    (h : wpList P ops Q rest (a.put o.dst (.agg part)) w) : wpList P ops Q (o :: rest) a w := by
  obtain ⟨hw, hs, d, hu, hd⟩ := H
  exact wpM_lda M i (isBox_spec hi) hw ty _ (isLoad_spec ho) off hat part d hu hd hs hp h
theorem wpM_sta' (M : Mm D w0 w L) (i : Nat) (ty : TypeId) (part : Array Value) (ho : isStore o.op ty = true) (hi : isBox L i = true) (hat : a.eval (addrOf o.op) = .pointer (some ⟨entBlk L i, 0, none⟩)) (hv : a.eval (valOf o.op) = .agg part)
    (hb : w0.heap.size ≤ entBlk L i ∨ D (entBlk L i)) (H : Region.wanted o (yielded ops a.tmps) = true ∧ (P.info? ty).map (·.size) = some part.size ∧ flat part) (hs : part.size = (entCells L i).size)
    (h : ∀ w', Mm D w0 w' (L.set i (.box (entBlk L i) part (entT L i))) → wpList P ops Q rest (a.put o.dst undef) w') : wpList P ops Q (o :: rest) a w :=
  wpM_sta M i (isBox_spec hi) hb H.1 ty _ _ (isStore_spec ho) hat part hv H.2.1 hs H.2.2 h
theorem wpM_stp' (M : Mm D w0 w L) (i : Nat) (ty : TypeId) (off : Nat) (part cs' : Array Value) (ho : isStore o.op ty = true) (hi : isBox L i = true) (hat : a.eval (addrOf o.op) = .pointer (some ⟨entBlk L i, off, none⟩)) (hv : a.eval (valOf o.op) = .agg part)
    (hb : w0.heap.size ≤ entBlk L i ∨ D (entBlk L i)) (H : Region.wanted o (yielded ops a.tmps) = true ∧ (P.info? ty).map (·.size) = some part.size ∧ flat part) (hs : off + part.size ≤ (entCells L i).size) (hcs : splice (entCells L i) off part.toList = cs')
    (h : ∀ w', Mm D w0 w' (L.set i (.box (entBlk L i) cs' (entT L i))) → wpList P ops Q rest (a.put o.dst undef) w') : wpList P ops Q (o :: rest) a w :=
  wpM_stp M i (isBox_spec hi) hb H.1 ty _ _ (isStore_spec ho) off hat part hv H.2.1 hs H.2.2 cs' hcs h
theorem wpM_st' (M : Mm D w0 w L) (i : Nat) (ty : TypeId) (j : Nat) (cs' : Array Value) (ho : isStore o.op ty = true) (hi : isBox L i = true) (hat : a.eval (addrOf o.op) = .pointer (some ⟨entBlk L i, j, none⟩))
    (hb : w0.heap.size ≤ entBlk L i ∨ D (entBlk L i)) (H : Region.wanted o (yielded ops a.tmps) = true ∧ oneV (a.eval (valOf o.op)) = true ∧ (P.info? ty).map (·.size) = some 1) (hj : j < (entCells L i).size) (hcs : (entCells L i).setIfInBounds j (a.eval (valOf o.op)) = cs')
    (h : ∀ w', Mm D w0 w' (L.set i (.box (entBlk L i) cs' (entT L i))) → wpList P ops Q rest (a.put o.dst undef) w') : wpList P ops Q (o :: rest) a w :=
  wpM_st M i (isBox_spec hi) hb H.1 ty _ _ (isStore_spec ho) j hat _ rfl H.2.1 H.2.2 hj cs' hcs h
theorem wpM_copy' (M : Mm D w0 w L) (i k off off2 dLen dCap sLen sCap m : Nat) (cs' : Array Value) (d s : Operand) (dT sT elem : TypeId) (ho : o.op = .call { callee := .builtin .copy, args := #[d, s], argTypes := #[dT, sT] }) (hi : isBox L i = true) (hk : isBox L k = true)
    (hd : a.eval d = .slice (some ⟨entBlk L i, off, none⟩) dLen dCap) (hs : a.eval s = .slice (some ⟨entBlk L k, off2, none⟩) sLen sCap) (hm : m = Nat.min sLen dLen) (hb : w0.heap.size ≤ entBlk L i ∨ D (entBlk L i)) (hgd : o.guard = none)
    (hu : P.underlying dT = some (.slice elem)) (hsz : (P.info? elem).map (·.size) = some 1) (h1 : off + m ≤ (entCells L i).size) (h2 : off2 + m ≤ (entCells L k).size) (hl : flat (entCells L k)) (h3 : cs'.size = (entCells L i).size)
    (h4 : ∀ j, j < (entCells L i).size → cs'[j]? = if off ≤ j ∧ j < off + m then (entCells L k)[off2 + (j - off)]? else (entCells L i)[j]?)
    (h : ∀ w', Mm D w0 w' (L.set i (.box (entBlk L i) cs' (entT L i))) → wpList P ops Q rest (a.put o.dst (goInt m)) w') : wpList P ops Q (o :: rest) a w :=
  wpM_copy M i (isBox_spec hi) hb k (isBox_spec hk) hgd d s dT sT ho elem hu hsz off dLen dCap off2 sLen sCap hd hs m hm h1 h2 hl cs' h3 h4 h
theorem isBsl_spec {p : Op} {ty len : Nat} (h : isBsl p ty len = true) : p = .buildSlice ty len (bslParts p).toArray := by cases p <;> simp_all [isBsl, bslParts]
theorem isApp_spec {p : Op} {ty : Nat} (h : isApp p ty = true) : p = .call { callee := .builtin .append, args := #[appS p, appX p], argTypes := #[ty, ty] } := by
  cases p with
  | call c =>
    obtain ⟨callee, args, argTypes⟩ := c
    obtain ⟨al⟩ := args
    obtain ⟨tl⟩ := argTypes
    simp only [isApp, Bool.and_eq_true, beq_iff_eq] at h
    obtain ⟨⟨h1, h2⟩, h3⟩ := h
    match al, h2 with
    | [x, y], _ =>
      subst h3
      cases callee with
      | builtin b => cases b <;> first | rfl | cases h1
      | value f => cases h1
      | invoke r m => cases h1
  | _ => simp [isApp] at h
theorem wpM_bsl' (M : Mm D w0 w L) (ty len e : Nat) (vals : List (Nat × Value)) (cs : Array Value) (ho : isBsl o.op ty len = true) (hgd : o.guard = none) (hv : (bslParts o.op).map (fun p => (p.1, a.eval p.2)) = vals)
    (hb : ∀ w : World, (Instr.buildSlice ty len vals.toArray).run P w = .ok (.slice (some ⟨w.heap.size, 0, none⟩) len len) (w.alloc (.cells cs e)))
    (h : ∀ b w', w0.heap.size ≤ b → Mm D w0 w' (.box b cs e :: L) → wpList P ops Q rest (a.put o.dst (.slice (some ⟨b, 0, none⟩) len len)) w') : wpList P ops Q (o :: rest) a w :=
  wpM_bsl M hgd ty len _ (isBsl_spec ho) vals hv cs e hb h
theorem wpM_app' (M : Mm D w0 w L) (t i k : Nat) (B : Nat) (v : Value) (n : Nat) (xs : List Value) (e size bytes : Nat) (ho : isApp o.op t = true) (hi : L[i]? = some (.row B v n xs e size)) (hk : isBox L k = true) (hs : a.eval (appS o.op) = v) (hx : a.eval (appX o.op) = .slice (some ⟨entBlk L k, 0, none⟩) 1 1)
    (hT : entT L k = e) (hgd : o.guard = none) (hB : w0.heap.size ≤ B ∨ ∀ k, v.ownBlock = some k → D k) (hBw : B ≤ w.heap.size) (z : Value) (ht : P.underlying t = some (.slice e)) (hinfo : (P.info? e).map (fun i => (i.zero, i.size, i.bytes)) = some (some z, size, bytes))
    (hzs : z.cells.size = size) (hsz : 0 < size) (hby : 0 < bytes) (ys : Array Value) (hys' : entCells L k = ys) (hys : ys.size = size) (h1 : flat ys) (hbytes : (n + 1) * bytes ≤ 140737488355328)
    (h : ∀ v' w', Far v' v w0.heap.size → Mm D w0 w' (L.set i (.row B v' (n + 1) (xs ++ ys.toList) e size)) → wpList P ops Q rest (a.put o.dst v') w') : wpList P ops Q (o :: rest) a w := by
  subst hT hys'
  exact wpM_app M i hi hB hBw hgd _ _ t (isApp_spec ho) z bytes ht hinfo hzs hsz hby hs k (isBox_spec hk) hx hys h1 hbytes h
theorem whole_of {L : List Ent} {i : Nat} {part : Array Value} (h : entCells L i = part) : ∀ j v, part[j]? = some v → (entCells L i)[0 + j]? = some v := fun j v hv => by rw [h, Nat.zero_add]; exact hv
end
end Go.Proofs.Ythdldlpflieeoaa

/- Drawn regions with operations that float, over what is known of memory. -/
namespace Go.Proofs.Ythdldlpflieeoaa
set_option linter.unusedSimpArgs false
set_option linter.unusedVariables false
open Go Go.RowKit

section
variable {P : Program} {D : Nat → Prop} {w0 w : World} {L : List Ent} {ops : Array Oper} {o : Oper} {a af : Act} {Q : Exit → Act → World → Prop}

theorem Mm.suffix : ∀ {Lg : List Ent}, Mm D w0 w (Lg ++ L) → Mm D w0 w L
  | [], M => M
  | _ :: _, M => Mm.suffix (Lg := _) (M.drop 0)

/-- What an operation gives, by a walk. -/
theorem yield_walk (hg : o.guard = none) {d : Nat} (hd : o.dst = some d) (hlt : d < a.tmps.size) {R : Value → World → Prop} (h : wpList P ops (fun e a' w' => e = .normal ∧ a'.defers = a.defers ∧ R (a'.tmps.getD d undef) w') [o] a w) : yield P o a w R := by
  unfold wpList at h
  rw [if_pos (by simp [Region.wanted, hg])] at h
  have hput : ∀ u, (a.put o.dst u).tmps.getD d undef = u := fun u => by simp [Act.put, hd, hlt]
  rcases h with h | ⟨_, a', w', he, _⟩
  case inr => cases he
  unfold Oper.wp at h
  unfold yield
  generalize (execOp a.eval o).run P w = r at *
  cases r with
  | ok n w' =>
    cases n <;> simp only [Oper.upon, wpList] at h <;> simp only [yieldR]
    case value u => obtain ⟨_, _, h⟩ := h; rwa [hput] at h
    case skip => obtain ⟨_, _, h⟩ := h; rwa [hput] at h
    case defer x =>
      obtain ⟨_, h, _⟩ := h
      simp [Act.put, hd] at h
    case enter f args =>
      refine h.mono fun e w'' he => ?_
      cases e with
      | returned u => obtain ⟨_, _, he⟩ := he; rw [hput] at he; exact ⟨u, rfl, he⟩
      | panicked c => cases he.1
      | outgrown => obtain ⟨_, _, h, _⟩ := he; cases h
    case row row args => exact Rows.mono h fun u w'' he => by obtain ⟨_, _, he⟩ := he; rwa [hput] at he
  | halt x w' => cases x <;> simp [Oper.upon] at h

/-- What is known when some floating operations have been done. -/
def Stg (St : List Value → List Ent → Prop) (D : Nat → Prop) (w0 : World) (L : List Ent) (g : List Value) (w : World) : Prop := ∃ Lg, St g Lg ∧ Mm D w0 w (Lg ++ L)
/-- ONE OPERATION FLOATS. -/
theorem wp_region_mmf1 {id : Nat} {l : List Oper} (M : Mm D w0 w L) (I : List Nat) (s1 n : Nat) (o1 : Oper) (St : List Value → List Ent → Prop) (hm : P.follows .mixedOrders = true) (hB : newI l.toArray I [s1] n = true) (h1 : l[s1]? = some o1) (hg1 : o1.guard = none) (h0 : St [] [])
    (ht : wpTextG P (Stg St D w0 L) l.toArray (I.filterMap fun i => l[i]?) a af) (hA : ∀ Lg w, St [] Lg → Mm D w0 w (Lg ++ L) → yield P o1 af w fun u w' => Stg St D w0 L [u] w')
    (hQ : ∀ v Lg w', St [v] Lg → Mm D w0 w' (Lg ++ L) → wpList P l.toArray Q (l.drop n) (af.put o1.dst v) w') : (Code.region id l.toArray true).wp P Q a w :=
  wp_region_float1 I s1 n o1 (Stg St D w0 L) hm hB h1 hg1 (fun w ⟨Lg, h, M⟩ => hA Lg w h M) ⟨[], h0, M.drew⟩ ht fun v w' ⟨Lg, h, M⟩ => hQ v Lg w' h M
/-- TWO OPERATIONS FLOAT. -/
theorem wp_region_mmf2 {id : Nat} {l : List Oper} (M : Mm D w0 w L) (I : List Nat) (s1 s2 n : Nat) (o1 o2 : Oper) (St : List Value → List Ent → Prop) (hm : P.follows .mixedOrders = true) (hB : newI l.toArray I [s1, s2] n = true) (h1 : l[s1]? = some o1) (hg1 : o1.guard = none) (h2 : l[s2]? = some o2) (hg2 : o2.guard = none) (h0 : St [] [])
    (ht : wpTextG P (Stg St D w0 L) l.toArray (I.filterMap fun i => l[i]?) a af) (hA : ∀ Lg w, St [] Lg → Mm D w0 w (Lg ++ L) → yield P o1 af w fun u w' => Stg St D w0 L [u] w')
    (hA2 : ∀ v Lg w, St [v] Lg → Mm D w0 w (Lg ++ L) → yield P o2 (af.put o1.dst v) w fun u w' => Stg St D w0 L [v, u] w')
    (hQ : ∀ v u Lg w', St [v, u] Lg → Mm D w0 w' (Lg ++ L) → wpList P l.toArray Q (l.drop n) ((af.put o1.dst v).put o2.dst u) w') : (Code.region id l.toArray true).wp P Q a w :=
  wp_region_float2 I s1 s2 n o1 o2 (Stg St D w0 L) hm hB h1 hg1 h2 hg2 (fun w ⟨Lg, h, M⟩ => hA Lg w h M) (fun v w ⟨Lg, h, M⟩ => hA2 v Lg w h M) ⟨[], h0, M.drew⟩ ht fun v u w' ⟨Lg, h, M⟩ => hQ v u Lg w' h M
/-- THREE OPERATIONS FLOAT. -/
theorem wp_region_mmf3 {id : Nat} {l : List Oper} (M : Mm D w0 w L) (I : List Nat) (s1 s2 s3 n : Nat) (o1 o2 o3 : Oper) (St : List Value → List Ent → Prop) (hm : P.follows .mixedOrders = true) (hB : newI l.toArray I [s1, s2, s3] n = true) (h1 : l[s1]? = some o1) (hg1 : o1.guard = none) (h2 : l[s2]? = some o2) (hg2 : o2.guard = none) (h3 : l[s3]? = some o3) (hg3 : o3.guard = none) (h0 : St [] [])
    (ht : wpTextG P (Stg St D w0 L) l.toArray (I.filterMap fun i => l[i]?) a af) (hA : ∀ Lg w, St [] Lg → Mm D w0 w (Lg ++ L) → yield P o1 af w fun u w' => Stg St D w0 L [u] w')
    (hA2 : ∀ v Lg w, St [v] Lg → Mm D w0 w (Lg ++ L) → yield P o2 (af.put o1.dst v) w fun u w' => Stg St D w0 L [v, u] w')
    (hA3 : ∀ v u Lg w, St [v, u] Lg → Mm D w0 w (Lg ++ L) → yield P o3 ((af.put o1.dst v).put o2.dst u) w fun x w' => Stg St D w0 L [v, u, x] w')
    (hQ : ∀ v u x Lg w', St [v, u, x] Lg → Mm D w0 w' (Lg ++ L) → wpList P l.toArray Q (l.drop n) (((af.put o1.dst v).put o2.dst u).put o3.dst x) w') : (Code.region id l.toArray true).wp P Q a w :=
  wp_region_float3 I s1 s2 s3 n o1 o2 o3 (Stg St D w0 L) hm hB h1 hg1 h2 hg2 h3 hg3 (fun w ⟨Lg, h, M⟩ => hA Lg w h M) (fun v w ⟨Lg, h, M⟩ => hA2 v Lg w h M) (fun v u w ⟨Lg, h, M⟩ => hA3 v u Lg w h M) ⟨[], h0, M.drew⟩ ht fun v u x w' ⟨Lg, h, M⟩ => hQ v u x Lg w' h M
/-- A new variable among them. -/
def StA (w0 : World) (cs : Array Value) (ty : Nat) : List Value → List Ent → Prop
  | [], Lg => Lg = []
  | v :: _, Lg => ∃ b, v = .pointer (some ⟨b, 0, none⟩) ∧ w0.heap.size ≤ b ∧ Lg = [.box b cs ty]
theorem yield_allocM (M : Mm D w0 w L) {ty : Nat} {cs : Array Value} (ho : isAlloc o.op ty = true) {z : Value} (hz : ∀ w, (zeroValue ty).run P w = .ok z w) (hc : z.cells = cs) : yield P o a w fun u w' => Stg (StA w0 cs ty) D w0 L [u] w' := by
  have h := isAlloc_spec ho
  subst hc
  unfold yield
  have e : (Instr.alloc ty true (.tuple #[])).run P w = .ok (.pointer (some ⟨w.heap.size, 0, none⟩)) (w.alloc (.cells z.cells ty)) := by
    simp [Instr.alloc, newVar, Sem.run_bind, hz]
    first | done | rfl
  simp only [execOp, h, Sem.run_bind, e, Result.andThen_ok, Sem.run_pure, yieldR]
  exact ⟨_, ⟨_, rfl, M.size, rfl⟩, M.alloc _ _⟩
theorem wp_region_mma {id : Nat} {l : List Oper} (M : Mm D w0 w L) (I : List Nat) (s1 n : Nat) (o1 : Oper) (ty : Nat) (cs : Array Value) (hm : P.follows .mixedOrders = true) (hB : newI l.toArray I [s1] n = true) (h1 : l[s1]? = some o1) (hg1 : o1.guard = none)
    (ho : isAlloc o1.op ty = true) {z : Value} (hz : ∀ w, (zeroValue ty).run P w = .ok z w) (hc : z.cells = cs)
    (ht : wpTextG P (Stg (StA w0 cs ty) D w0 L) l.toArray (I.filterMap fun i => l[i]?) a af)
    (hQ : ∀ b w', w0.heap.size ≤ b → Mm D w0 w' (.box b cs ty :: L) → wpList P l.toArray Q (l.drop n) (af.put o1.dst (.pointer (some ⟨b, 0, none⟩))) w') : (Code.region id l.toArray true).wp P Q a w :=
  wp_region_mmf1 M I s1 n o1 (StA w0 cs ty) hm hB h1 hg1 rfl ht (fun Lg w h M => by
    have h' : Lg = [] := h
    subst h'
    exact yield_allocM M ho hz hc) fun v Lg w' h M => by
    obtain ⟨b, rfl, hb, rfl⟩ := h
    exact hQ b w' hb M
/-- A new slice of given parts among them. -/
def StB (w0 : World) (cs : Array Value) (e len : Nat) : List Value → List Ent → Prop
  | [], Lg => Lg = []
  | v :: _, Lg => ∃ b, v = .slice (some ⟨b, 0, none⟩) len len ∧ w0.heap.size ≤ b ∧ Lg = [.box b cs e]
theorem wp_region_mmb {id : Nat} {l : List Oper} (M : Mm D w0 w L) (I : List Nat) (s1 n : Nat) (o1 : Oper) (ty len e : Nat) (vals : List (Nat × Value)) (cs : Array Value) (hm : P.follows .mixedOrders = true) (hB : newI l.toArray I [s1] n = true) (h1 : l[s1]? = some o1) (hg1 : o1.guard = none)
    (ho : isBsl o1.op ty len = true)
    (ht : wpTextG P (Stg (StB w0 cs e len) D w0 L) l.toArray (I.filterMap fun i => l[i]?) a af)
    (hv : (bslParts o1.op).map (fun p => (p.1, af.eval p.2)) = vals) (hb : ∀ w : World, (Instr.buildSlice ty len vals.toArray).run P w = .ok (.slice (some ⟨w.heap.size, 0, none⟩) len len) (w.alloc (.cells cs e)))
    (hQ : ∀ b w', w0.heap.size ≤ b → Mm D w0 w' (.box b cs e :: L) → wpList P l.toArray Q (l.drop n) (af.put o1.dst (.slice (some ⟨b, 0, none⟩) len len)) w') : (Code.region id l.toArray true).wp P Q a w :=
  wp_region_mmf1 M I s1 n o1 (StB w0 cs e len) hm hB h1 hg1 rfl ht (fun Lg w h M => by
    have h' : Lg = [] := h
    subst h'
    subst hv
    unfold yield
    have hs := isBsl_spec ho
    rw [show execOp af.eval o1 = (do pure (.value (← Instr.buildSlice ty len ((bslParts o1.op).map (fun p => (p.1, af.eval p.2))).toArray))) by unfold execOp; rw [hs]; simp [bslParts]]
    simp only [Sem.run_bind, hb, Result.andThen_ok, Sem.run_pure, yieldR]
    exact ⟨_, ⟨_, rfl, M.size, rfl⟩, M.alloc _ _⟩) fun v Lg w' h M => by
    obtain ⟨b, rfl, hb, rfl⟩ := h
    exact hQ b w' hb M
end
end Go.Proofs.Ythdldlpflieeoaa

/- Rows of structs, read one by one. -/
namespace Go.Proofs.Ythdldlpflieeoaa
set_option linter.unusedSimpArgs false
set_option linter.unusedVariables false
open Go Go.RowKit

/-- The cells of a row of structs. -/
def rowC {α : Type} (f : α → Array Value) (l : List α) : List Value := l.flatMap fun x => (f x).toList
theorem rowC_get {α : Type} {f : α → Array Value} {S : Nat} (hS : ∀ x, (f x).size = S) : ∀ (l : List α) {k j : Nat} (hk : k < l.length), j < S → (rowC f l)[k * S + j]? = (f l[k])[j]?
  | x :: l, 0, j, _, hj => by
    have e : rowC f (x :: l) = (f x).toList ++ rowC f l := rfl
    rw [e, Nat.zero_mul, Nat.zero_add, List.getElem?_append_left (by rw [Array.length_toList, hS]; exact hj)]
    simp
  | x :: l, k + 1, j, hk, hj => by
    have e : rowC f (x :: l) = (f x).toList ++ rowC f l := rfl
    have hs : (f x).toList.length = S := by rw [Array.length_toList, hS]
    have hm : (k + 1) * S + j = S + (k * S + j) := by rw [Nat.succ_mul]; omega
    rw [e, hm, List.getElem?_append_right (by rw [hs]; omega), hs, Nat.add_sub_cancel_left]
    exact rowC_get hS l (by simpa using hk) hj
theorem rowC_len {α : Type} {f : α → Array Value} {S : Nat} (hS : ∀ x, (f x).size = S) : ∀ l : List α, (rowC f l).length = l.length * S
  | [] => by simp [rowC]
  | x :: l => by
    have e : rowC f (x :: l) = (f x).toList ++ rowC f l := rfl
    rw [e, List.length_append, rowC_len hS l, Array.length_toList, hS, List.length_cons, Nat.succ_mul]; omega
theorem row_cells {α : Type} {f : α → Array Value} {S : Nat} (hS : ∀ x, (f x).size = S) {w : World} {g : Nat} {l : List α} (h : rds w g (l.length * S) (fun j => (rowC f l).getD j undef)) {k : Nat} (hk : k < l.length) :
    ∀ j v, (f l[k])[j]? = some v → w.cell? ⟨g, k * S + j, none⟩ = some v := by
  intro j v hv
  have hj : j < S := by rw [← hS l[k]]; exact (Array.getElem?_eq_some_iff.1 hv).1
  have hb : k * S + j < l.length * S := by
    have : (k + 1) * S ≤ l.length * S := Nat.mul_le_mul_right _ hk
    rw [Nat.succ_mul] at this; omega
  rw [h.at_ _ hb, List.getD_eq_getElem?_getD, rowC_get hS l hk hj, hv]
  rfl
theorem all_take {α : Type} (p : α → Bool) (l : List α) {k : Nat} (hk : k < l.length) : (l.take (k + 1)).all p = ((l.take k).all p && p l[k]) := by
  rw [List.take_succ_eq_append_getElem hk, List.all_append]; simp
theorem all_fails {α : Type} {p : α → Bool} {l : List α} {k : Nat} (hk : k < l.length) (h : p l[k] = false) : l.all p = false := by
  rw [List.all_eq_false]; exact ⟨l[k], List.getElem_mem hk, by rw [h]; simp⟩
/-- The first place at which p holds, or -1. -/
def placeOf {α : Type} (p : α → Bool) (l : List α) : Int := match l.findIdx? p with | some i => (i : Int) | none => -1
theorem placeOf_some {α : Type} {p : α → Bool} {l : List α} {k : Nat} (hk : k < l.length) (hb : ∀ j (h : j < k), p (l[j]'(Nat.lt_trans h hk)) = false) (h : p l[k] = true) : placeOf p l = (k : Int) := by
  have : l.findIdx? p = some k := List.findIdx?_eq_some_iff_getElem.2 ⟨hk, h, fun j hj => by simp [hb j hj]⟩
  unfold placeOf; rw [this]
theorem placeOf_none {α : Type} {p : α → Bool} {l : List α} (hb : ∀ j (h : j < l.length), p l[j] = false) : placeOf p l = -1 := by
  have : l.findIdx? p = none := List.findIdx?_eq_none_iff.2 fun x hx => by
    obtain ⟨j, hj, rfl⟩ := List.getElem_of_mem hx
    exact hb j hj
  unfold placeOf; rw [this]
/-- A square of any order. -/
structure Sqr where
  n : Int
  t : Nat → Nat → Nat
def sqC (q : Sqr) : Array Value := sqs q.n q.t
def slC (l : List Sqr) : List Value := rowC sqC l
end Go.Proofs.Ythdldlpflieeoaa

/- What is known of memory, in another order; one cell of a row written; rows of rows. -/
namespace Go.Proofs.Ythdldlpflieeoaa
set_option linter.unusedSimpArgs false
set_option linter.unusedVariables false
open Go Go.RowKit

section
variable {D : Nat → Prop} {w0 w w' : World} {L L' : List Ent}
theorem Mm.mem (M : Mm D w0 w L) {x : Ent} (h : x ∈ L) : x.holds w := by
  obtain ⟨i, hi⟩ := List.getElem?_of_mem h
  exact M.ents i x hi
theorem Mm.pair (M : Mm D w0 w L) : L.Pairwise apart :=
  List.pairwise_iff_getElem.2 fun i j hi hj hij => M.dist i j _ _ (List.getElem?_eq_getElem hi) (List.getElem?_eq_getElem hj) (by omega)
theorem Mm.of_pair (hk : Kept D w0 w) (he : ∀ x ∈ L, x.holds w) (hp : L.Pairwise apart) : Mm D w0 w L := by
  refine ⟨hk, fun i x h => he x (List.mem_of_getElem? h), fun i j x y hi hj hij => ?_⟩
  obtain ⟨h1, rfl⟩ := List.getElem?_eq_some_iff.1 hi
  obtain ⟨h2, rfl⟩ := List.getElem?_eq_some_iff.1 hj
  rcases Nat.lt_or_gt_of_ne hij with h | h
  · exact List.pairwise_iff_getElem.1 hp i j h1 h2 h
  · exact (List.pairwise_iff_getElem.1 hp j i h2 h1 h).symm
/-- The order of what is told is free. -/
theorem Mm.perm (M : Mm D w0 w L) (h : L.Perm L') : Mm D w0 w L' :=
  .of_pair M.kept (fun _ hx => M.mem (h.mem_iff.2 hx)) (h.pairwise M.pair apart.symm)
/-- A slice that holds nothing. -/
theorem Mm.nilRow (M : Mm D w0 w L) (B e size : Nat) : Mm D w0 w (.row B (.slice none 0 0) 0 [] e size :: L) :=
  M.add (World.ownsRow_nil w B e size) fun _ _ b h => by cases h
/-- What a call has made is told besides. -/
theorem Mm.join (M : Mm D w0 w L) (M' : Mm no w w' L') (hn : ∀ x ∈ L', ∀ b, x.place b → w.heap.size ≤ b) : Mm D w0 w' (L' ++ L) := by
  have h := M.later M'.below
  refine .of_pair h.kept (fun x hx => ?_) (List.pairwise_append.2 ⟨M'.pair, h.pair, fun x hx y hy b h1 h2 => ?_⟩)
  · rcases List.mem_append.1 hx with h1 | h1
    · exact M'.mem h1
    · exact h.mem h1
  · have := Ent.lt (M.mem hy) h2
    have := hn x hx b h1
    omega
/-- One cell of a row is written. -/
theorem Mm.rowset (M : Mm D w0 w L) (i : Nat) {B g n cap e size : Nat} {xs : List Value} (hi : L[i]? = some (.row B (.slice (some ⟨g, 0, none⟩) n cap) n xs e size)) (hB : w0.heap.size ≤ B ∨ D g) (j : Nat) (u : Value) :
    Mm D w0 (w.setCell ⟨g, j, none⟩ u) (L.set i (.row B (.slice (some ⟨g, 0, none⟩) n cap) n (xs.set j u) e size)) := by
  obtain ⟨h1, h2⟩ := (M.row i hi).stored j u
  have hlt := World.ownsRow.lt (M.row i hi) g rfl
  exact M.set i hi (kept_setCell w g j u) (fun k h => by cases h; rfl) (fun k hk h => by subst h; rcases hB with h | h; omega; exact h) h1 fun k h => .inl h
end

section
variable {P : Program} {D : Nat → Prop} {w0 w : World} {L : List Ent} {ops : Array Oper} {rest : List Oper} {o : Oper} {a : Act} {Q : Exit → Act → World → Prop}
/-- One cell of a row is written. -/
theorem wpM_rst (M : Mm D w0 w L) (i : Nat) {B g n cap e : Nat} {xs : List Value} (hi : L[i]? = some (.row B (.slice (some ⟨g, 0, none⟩) n cap) n xs e 1)) (hB : w0.heap.size ≤ B ∨ D g) (hw : Region.wanted o (yielded ops a.tmps) = true) (ty : TypeId) (x y : Operand) (ho : o.op = .store ty x y)
    (j : Nat) (hx : a.eval x = .pointer (some ⟨g, j, none⟩)) (v : Value) (hy : a.eval y = v) (hv : oneV v = true) (hs : (P.info? ty).map (·.size) = some 1) (hj : j < n)
    (h : ∀ w', Mm D w0 w' (L.set i (.row B (.slice (some ⟨g, 0, none⟩) n cap) n (xs.set j v) e 1)) → wpList P ops Q rest (a.put o.dst undef) w') : wpList P ops Q (o :: rest) a w := by
  refine wpList_wanted hw ?_
  have hB' := M.row i hi
  have hlen : xs.length = n := by have := hB'.1; omega
  have hcell : w.cell? ⟨g, j, none⟩ = some xs[j] := by rw [World.ownsRow.cellAt hB' j (by omega), List.getElem?_eq_getElem]
  have hfree := World.ownsRow.frozenAt hB' j
  cases hq : P.info? ty with
  | none => simp [hq] at hs
  | some q =>
    have hs' : q.size = 1 := by simpa [hq] using hs
    have hst : (storeVar ty ⟨g, j, none⟩ v).run P w = .ok () (w.setCell ⟨g, j, none⟩ v) := by
      have hc : v.cells = #[v] := by cases v <;> simp_all [Value.cells, oneV]
      have step : (store ((⟨g, j, none⟩ : Addr).add 0) v).run P w = .ok () (w.setCell ⟨g, j, none⟩ v) := by
        rw [add_none, Nat.add_zero]
        cases v <;> simp_all [store, Sem.run, oneV]
      simp [storeVar, sizeOf, typeInfo, hq, hs', hc, storeCells, step]
    unfold Oper.wp execOp
    simp only [ho, hx, hy, Instr.storeAt, Instr.sureAddr, Sem.run_bind, Sem.run_pure, Result.andThen_ok, hst]
    exact h _ (M.rowset i hi hB j v)
theorem wpM_rst' (M : Mm D w0 w L) (i ty B g n cap e : Nat) (xs : List Value) (j : Nat) (v : Value) (ho : isStore o.op ty = true) (hi : L[i]? = some (.row B (.slice (some ⟨g, 0, none⟩) n cap) n xs e 1)) (hx : a.eval (addrOf o.op) = .pointer (some ⟨g, j, none⟩)) (hy : a.eval (valOf o.op) = v)
    (H : Region.wanted o (yielded ops a.tmps) = true ∧ oneV v = true ∧ (P.info? ty).map (·.size) = some 1) (hB : w0.heap.size ≤ B ∨ D g) (hj : j < n)
    (h : ∀ w', Mm D w0 w' (L.set i (.row B (.slice (some ⟨g, 0, none⟩) n cap) n (xs.set j v) e 1)) → wpList P ops Q rest (a.put o.dst undef) w') : wpList P ops Q (o :: rest) a w :=
  wpM_rst M i hi hB H.1 ty _ _ (isStore_spec ho) j hx v hy H.2.1 H.2.2 hj h
end
end Go.Proofs.Ythdldlpflieeoaa

/- make over what is known of memory; slices that come in are read. -/
namespace Go.Proofs.Ythdldlpflieeoaa
set_option linter.unusedSimpArgs false
set_option linter.unusedVariables false
open Go Go.RowKit

def isMake : Op → Nat → Bool | .makeSlice t _ _, ty => t == ty | _, _ => false
def mkL : Op → Operand | .makeSlice _ l _ => l | _ => .tmp 0
def mkC : Op → Operand | .makeSlice _ _ c => c | _ => .tmp 0
theorem isMake_spec {p : Op} {ty : Nat} (h : isMake p ty = true) : p = .makeSlice ty (mkL p) (mkC p) := by cases p <;> simp_all [isMake, mkL, mkC]
section
variable {P : Program} {D : Nat → Prop} {w0 w : World} {L : List Ent} {ops : Array Oper} {rest : List Oper} {o : Oper} {a : Act} {Q : Exit → Act → World → Prop}
theorem wpM_make' (M : Mm D w0 w L) (t e size bytes : Nat) (z : Value) (n : Nat) (ho : isMake o.op t = true) (hl : a.eval (mkL o.op) = .int .i64 (n : Int)) (hc : a.eval (mkC o.op) = .int .i64 (n : Int)) (hgd : o.guard = none) (ht : P.underlying t = some (.slice e))
    (hinfo : (P.info? e).map (fun i => (i.zero, i.size, i.bytes)) = some (some z, size, bytes)) (hbytes : bytes * n ≤ 281474976710656) (h63 : n ≤ 9223372036854775807)
    (h : ∀ b w', w0.heap.size ≤ b → Mm D w0 w' (.box b (madeCells z.cells (n * size)) e :: L) → wpList P ops Q rest (a.put o.dst (.slice (some ⟨b, 0, none⟩) n n)) w') : wpList P ops Q (o :: rest) a w := by
  obtain ⟨i, hi, hzz⟩ := Option.map_eq_some_iff.1 hinfo
  simp only [Prod.mk.injEq] at hzz
  obtain ⟨hz, hs, hb⟩ := hzz
  refine wpList_wanted (by simp [Region.wanted, hgd]) ?_
  have hb' : (i.bytes : Int) * (n : Int) ≤ 281474976710656 := by
    have h : ((i.bytes * n : Nat) : Int) ≤ 281474976710656 := by rw [hb]; omega
    rwa [Int.natCast_mul] at h
  have hr := run_make (P := P) w t e i z ht hi hz .i64 .i64 n n (by omega) (Int.le_refl _) hb' (by omega)
  simp only [Int.toNat_natCast, hs] at hr
  unfold Oper.wp execOp
  rw [isMake_spec ho]
  simp only [hl, hc, Sem.run_bind, hr, Result.andThen_ok, Sem.run_pure]
  exact h _ _ M.size (M.alloc _ _)
end

/-- A slice that comes in: its cells, if it has any. -/
def rdp (w : World) (p : Option Addr) (n : Nat) (f : Nat → Value) : Prop := 0 < n → ∃ b off, p = some ⟨b, off, none⟩ ∧ b < w.heap.size ∧ ∀ j, j < n → w.cell? ⟨b, off + j, none⟩ = some (f j)
def pBlk (p : Option Addr) : Nat → Prop := fun k => ∃ a, p = some a ∧ a.block = k
/-- What is known of a slice that comes in. -/
def Ent.inc (n : Nat) (p : Option Addr) (f : Nat → Value) : Ent := .res (fun k => 0 < n ∧ pBlk p k) (fun w => rdp w p n f)
theorem rdp.kept {w w' : World} {p : Option Addr} {n : Nat} {f : Nat → Value} (h : rdp w p n f) {E : Nat → Prop} (hk : Kept E w w') (hd : ∀ k, pBlk p k → 0 < n → ¬ E k) : rdp w' p n f := fun hn => by
  obtain ⟨b, off, rfl, hb, hc⟩ := h hn
  have e := hk.block b hb (hd b ⟨_, rfl, rfl⟩ hn)
  exact ⟨b, off, rfl, Nat.lt_of_lt_of_le hb hk.size, fun j hj => by rw [World.cell?_of_block (w := w) (a := ⟨b, off + j, none⟩) e]; exact hc j hj⟩
theorem rdp.ent {w : World} {p : Option Addr} {n : Nat} {f : Nat → Value} (h : rdp w p n f) : (Ent.inc n p f).holds w :=
  ⟨fun k ⟨hn, a, e, hk⟩ => by
    obtain ⟨b, off, rfl, hb, _⟩ := h hn
    cases e; subst hk; exact hb,
   fun _ _ hk hd => h.kept hk fun k hp hn => hd k ⟨hn, hp⟩⟩
theorem rdp_in {w : World} {D : Nat → Prop} {w0 : World} {L : List Ent} (M : Mm D w0 w L) (i : Nat) {p : Option Addr} {n : Nat} {f : Nat → Value} (h : L[i]? = some (Ent.inc n p f)) : rdp w p n f := Ent.res_now (M.ents i _ h)
/-- A row of one's own, told as a slice that comes in. -/
theorem blk.rdp {w : World} {b t : Nat} {cs : Array Value} (h : blk w b cs t) (n : Nat) (f : Nat → Value) (hf : ∀ j, j < n → cs[j]? = some (f j)) : rdp w (some ⟨b, 0, none⟩) n f := fun _ => ⟨b, 0, rfl, h.lt, fun j hj => h.cell _ _ (by rw [Nat.zero_add]; exact hf j hj)⟩
theorem rds.rdp {w : World} {g n : Nat} {f : Nat → Value} (h : rds w g n f) : rdp w (some ⟨g, 0, none⟩) n f := fun _ => ⟨g, 0, rfl, h.lt, fun j hj => by rw [Nat.zero_add]; exact h.at_ j hj⟩
/-- A known box is read from now on. -/
theorem Mm.toRd {D : Nat → Prop} {w0 w : World} {L : List Ent} (M : Mm D w0 w L) (i : Nat) {b t : Nat} {cs : Array Value} (hi : L[i]? = some (.box b cs t)) (n : Nat) (f : Nat → Value) (hf : ∀ j, j < n → cs[j]? = some (f j)) : Mm D w0 w (L.set i (.rd b n f)) :=
  M.set i hi (.refl no w) (fun _ h => h.elim) (fun _ _ h => h.elim) ((M.box i hi).rds hf) fun k h => .inl (by cases h; rfl)
end Go.Proofs.Ythdldlpflieeoaa

/- Rows of rows: a list of lists of numbers in memory. -/
namespace Go.Proofs.Ythdldlpflieeoaa
set_option linter.unusedSimpArgs false
set_option linter.unusedVariables false
open Go Go.RowKit

/-- A slice of one's own (it begins where its block begins): its cells, if it has any. -/
def rdq (w : World) (p : Option Addr) (n : Nat) (f : Nat → Value) : Prop := 0 < n → ∃ g, p = some ⟨g, 0, none⟩ ∧ rds w g n f
def Ent.own (n : Nat) (p : Option Addr) (f : Nat → Value) : Ent := .res (fun k => 0 < n ∧ pBlk p k) (fun w => rdq w p n f)
theorem rdq.kept {w w' : World} {p : Option Addr} {n : Nat} {f : Nat → Value} (h : rdq w p n f) {E : Nat → Prop} (hk : Kept E w w') (hd : ∀ k, pBlk p k → 0 < n → ¬ E k) : rdq w' p n f := fun hn => by
  obtain ⟨g, rfl, hr⟩ := h hn
  exact ⟨g, rfl, Ent.holds_of (x := .rd g n f) hr hk fun b hb => by cases hb; exact hd g ⟨_, rfl, rfl⟩ hn⟩
theorem rdq.ent {w : World} {p : Option Addr} {n : Nat} {f : Nat → Value} (h : rdq w p n f) : (Ent.own n p f).holds w :=
  ⟨fun k ⟨hn, a, e, hk⟩ => by
    obtain ⟨g, rfl, hr⟩ := h hn
    cases e; subst hk; exact hr.lt,
   fun _ _ hk hd => h.kept hk fun k hp hn => hd k ⟨hn, hp⟩⟩
theorem rdq_in {D : Nat → Prop} {w0 w : World} {L : List Ent} (M : Mm D w0 w L) (i : Nat) {p : Option Addr} {n : Nat} {f : Nat → Value} (h : L[i]? = some (Ent.own n p f)) : rdq w p n f := Ent.res_now (M.ents i _ h)
theorem rdq_of_own {w : World} {base e size n cap : Nat} {p : Option Addr} {xs : List Value} (h : w.ownsRow base e size (.slice p n cap) n xs) : rdq w p (n * size) (fun j => xs.getD j undef) := fun hn => by
  obtain ⟨g, cap', e, _, _, hr⟩ := own_rds h hn
  cases e
  exact ⟨g, rfl, hr⟩
theorem rds.rdq {w : World} {g n : Nat} {f : Nat → Value} (h : rds w g n f) : rdq w (some ⟨g, 0, none⟩) n f := fun _ => ⟨g, rfl, h⟩

/-- The numbers of a list as cells. -/
def ints (l : List Nat) : List Value := l.map fun (i : Nat) => .int .i64 (i : Int)
theorem ints_len (l : List Nat) : (ints l).length = l.length := by simp [ints]
theorem ints_app (l : List Nat) (i : Nat) : ints (l ++ [i]) = ints l ++ [.int .i64 (i : Int)] := by simp [ints]
/-- What is known of the rows of a list of lists. -/
def clsE (B e : Nat) (vs : List Value) (cls : List (List Nat)) : List Ent := List.zipWith (fun v c => .row B v c.length (ints c) e 1) vs cls
theorem clsE_len {B e : Nat} {vs : List Value} {cls : List (List Nat)} (h : vs.length = cls.length) : (clsE B e vs cls).length = cls.length := by simp [clsE, h]
theorem clsE_get {B e : Nat} {vs : List Value} {cls : List (List Nat)} {k : Nat} (hv : k < vs.length) (hc : k < cls.length) : (clsE B e vs cls)[k]? = some (.row B vs[k] cls[k].length (ints cls[k]) e 1) := by
  simp [clsE, List.getElem?_zipWith, List.getElem?_eq_getElem hv, List.getElem?_eq_getElem hc]
theorem clsE_new {B e : Nat} {vs : List Value} {cls : List (List Nat)} (h : vs.length = cls.length) (v : Value) (c : List Nat) : clsE B e (vs ++ [v]) (cls ++ [c]) = clsE B e vs cls ++ [.row B v c.length (ints c) e 1] := by
  simp only [clsE]; rw [List.zipWith_append h]; rfl
theorem clsE_set {B e : Nat} {vs : List Value} {cls : List (List Nat)} {k : Nat} (v : Value) (hc : k < cls.length) (i : Nat) :
    (clsE B e vs cls).set k (.row B v (cls[k].length + 1) (ints cls[k] ++ [.int .i64 (i : Int)]) e 1) = clsE B e (vs.set k v) (cls.modify k (· ++ [i])) := by
  apply List.ext_getElem?
  intro j
  simp only [clsE, List.getElem?_set, List.getElem?_zipWith, List.getElem?_modify, List.length_zipWith]
  by_cases hj : k = j
  · subst hj
    by_cases hv : k < vs.length
    · have : k < min vs.length cls.length := by omega
      simp [hv, hc, this, ints_app]
    · have : ¬ k < min vs.length cls.length := by omega
      simp [hv, this]
  · simp [hj]

/-- The slice that is the whole of a row, and where its first cell lies. -/
theorem own_head {w : World} {base e n : Nat} {v : Value} {xs : List Value} (h : w.ownsRow base e 1 v n xs) (hn : 0 < n) : ∃ g cap, v = .slice (some ⟨g, 0, none⟩) n cap ∧ w.cell? ⟨g, 0, none⟩ = xs[0]? ∧ g < w.heap.size := by
  obtain ⟨g, cap, e, _, ho, hr⟩ := own_rds h (by omega)
  subst e
  exact ⟨g, cap, rfl, World.ownsRow.cellAt h 0 (by omega), hr.lt⟩

/-- The list of lists that a slice of slices holds: all of it in memory of its own. -/
def ClsRes (B : Nat) (w0 w : World) (v : Value) (cls : List (List Nat)) (eo ei : Nat) : Prop :=
  ∃ vs : List Value, vs.length = cls.length ∧ Mm no w0 w (.row B v cls.length vs eo 1 :: clsE B ei vs cls)
theorem set_last {α : Type} {l : List α} {n : Nat} (h : n = l.length) (x y : α) : (l ++ [x]).set n y = l ++ [y] := by
  subst h
  rw [List.set_append_right _ _ (Nat.le_refl _), Nat.sub_self]; rfl
theorem clsE_set_new {B e : Nat} {vs : List Value} {cls : List (List Nat)} (h : vs.length = cls.length) (x v : Value) (i : Nat) :
    (clsE B e (vs ++ [x]) (cls ++ [[]])).set cls.length (.row B v 1 [.int .i64 (i : Int)] e 1) = clsE B e (vs ++ [v]) (cls ++ [[i]]) := by
  rw [clsE_new h, clsE_new h, set_last (clsE_len h).symm]; rfl
theorem own_set {D : Nat → Prop} {w0 w : World} {L : List Ent} {i B n e size : Nat} {v : Value} {xs : List Value} {y : Ent} (M : Mm D w0 w (L.set i (.row B v n xs e size))) (h : L[i]? = some y) : ∃ pp cap, v = .slice pp n cap :=
  own_form (M.row i (by rw [List.getElem?_set_self (List.getElem?_eq_some_iff.1 h).1]))
end Go.Proofs.Ythdldlpflieeoaa

/- A drawn region, each operation under an act of its own that holds what the operation reads. -/
namespace Go.Proofs.Ythdldlpflieeoaa
set_option linter.unusedSimpArgs false
set_option linter.unusedVariables false
open Go Go.RowKit

def updD (D : Nat → Bool) (i : Nat) : Nat → Bool := fun j => if j = i then true else D j
def updG (g : Nat → Value) (i : Nat) (u : Value) : Nat → Value := fun j => if j = i then u else g j
/-- What a place holds: what the operation that writes it has given, or what was there. -/
def readV (l : List Oper) (a : Act) (g : Nat → Value) (t : Nat) : Value := match l.findIdx? (fun o => o.dst == some t) with | some j => g j | none => a.tmps.getD t undef
theorem readV_full {l : List Oper} {a0 : Act} (hB : freeB l.toArray a0.tmps.size = true) (g : Nat → Value) (t : Nat) : (fullAct l 0 a0 g).tmps.getD t undef = readV l a0 g t := by
  unfold readV
  split
  · rename_i j hj
    obtain ⟨hlt, h1, _⟩ := List.findIdx?_eq_some_iff_getElem.1 hj
    have hd : l[j].dst = some t := by simpa using h1
    have hf := freeB_spec hB (show l.toArray[j]? = some l[j] by simp [hlt])
    rw [full_new l 0 a0 g t j l[j] (List.getElem?_eq_getElem hlt) hd (hf.lt t hd) fun j' o' h' hn => hf.own t hd j' o' (by simpa using h') hn, Nat.zero_add]
  · rename_i hn
    rw [List.findIdx?_eq_none_iff] at hn
    exact full_old l 0 a0 g t fun o ho hd => by
      have := hn o ho
      simp [hd] at this
/-- THE RULE, each operation under an act of one's own that holds what the operation reads. -/
theorem wp_region_own {P : Program} {id : Nat} {Q : Exit → Act → World → Prop} {a0 : Act} {w : World} {l : List Oper} (S : (Nat → Bool) → (Nat → Value) → World → Prop) (hm : P.follows .mixedOrders = true) (hB : freeB l.toArray a0.tmps.size = true)
    (g0 : Nat → Value) (hS : S (fun _ => false) g0 w.drew)
    (hstep : ∀ i o, l[i]? = some o → ∀ D g w, D i = false → (∀ e ∈ o.after, Region.binds .any e = true → D e.on = true) → S D g w →
      ∃ A : Act, (∀ t ∈ o.looksAt l.toArray, A.tmps.getD t undef = readV l a0 g t) ∧ yield P o A w fun u w' => S (updD D i) (updG g i u) w')
    (hQ : ∀ D g w, (∀ i, i < l.length → D i = true) → S D g w → Q .normal (fullAct l 0 a0 g) w) : (Code.region id l.toArray true).wp P Q a0 w := by
  refine wp_region_free S hm hB g0 hS (fun i o hi D g w hi0 hpre hS => ?_) hQ
  obtain ⟨A, hA, hy⟩ := hstep i o hi D g w hi0 hpre hS
  have hsel : ∀ cs b, o.op ≠ .select cs b := fun cs b => by
    simp only [freeB, Bool.and_eq_true] at hB
    exact Region.noSelect_spec hB.1 i o cs b (by simpa using hi)
  have he : execOp (fullAct l 0 a0 g).eval o = execOp A.eval o := execOp_congr o hsel fun x hx => by
    cases x with
    | tmp t =>
      have ht : t ∈ o.looksAt l.toArray := List.mem_append_left _ (List.mem_filterMap.2 ⟨.tmp t, by simpa using hx, rfl⟩)
      show (fullAct l 0 a0 g).tmps.getD t undef = A.tmps.getD t undef
      rw [hA t ht, readV_full hB]
    | _ => rfl
  unfold yield at hy ⊢
  rw [he]; exact hy

theorem updD_at (D : Nat → Bool) (i : Nat) : updD D i i = true := if_pos rfl
theorem updD_ne {D : Nat → Bool} {i j : Nat} (h : j ≠ i) : updD D i j = D j := if_neg h
theorem updG_at (g : Nat → Value) (i : Nat) (u : Value) : updG g i u i = u := if_pos rfl
theorem updG_ne {g : Nat → Value} {i j : Nat} {u : Value} (h : j ≠ i) : updG g i u j = g j := if_neg h
end Go.Proofs.Ythdldlpflieeoaa

/- A drawn region whose operations make new memory and hand on values, in any order: what is known of each operation that has been done. -/
namespace Go.Proofs.Ythdldlpflieeoaa
set_option linter.unusedSimpArgs false
set_option linter.unusedVariables false
open Go Go.RowKit

def updE (E : Nat → List Ent) (i : Nat) (u : List Ent) : Nat → List Ent := fun j => if j = i then u else E j
theorem updE_at (E : Nat → List Ent) (i : Nat) (u : List Ent) : updE E i u i = u := if_pos rfl
theorem updE_ne {E : Nat → List Ent} {i j : Nat} {u : List Ent} (h : j ≠ i) : updE E i u j = E j := if_neg h
theorem flat_upd {E : Nat → List Ent} {i : Nat} {Ei : List Ent} : ∀ {l : List Nat}, l.Nodup → i ∈ l → E i = [] → (l.flatMap (updE E i Ei)).Perm (Ei ++ l.flatMap E)
  | [], _, h, _ => by cases h
  | a :: l, hn, hm, he => by
    simp only [List.flatMap_cons]
    by_cases ha : a = i
    · subst ha
      rw [updE_at, he, List.nil_append]
      have : (l.flatMap (updE E a Ei)) = l.flatMap E := by
        have hna := (List.nodup_cons.1 hn).1
        clear hm hn
        induction l with
        | nil => rfl
        | cons b l ih =>
          simp only [List.flatMap_cons]
          rw [updE_ne (fun e => hna (by rw [e]; exact List.mem_cons_self ..)), ih fun h => hna (List.mem_cons_of_mem _ h)]
      rw [this]
    · rw [updE_ne ha]
      have hm' : i ∈ l := by
        rcases List.mem_cons.1 hm with h | h
        · exact absurd h.symm ha
        · exact h
      have ih := flat_upd (E := E) (Ei := Ei) (List.nodup_cons.1 hn).2 hm' he
      have h1 : (E a ++ l.flatMap (updE E i Ei)).Perm (E a ++ (Ei ++ l.flatMap E)) := List.Perm.append_left _ ih
      have h2 : (E a ++ (Ei ++ l.flatMap E)).Perm (Ei ++ (E a ++ l.flatMap E)) := by
        rw [← List.append_assoc, ← List.append_assoc]
        exact List.Perm.append_right _ List.perm_append_comm
      exact h1.trans h2
theorem pull_list : ∀ {K l : List Nat}, K.Nodup → (∀ k ∈ K, k ∈ l) → ∃ X, l.Perm (K ++ X)
  | [], l, _, _ => ⟨l, List.Perm.refl _⟩
  | k :: K, l, hn, hm => by
    obtain ⟨X, hX⟩ := pull_list (K := K) (l := l) (List.nodup_cons.1 hn).2 fun j hj => hm j (List.mem_cons_of_mem _ hj)
    have hk : k ∈ K ++ X := hX.mem_iff.1 (hm k (List.mem_cons_self ..))
    have hk2 : k ∈ X := by
      rcases List.mem_append.1 hk with h | h
      · exact absurd h (List.nodup_cons.1 hn).1
      · exact h
    refine ⟨X.erase k, hX.trans ?_⟩
    have h1 : (K ++ X).Perm (K ++ (k :: X.erase k)) := List.Perm.append_left _ (List.perm_cons_erase hk2)
    exact h1.trans List.perm_middle
theorem flat_perm {E : Nat → List Ent} {l l' : List Nat} (h : l.Perm l') : (l.flatMap E).Perm (l'.flatMap E) := by
  induction h with
  | nil => exact .refl _
  | cons a _ ih => simp only [List.flatMap_cons]; exact List.Perm.append_left _ ih
  | swap a b l =>
    simp only [List.flatMap_cons]
    rw [← List.append_assoc, ← List.append_assoc]
    exact List.Perm.append_right _ List.perm_append_comm
  | trans _ _ h1 h2 => exact h1.trans h2

/-- n operations; post: what is known of one that has been done; R: those that must have been done ahead of it; W: those that write to what it has made. -/
structure GrS (n : Nat) (post : Nat → (Nat → Bool) → (Nat → Value) → List Ent → Prop) (R : Nat → List Nat) (w0 : World) (L : List Ent) (D : Nat → Bool) (g : Nat → Value) (w : World) : Prop where
  anc : ∀ i, D i = true → ∀ j ∈ R i, D j = true
  top : ∀ i, D i = true → i < n
  mem : ∃ E : Nat → List Ent, (∀ i, D i = true → post i D g (E i)) ∧ (∀ i, D i = false → E i = []) ∧ Mm no w0 w ((List.range n).flatMap E ++ L)
/-- What is known of an operation stays when another one is done, if it neither reads it nor is written by it. -/
def Stable (post : Nat → (Nat → Bool) → (Nat → Value) → List Ent → Prop) (R W : Nat → List Nat) : Prop := ∀ i k D g u E, k ≠ i → k ∉ R i → k ∉ W i → post i D g E → post i (updD D k) (updG g k u) E

section
variable {n : Nat} {post : Nat → (Nat → Bool) → (Nat → Value) → List Ent → Prop} {R W : Nat → List Nat} {w0 w w' : World} {L : List Ent} {D : Nat → Bool} {g : Nat → Value}
theorem GrS.start (M : Mm no w0 w L) (g : Nat → Value) : GrS n post R w0 L (fun _ => false) g w.drew :=
  ⟨(fun _ h => by cases h), (fun _ h => by cases h), fun _ => [], (fun _ h => by cases h), (fun _ _ => rfl), by
    have : (List.range n).flatMap (fun _ => ([] : List Ent)) = [] := by induction (List.range n) <;> simp_all
    rw [this]; exact M.drew⟩
theorem GrS.base (S : GrS n post R w0 L D g w) : Mm no w0 w L := by
  obtain ⟨E, _, _, M⟩ := S.mem
  exact Mm.suffix M
/-- What is known of some of those that have been done. -/
theorem GrS.get (S : GrS n post R w0 L D g w) (K : List Nat) (hK : K.Nodup) (h : ∀ k ∈ K, D k = true) : ∃ E : Nat → List Ent, (∀ k ∈ K, post k D g (E k)) ∧ Mm no w0 w (K.flatMap E ++ L) := by
  obtain ⟨E, h1, _, M⟩ := S.mem
  refine ⟨E, fun k hk => h1 k (h k hk), ?_⟩
  obtain ⟨X, hX⟩ := pull_list hK fun k hk => List.mem_range.2 (S.top k (h k hk))
  have hp := flat_perm (E := E) hX
  rw [List.flatMap_append] at hp
  have h2 : ((List.range n).flatMap E ++ L).Perm (X.flatMap E ++ (K.flatMap E ++ L)) := by
    refine (List.Perm.append_right L hp).trans ?_
    rw [← List.append_assoc]
    exact List.Perm.append_right L List.perm_append_comm
  exact Mm.suffix (M.perm h2)
theorem updD_anc (S : GrS n post R w0 L D g w) {i : Nat} (hR : ∀ j ∈ R i, D j = true) : ∀ k, updD D i k = true → ∀ j ∈ R k, updD D i j = true := fun k hk j hj => by
  by_cases e : j = i
  · subst e; exact updD_at ..
  · rw [updD_ne e]
    by_cases e2 : k = i
    · subst e2; exact hR j hj
    · rw [updD_ne e2] at hk; exact S.anc k hk j hj
theorem updD_top (S : GrS n post R w0 L D g w) {i : Nat} (hi : i < n) : ∀ k, updD D i k = true → k < n := fun k hk => by
  by_cases e : k = i
  · subst e; exact hi
  · rw [updD_ne e] at hk; exact S.top k hk
/-- An operation that makes new memory. -/
theorem GrS.add (S : GrS n post R w0 L D g w) (hst : Stable post R W) {i : Nat} {u : Value} {Ei : List Ent} (hi : i < n) (h0 : D i = false) (hR : ∀ j ∈ R i, D j = true) (hW : ∀ j, D j = true → i ∉ W j) (M' : Mm no w w' Ei) (hn : ∀ x ∈ Ei, ∀ b, x.place b → w.heap.size ≤ b) (hp : post i (updD D i) (updG g i u) Ei) :
    GrS n post R w0 L (updD D i) (updG g i u) w' := by
  obtain ⟨E, h1, h2, M⟩ := S.mem
  refine ⟨updD_anc S hR, updD_top S hi, updE E i Ei, fun k hk => ?_, fun k hk => ?_, ?_⟩
  · by_cases e : k = i
    · subst e; rw [updE_at]; exact hp
    · rw [updE_ne e]
      rw [updD_ne e] at hk
      exact hst k i D g u (E k) (fun h => e h.symm) (fun h => by have := S.anc k hk i h; rw [h0] at this; cases this) (hW k hk) (h1 k hk)
  · by_cases e : k = i
    · subst e; rw [updD_at] at hk; cases hk
    · rw [updE_ne e]; rw [updD_ne e] at hk; exact h2 k hk
  · refine (M.join M' hn).perm ?_
    rw [← List.append_assoc]
    exact (List.Perm.append_right L (flat_upd List.nodup_range (List.mem_range.2 hi) (h2 i h0))).symm
/-- An operation that makes nothing that is known. -/
theorem GrS.val (S : GrS n post R w0 L D g w) (hst : Stable post R W) {i : Nat} {u : Value} (hi : i < n) (h0 : D i = false) (hR : ∀ j ∈ R i, D j = true) (hW : ∀ j, D j = true → i ∉ W j) (hb : Below w.heap.size w w') (hp : post i (updD D i) (updG g i u) []) : GrS n post R w0 L (updD D i) (updG g i u) w' :=
  S.add hst hi h0 hR hW (Mm.after (Mm.start no w) (Kept.of_below hb no) fun _ _ h => h) (fun _ h => by cases h) hp
/-- All has been done. -/
theorem GrS.done (S : GrS n post R w0 L D g w) (h : ∀ i, i < n → D i = true) : ∃ E : Nat → List Ent, (∀ k, k < n → post k D g (E k)) ∧ Mm no w0 w ((List.range n).flatMap E ++ L) := by
  obtain ⟨E, h1, _, M⟩ := S.mem
  exact ⟨E, fun k hk => h1 k (h k hk), M⟩
/-- An operation i that writes to what t has made. -/
theorem GrS.write (S : GrS n post R w0 L D g w) (hst : Stable post R W) {i t : Nat} (hi : i < n) (h0 : D i = false) (hR : ∀ j ∈ R i, D j = true) (hW : ∀ j, D j = true → j ≠ t → i ∉ W j) (ht : D t = true) :
    ∃ (E X : List Ent), post t D g E ∧ Mm no w0 w (E ++ X) ∧ ∀ u w' Et, Mm no w0 w' (Et ++ X) → post t (updD D i) (updG g i u) Et → post i (updD D i) (updG g i u) [] → GrS n post R w0 L (updD D i) (updG g i u) w' := by
  obtain ⟨E, h1, h2, M⟩ := S.mem
  have htn := S.top t ht
  have hti : t ≠ i := fun e => by rw [e, h0] at ht; cases ht
  obtain ⟨X, hX⟩ := pull_list (K := [t]) (l := List.range n) (by simp) fun k hk => by simp at hk; subst hk; exact List.mem_range.2 htn
  have hnd : (t :: X).Nodup := (hX.nodup_iff).1 List.nodup_range
  have hXt : t ∉ X := (List.nodup_cons.1 hnd).1
  refine ⟨E t, X.flatMap E ++ L, h1 t ht, ?_, fun u w' Et M' hp1 hp2 => ?_⟩
  · have hp := flat_perm (E := E) hX
    have h3 : ((List.range n).flatMap E ++ L).Perm (E t ++ (X.flatMap E ++ L)) := by
      rw [← List.append_assoc]
      exact List.Perm.append_right L (by simpa [List.flatMap_cons] using hp)
    exact M.perm h3
  · refine ⟨updD_anc S hR, updD_top S hi, updE E t Et, fun k hk => ?_, fun k hk => ?_, ?_⟩
    · by_cases e : k = t
      · subst e; rw [updE_at]; exact hp1
      · rw [updE_ne e]
        by_cases e2 : k = i
        · subst e2; rw [h2 k h0]; exact hp2
        · rw [updD_ne e2] at hk
          exact hst k i D g u (E k) (fun h => e2 h.symm) (fun h => by have := S.anc k hk i h; rw [h0] at this; cases this) (hW k hk e) (h1 k hk)
    · by_cases e : k = t
      · subst e; rw [updD_ne hti, ht] at hk; cases hk
      · rw [updE_ne e]
        by_cases e2 : k = i
        · subst e2; exact h2 k h0
        · rw [updD_ne e2] at hk; exact h2 k hk
    · have hp := flat_perm (E := updE E t Et) hX
      have e : (X.flatMap (updE E t Et)) = X.flatMap E := by
        clear hp hX hnd M M'
        induction X with
        | nil => rfl
        | cons b X ih =>
          simp only [List.flatMap_cons]
          rw [updE_ne (fun e => hXt (by rw [e]; exact List.mem_cons_self ..)), ih fun h => hXt (List.mem_cons_of_mem _ h)]
      have hp2 : ((List.range n).flatMap (updE E t Et)).Perm (Et ++ X.flatMap E) := by
        refine hp.trans ?_
        rw [show [t] ++ X = t :: X from rfl, List.flatMap_cons, updE_at, e]
      refine M'.perm ?_
      rw [← List.append_assoc]
      exact (List.Perm.append_right L hp2).symm
end
end Go.Proofs.Ythdldlpflieeoaa

/- A drawn region in which some operations write to what was there, or to what others have made. -/
namespace Go.Proofs.Ythdldlpflieeoaa
set_option linter.unusedSimpArgs false
set_option linter.unusedVariables false
open Go Go.RowKit

/-- The place p stands for what was there: it counts as done. -/
def psD (p : Nat) (D : Nat → Bool) : Nat → Bool := fun j => (j == p) || D j
theorem psD_of {p : Nat} {D : Nat → Bool} {j : Nat} (h : D j = true) : psD p D j = true := by simp [psD, h]
theorem psD_at (p : Nat) (D : Nat → Bool) : psD p D p = true := by simp [psD]
theorem psD_ne {p : Nat} {D : Nat → Bool} {j : Nat} (h : j ≠ p) : psD p D j = D j := by simp [psD, h]
theorem psD_upd {p : Nat} {D : Nat → Bool} {i : Nat} : psD p (updD D i) = updD (psD p D) i := by
  funext j
  unfold psD updD
  by_cases h : j = i
  · simp [h]
  · simp [h]
section
variable {n : Nat} {post : Nat → (Nat → Bool) → (Nat → Value) → List Ent → Prop} {R W : Nat → List Nat} {w0 w w' : World} {L : List Ent} {D : Nat → Bool} {g : Nat → Value}
theorem GrS.start2 {p : Nat} {E0 : List Ent} (hp : p < n) (hR : R p = []) (M : Mm no w0 w (E0 ++ L)) (g : Nat → Value) (h : post p (psD p fun _ => false) g E0) : GrS n post R w0 L (psD p fun _ => false) g w.drew := by
  have hd : ∀ i, psD p (fun _ => false) i = true → i = p := fun i h => by simpa [psD] using h
  refine ⟨fun i hi j hj => ?_, fun i hi => by rw [hd i hi]; exact hp, updE (fun _ => []) p E0, fun i hi => ?_, fun i hi => ?_, ?_⟩
  · rw [hd i hi, hR] at hj; cases hj
  · obtain rfl := hd i hi
    rw [updE_at]; exact h
  · by_cases e : i = p
    · subst e; rw [psD_at] at hi; cases hi
    · rw [updE_ne e]
  · have h0 : (List.range n).flatMap (fun _ => ([] : List Ent)) = [] := by induction (List.range n) <;> simp_all
    have hp2 := flat_upd (E := fun _ => []) (Ei := E0) (List.nodup_range (n := n)) (List.mem_range.2 hp) rfl
    rw [h0, List.append_nil] at hp2
    exact (M.perm (List.Perm.append_right L hp2.symm)).drew
/-- An operation i that writes to what t has made and reads what those of K have made. -/
theorem GrS.writeK (S : GrS n post R w0 L D g w) (hst : Stable post R W) {i t : Nat} (hi : i < n) (h0 : D i = false) (hR : ∀ j ∈ R i, D j = true) (hW : ∀ j, D j = true → j ≠ t → i ∉ W j) (ht : D t = true) (K : List Nat) (hK : (t :: K).Nodup) (hKD : ∀ k ∈ K, D k = true) :
    ∃ (E : Nat → List Ent) (X : List Ent), (∀ k ∈ t :: K, post k D g (E k)) ∧ Mm no w0 w (E t ++ (K.flatMap E ++ (L ++ X))) ∧
      ∀ u w' Et, Mm no w0 w' (Et ++ (K.flatMap E ++ (L ++ X))) → post t (updD D i) (updG g i u) Et → post i (updD D i) (updG g i u) [] → GrS n post R w0 L (updD D i) (updG g i u) w' := by
  obtain ⟨E, h1, h2, M⟩ := S.mem
  have htn := S.top t ht
  have hti : t ≠ i := fun e => by rw [e, h0] at ht; cases ht
  have hall : ∀ k ∈ t :: K, D k = true := fun k hk => by
    rcases List.mem_cons.1 hk with rfl | hk
    · exact ht
    · exact hKD k hk
  obtain ⟨Y, hY⟩ := pull_list (K := t :: K) (l := List.range n) hK fun k hk => List.mem_range.2 (S.top k (hall k hk))
  have hnd : ((t :: K) ++ Y).Nodup := (hY.nodup_iff).1 List.nodup_range
  have hrest : ∀ E' : Nat → List Ent, ((List.range n).flatMap E').Perm (E' t ++ (K.flatMap E' ++ Y.flatMap E')) := fun E' => by
    have := flat_perm (E := E') hY
    rw [List.flatMap_append, List.flatMap_cons, List.append_assoc] at this
    exact this
  have hswap : ∀ A B : List Ent, (A ++ (K.flatMap E ++ B) ++ L).Perm (A ++ (K.flatMap E ++ (L ++ B))) := fun A B => by
    rw [List.append_assoc, List.append_assoc]
    exact List.Perm.append_left _ (List.Perm.append_left _ List.perm_append_comm)
  refine ⟨E, Y.flatMap E, fun k hk => h1 k (hall k hk), M.perm ((List.Perm.append_right L (hrest E)).trans (hswap _ _)), fun u w' Et M' hp1 hp2 => ?_⟩
  have htK : t ∉ K ++ Y := (List.nodup_cons.1 hnd).1
  have same : ∀ l : List Nat, t ∉ l → l.flatMap (updE E t Et) = l.flatMap E := fun l hl => by
    induction l with
    | nil => rfl
    | cons b l ih =>
      simp only [List.flatMap_cons]
      rw [updE_ne (fun e => hl (by rw [e]; exact List.mem_cons_self ..)), ih fun h => hl (List.mem_cons_of_mem _ h)]
  refine ⟨updD_anc S hR, updD_top S hi, updE E t Et, fun k hk => ?_, fun k hk => ?_, ?_⟩
  · by_cases e : k = t
    · subst e; rw [updE_at]; exact hp1
    · rw [updE_ne e]
      by_cases e2 : k = i
      · subst e2; rw [h2 k h0]; exact hp2
      · rw [updD_ne e2] at hk
        exact hst k i D g u (E k) (fun h => e2 h.symm) (fun h => by have := S.anc k hk i h; rw [h0] at this; cases this) (hW k hk e) (h1 k hk)
  · by_cases e : k = t
    · subst e; rw [updD_ne hti, ht] at hk; cases hk
    · rw [updE_ne e]
      by_cases e2 : k = i
      · subst e2; exact h2 k h0
      · rw [updD_ne e2] at hk; exact h2 k hk
  · have h3 := hrest (updE E t Et)
    rw [updE_at, same K fun h => htK (List.mem_append_left _ h), same Y fun h => htK (List.mem_append_right _ h)] at h3
    exact M'.perm ((List.Perm.append_right L h3).trans (hswap _ _)).symm
end
end Go.Proofs.Ythdldlpflieeoaa

/- What the functions of tables and squares give back: contracts. -/
namespace Go.Proofs.Ythdldlpflieeoaa
set_option linter.unusedSimpArgs false
set_option linter.unusedVariables false
open Go.RowKit

theorem zero_bys (w : World) : (zeroValue 24).run Try.prog w = .ok (.agg (bys fun _ => 0)) w := by kernel_rfl
theorem zero_plc (w : World) : (zeroValue 25).run Try.prog w = .ok (.agg (bys fun _ => 0)) w := by kernel_rfl
theorem zero_tbl (w : World) : (zeroValue 35).run Try.prog w = .ok (.agg (tbs fun _ _ => 0)) w := by kernel_rfl
theorem zero_sqs (w : World) : (zeroValue 37).run Try.prog w = .ok (.agg (sqs 0 fun _ _ => 0)) w := by kernel_rfl
theorem und_bys : Try.prog.underlying 24 = some (.array 10 5) := by kernel_rfl
theorem inf_bys : (Try.prog.info? 24).map (·.size) = some 10 := by kernel_rfl
theorem und_plc : Try.prog.underlying 25 = some (.array 10 5) := by kernel_rfl
theorem inf_plc : (Try.prog.info? 25).map (·.size) = some 10 := by kernel_rfl
theorem und_tbl : Try.prog.underlying 35 = some (.array 10 24) := by kernel_rfl
theorem inf_tbl : (Try.prog.info? 35).map (·.size) = some 100 := by kernel_rfl
theorem und_tb0 : Try.prog.underlying 34 = some (.array 10 24) := by kernel_rfl
theorem inf_tb0 : (Try.prog.info? 34).map (·.size) = some 100 := by kernel_rfl
theorem und_sqs : Try.prog.underlying 37 = some (.struct (Try.prog.fieldsOf 37)) := by kernel_rfl
theorem inf_sqs : (Try.prog.info? 37).map (·.size) = some 101 := by kernel_rfl



end Go.Proofs.Ythdldlpflieeoaa

/- Texts: their bytes; texts put together. -/
namespace Go.Proofs.Ythdldlpflieeoaa
set_option linter.unusedSimpArgs false
set_option linter.unusedVariables false
open Go Go.RowKit

/-- The text of some bytes. -/
def str (l : List Nat) : ByteArray := ⟨(l.map UInt8.ofNat).toArray⟩
theorem str_size (l : List Nat) : (str l).size = l.length := by simp [str, ByteArray.size]
theorem str_nil : str [] = ⟨#[]⟩ := rfl
theorem str_app (a b : List Nat) : str a ++ str b = str (a ++ b) := by
  unfold str
  rw [ByteArray.mk_append_mk, List.map_append]
def Byts (l : List Nat) : Prop := ∀ x ∈ l, x < 256
theorem str_get {l : List Nat} (hb : Byts l) {k : Nat} (hk : k < (str l).size) : ((str l)[k]'hk).toNat = l.getD k 0 := by
  have hk' : k < l.length := by rw [str_size] at hk; exact hk
  have : (str l)[k]'hk = UInt8.ofNat l[k] := by
    show (str l).data[k] = _
    simp [str]
  rw [this, List.getD_eq_getElem?_getD, List.getElem?_eq_getElem hk']
  have := hb _ (List.getElem_mem hk')
  simp
  omega
theorem str_toList (l : List Nat) : (str l).toList = l.map UInt8.ofNat := by unfold str; rw [ByteArray.toList_mk]
theorem str_eq {a b : List Nat} (ha : Byts a) (hb : Byts b) : ((str a).toList == (str b).toList) = decide (a = b) := by
  rw [str_toList, str_toList]
  by_cases h : a = b
  · subst h; simp
  · simp only [h, decide_false]
    refine beq_eq_false_iff_ne.2 fun e => h ?_
    have e2 := congrArg (List.map UInt8.toNat) e
    rw [List.map_map, List.map_map] at e2
    have key : ∀ l : List Nat, Byts l → l.map (UInt8.toNat ∘ UInt8.ofNat) = l := fun l hl => by
      conv => rhs; rw [← List.map_id l]
      refine List.map_congr_left fun x hx => ?_
      have := hl x hx
      simp
      omega
    rwa [key a ha, key b hb] at e2
/-- Each text is the text of its bytes. -/
theorem str_of (s : ByteArray) : ∃ l, Byts l ∧ s = str l ∧ l.length = s.size := by
  refine ⟨s.data.toList.map UInt8.toNat, fun x hx => ?_, ?_, by rw [List.length_map, Array.length_toList]; rfl⟩
  · obtain ⟨y, _, rfl⟩ := List.mem_map.1 hx
    exact y.toNat_lt
  · unfold str
    rw [List.map_map]
    have : (UInt8.ofNat ∘ UInt8.toNat) = id := by funext x; simp
    rw [this, List.map_id]
theorem und_str : Try.prog.underlying 9 = some .string := by kernel_rfl
theorem ix_str {l : List Nat} (hb : Byts l) (k : Nat) (hk : k < l.length) (w : World) : (Instr.index 9 (.string (str l)) (.int .i64 (k : Int))).run Try.prog w = .ok (.int .u8 (l.getD k 0 : Nat)) w := by
  have h1 : k < (str l).size := by rw [str_size]; exact hk
  rw [run_index_string (h := und_str), dif_pos ⟨by omega, by omega⟩]
  congr 2
  rw [← str_get hb h1]
  rfl

theorem add_str (a b : List Nat) (h : a.length + b.length ≤ 100000) (w : World) : (Op.stringOp .add (str a) (str b)).run Try.prog w = .ok (.string (str (a ++ b))) w := by
  rw [run_string_add_sum w (str a) (str b) (by rw [str_size, str_size]; omega), str_app]
theorem und_slT : Try.prog.underlying 22 = some (.slice 5) := by kernel_rfl
/-- The bytes of a term as text. -/
theorem conv_str {w : World} {b : Nat} {g : Nat} {cap : Nat} (hb : b < 256) (h : w.cell? ⟨g, 0, none⟩ = some (.int .u8 (b : Int))) : (convert 22 9 (.slice (some ⟨g, 0, none⟩) 1 cap)).run Try.prog w = .ok (.string (str [b])) w :=
  run_convert_bytes_back w 22 9 5 ⟨g, 0, none⟩ cap [UInt8.ofNat b] und_slT (by kernel_rfl) und_str fun j hj => by
    have : j = 0 := by simp at hj; exact hj
    subst this
    rw [add_none, h]
    simp
    omega

/-! ### A number as a text -/
/-- The digits of a number, none for 0. -/
def digs (k : Nat) : List Nat := if k = 0 then [] else digs (k / 10) ++ [48 + k % 10]
decreasing_by omega
theorem digs_0 : digs 0 = [] := by rw [digs]; rfl
theorem digs_pos {k : Nat} (h : 0 < k) : digs k = digs (k / 10) ++ [48 + k % 10] := by rw [digs, if_neg (by omega)]
theorem digs_len : ∀ (n k : Nat), k < 10 ^ n → (digs k).length ≤ n
  | 0, k, h => by
    obtain rfl : k = 0 := by simpa using h
    rw [digs_0]; exact Nat.le_refl _
  | n + 1, k, h => by
    by_cases h0 : k = 0
    · subst h0; rw [digs_0]; exact Nat.zero_le _
    · rw [digs_pos (by omega)]
      have := digs_len n (k / 10) (by rw [Nat.pow_succ] at h; omega)
      simp only [List.length_append, List.length_singleton]
      omega
/-- The mark of a number. -/
def mkT (k : Nat) : List Nat := if k = 0 then [109, 48] else 109 :: digs k
end Go.Proofs.Ythdldlpflieeoaa

/- The source of a draw: what is known of it, and what l01Next and l01Pick hand out. -/
namespace Go.Proofs.Ythdldlpflieeoaa
set_option linter.unusedSimpArgs false
set_option linter.unusedVariables false
open Go Go.RowKit

def srcV (p : Option Addr) (n c a : Nat) (h : Int) : Array Value := #[.slice p n c, .int .i64 (a : Int), .int .u64 h]
theorem srcV_size (p : Option Addr) (n c a : Nat) (h : Int) : (srcV p n c a h).size = 3 := rfl
def SvR (b : Nat) (p : Option Addr) (n c : Nat) : World → Prop := fun w => ∃ (a : Nat) (h : Int), a ≤ n ∧ (0 ≤ h ∧ h < 18446744073709551616) ∧ blk w b (srcV p n c a h) 192
/-- A source that lies in block b. -/
abbrev Ent.sv (b : Nat) (p : Option Addr) (n c : Nat) : Ent := .res (fun k => k = b) (SvR b p n c)
/-- A slice that comes in, told in the open. -/
abbrev Ent.cd (n : Nat) (p : Option Addr) (f : Nat → Value) : Ent := .res (fun k => 0 < n ∧ pBlk p k) (fun w => rdp w p n f)
theorem SvR.ent {b n c : Nat} {p : Option Addr} {w : World} (h : SvR b p n c w) : (Ent.sv b p n c).holds w := by
  obtain ⟨a, h, h1, h2, h3⟩ := h
  exact ⟨fun k hk => by rw [hk]; exact h3.lt, fun E w' hk hd => ⟨a, h, h1, h2, Ent.holds_of (x := .box b (srcV p n c a h) 192) h3 hk fun k hb => by cases hb; exact hd b rfl⟩⟩
/-- The bytes of a code. -/
def cdF (l : List Nat) (j : Nat) : Value := .int .u8 ((l.getD j 0 : Nat) : Int)
section
variable {D : Nat → Prop} {w0 w w' : World} {L L' : List Ent} {b n c : Nat} {p : Option Addr}
theorem Mm.openSv (M : Mm D w0 w (Ent.sv b p n c :: L)) : ∃ (a : Nat) (h : Int), a ≤ n ∧ (0 ≤ h ∧ h < 18446744073709551616) ∧ Mm D w0 w (.box b (srcV p n c a h) 192 :: L) := by
  obtain ⟨a, h, h1, h2, h3⟩ : SvR b p n c w := Ent.res_now (M.ents 0 _ rfl)
  exact ⟨a, h, h1, h2, M.set 0 (y := .box b (srcV p n c a h) 192) rfl (.refl no w) (fun _ h => h.elim) (fun _ _ h => h.elim) h3 fun k h => .inl h.symm⟩
theorem Mm.shutSv {a : Nat} {h : Int} (M : Mm D w0 w (.box b (srcV p n c a h) 192 :: L)) (h1 : a ≤ n) (h2 : 0 ≤ h ∧ h < 18446744073709551616) : Mm D w0 w (Ent.sv b p n c :: L) :=
  M.set 0 (y := Ent.sv b p n c) rfl (.refl no w) (fun _ h => h.elim) (fun _ _ h => h.elim) (SvR.ent ⟨a, h, h1, h2, M.box 0 rfl⟩) fun k h => .inl h.symm
/-- A draw goes on. -/
theorem Mm.drawn (M : Mm D w0 w L) (i : Nat) (hi : L[i]? = some (Ent.sv b p n c)) (hb : w0.heap.size ≤ b ∨ D b) (M' : Mm (fun k => k = b) w w' (Ent.sv b p n c :: L')) : Mm D w0 w' L := by
  have h := M.visit i (E := fun k => k = b) (R := SvR b p n c) (E' := fun k => k = b) (R' := SvR b p n c) hi (M'.ents 0 _ rfl) (fun k h => .inl h) M'.kept fun k hk e => by
    subst e
    rcases hb with h | h
    · omega
    · exact h
  have e : L.set i (.res (fun k => k = b) (SvR b p n c)) = L := by
    apply List.ext_getElem?
    intro j
    rw [List.getElem?_set]
    split
    · rename_i e; subst e
      split
      · exact hi.symm
      · rename_i hlt; rw [List.getElem?_eq_none (by omega)]
    · rfl
  rwa [e] at h
end

theorem and24 (a : Int) : 0 ≤ bits .and .u64 a 16777215 ∧ bits .and .u64 a 16777215 ≤ 16777215 := by
  unfold bits
  simp only [IntKind.wrap_u64]
  have h1 : ((BitVec.ofInt IntKind.u64.bits a &&& BitVec.ofInt IntKind.u64.bits 16777215).toNat) ≤ 16777215 := by
    rw [BitVec.toNat_and]
    exact Nat.le_trans Nat.and_le_right (by decide)
  omega
theorem wrap_rng (a : Int) : 0 ≤ IntKind.u64.wrap a ∧ IntKind.u64.wrap a < 18446744073709551616 := by
  rw [IntKind.wrap_u64]; omega
set_option maxRecDepth 100000 in
set_option maxHeartbeats 1000000 in
theorem l01Next_any (l : List Nat) (hb : Byts l) (hl : l.length ≤ 4096) (b c : Nat) (p : Option Addr) (n : Int) (w : World) (M0 : Mm no w w [Ent.sv b p l.length c, Ent.cd l.length p (cdF l)]) :
    Calls Try.prog 132 #[.pointer (some ⟨b, 0, none⟩), .int .i64 n] w fun e w' => ∃ x : Nat, e = .returned (.int .i64 (x : Int)) ∧ ((x : Int) < n ∨ (n < 1 ∧ x = 0)) ∧ Mm (fun k => k = b) w w' [Ent.sv b p l.length c, Ent.cd l.length p (cdF l)] := by
  have M := M0.only (fun k => k = b)
  clear M0
  by_cases hn : n < 1
  · go_enter Try.func132, Try.ntmps132
    go_wp2
    go_ret
    exact ⟨0, rfl, .inr ⟨hn, rfl⟩, M⟩
  obtain ⟨a, h, ha, hh, M9⟩ := M.openSv
  clear M
  have M := M9
  clear M9
  have j0 : (srcV p l.length c a h)[0]? = some (.slice p l.length c) := rfl
  have j1 : (srcV p l.length c a h)[1]? = some (.int .i64 (a : Int)) := rfl
  have j2 : (srcV p l.length c a h)[2]? = some (.int .u64 h) := rfl
  have C := M.ruleAll; simp only [Go.Proofs.Ythdldlpflieeoaa.ruleAll] at C
  go_enter Try.func132, Try.ntmps132
  obtain ⟨V, hV⟩ : ∃ V, IntKind.u64.wrap (IntKind.u64.wrap (h * 6364136223846793005) + 1442695040888963407) = V := ⟨_, rfl⟩
  have hVr := wrap_rng (IntKind.u64.wrap (h * 6364136223846793005) + 1442695040888963407)
  rw [hV] at hVr
  have HV := Hid2.mk hV
  clear hV
  have k0 : (srcV p l.length c a V)[0]? = some (.slice p l.length c) := rfl
  have k1 : (srcV p l.length c a V)[1]? = some (.int .i64 (a : Int)) := rfl
  have k2 : (srcV p l.length c a V)[2]? = some (.int .u64 V) := rfl
  go_wp2_with (first | ((with_reducible apply wpM_st' M 0 190 (2) (srcV p l.length c a V)); rfl; rfl; rfl; (first | exact .inl (by assumption) | exact .inr rfl | exact .inr (by assumption)); exact ⟨rfl, rfl, by kernel_rfl⟩; (exact Nat.lt_of_lt_of_eq (by omega) (srcV_size ..).symm); exact (by rw [HV.out]; rfl); clear M; (try clear C); intro w9 M; simp only [List.set_cons_zero, List.set_cons_succ, entBlk, entT, List.getElem?_cons_zero, List.getElem?_cons_succ] at M; have C := M.ruleAll; simp only [Go.Proofs.Ythdldlpflieeoaa.ruleAll] at C))
  obtain ⟨x0, hx0, hx1⟩ : ∃ x0 : Nat, wrap64 (bits .and .u64 (V / 8589934592) 16777215) = (x0 : Int) ∧ x0 ≤ 16777215 := by
    have h1 := and24 (V / 8589934592)
    refine ⟨(bits .and .u64 (V / 8589934592) 16777215).toNat, ?_, by omega⟩
    unfold wrap64; omega
  simp only [hx0]
  clear hx0 HV
  apply wp_region_mm M 9 (by kernel_rfl) (by kernel_rfl); (simp only [List.take_succ_cons, List.take_zero]; repeat (first | exact wpText_nil | (apply wpText_cons; (intro w2 M; have C := M.ruleAll; simp only [Go.Proofs.Ythdldlpflieeoaa.ruleAll] at C; go_wp2; exact ⟨rfl, rfl, M⟩); rfl))); (clear M; (try clear C); intro w2 M; simp only [List.drop_succ_cons, List.drop_zero]; have C := M.ruleAll; simp only [Go.Proofs.Ythdldlpflieeoaa.ruleAll] at C)
  by_cases hlt : a < l.length
  · have hlt' : (a : Int) < (l.length : Int) := by omega
    have dlt : decide ((a : Int) < (l.length : Int)) = true := decide_eq_true hlt'
    have hba : l.getD a 0 < 256 := by
      rw [List.getD_eq_getElem?_getD, List.getElem?_eq_getElem hlt]; exact hb _ (List.getElem_mem hlt)
    obtain ⟨bc, off, rfl, hbc, -⟩ := rdp_in M 1 rfl (by omega)
    have HCL := Hid2.mk (fun (w2 : World) (M2 : Mm (fun k => k = b) w w2 [.box b (srcV (some ⟨bc, off, none⟩) l.length c a V) 192, Ent.cd l.length (some ⟨bc, off, none⟩) (cdF l)]) => (show w2.cell? ⟨bc, off + a, none⟩ = some (.int .u8 ((l.getD a 0 : Nat) : Int)) by
      obtain ⟨b', o', e, _, hc⟩ := rdp_in M2 1 rfl (by omega)
      cases e
      exact hc a hlt))
    generalize l.getD a 0 = y at *
    go_wp2
    (apply wp_region_mm M 12 (by kernel_rfl) (by kernel_rfl); (simp only [List.take_succ_cons, List.take_zero]; repeat (first | exact wpText_nil | (apply wpText_cons; (intro w2 M; have C := M.ruleAll; simp only [Go.Proofs.Ythdldlpflieeoaa.ruleAll] at C; have hcl := HCL.out w2 M; go_wp2; exact ⟨rfl, rfl, M⟩); rfl))); (clear M; (try clear C); intro w2 M; simp only [List.drop_succ_cons, List.drop_zero]; have C := M.ruleAll; simp only [Go.Proofs.Ythdldlpflieeoaa.ruleAll] at C))
    go_wp2_with (first | ((with_reducible apply wpM_st' M 0 3 (1) (srcV (some ⟨bc, off, none⟩) l.length c (a + 1) V)); rfl; rfl; rfl; (first | exact .inl (by assumption) | exact .inr rfl | exact .inr (by assumption)); exact ⟨rfl, rfl, by kernel_rfl⟩; (exact Nat.lt_of_lt_of_eq (by omega) (srcV_size ..).symm); exact rfl; clear M; (try clear C); intro w9 M; simp only [List.set_cons_zero, List.set_cons_succ, entBlk, entT, List.getElem?_cons_zero, List.getElem?_cons_succ] at M; have C := M.ruleAll; simp only [Go.Proofs.Ythdldlpflieeoaa.ruleAll] at C))
    go_ret
    have h1 := Int.emod_lt_of_pos ((x0 : Int) + (y : Int)) (show (0 : Int) < n by omega)
    have h2 := Int.emod_nonneg ((x0 : Int) + (y : Int)) (show n ≠ 0 by omega)
    exact ⟨(((x0 : Int) + (y : Int)) % n).toNat, (by rw [Int.toNat_of_nonneg h2]; rfl), .inl (by rw [Int.toNat_of_nonneg h2]; exact h1), M.shutSv (by omega) hVr⟩
  · have hlt' : ¬ (a : Int) < (l.length : Int) := by omega
    have dlt : decide ((a : Int) < (l.length : Int)) = false := decide_eq_false hlt'
    go_wp2
    go_ret
    have h1 := Int.emod_lt_of_pos (x0 : Int) (show (0 : Int) < n by omega)
    have h2 := Int.emod_nonneg (x0 : Int) (show n ≠ 0 by omega)
    exact ⟨((x0 : Int) % n).toNat, (by rw [Int.toNat_of_nonneg h2]; rfl), .inl (by rw [Int.toNat_of_nonneg h2]; exact h1), M.shutSv ha hVr⟩
/-- A draw: for any old world w0, and whatever else is known. -/
def DrawC (f : Nat) (args : Array Value) (l : List Nat) (b : Nat) (p : Option Addr) (c : Nat) (Q : Value → Prop) : Prop :=
  ∀ (w0 w : World) (X : List Ent), w0.heap.size ≤ b → Mm no w0 w (Ent.sv b p l.length c :: Ent.cd l.length p (cdF l) :: X) → Calls Try.prog f args w fun e w' => ∃ v, e = .returned v ∧ Q v ∧ Mm no w0 w' (Ent.sv b p l.length c :: Ent.cd l.length p (cdF l) :: X)
theorem perm_eraseX {α : Type} : ∀ {L : List α} {i : Nat} {x : α}, L[i]? = some x → L.Perm (x :: L.eraseIdx i)
  | [], _, _, h => by simp at h
  | a :: L, 0, x, h => by simp at h; subst h; exact List.Perm.refl _
  | a :: L, i + 1, x, h => by
    have ih := perm_eraseX (L := L) (i := i) (x := x) (by simpa using h)
    exact (List.Perm.cons a ih).trans (List.Perm.swap x a _)
theorem Mm.pull2 {D : Nat → Prop} {w0 w : World} {L : List Ent} (M : Mm D w0 w L) (i j : Nat) {x y : Ent} (hij : (i == j) = false) (hi : L[i]? = some x) (hj : L[j]? = some y) : ∃ X, Mm D w0 w (x :: y :: X) ∧ ∀ w', Mm D w0 w' (x :: y :: X) → Mm D w0 w' L := by
  have hne : i ≠ j := by simpa using hij
  obtain ⟨h1, e1⟩ := List.getElem?_eq_some_iff.1 hi
  obtain ⟨h2, e2⟩ := List.getElem?_eq_some_iff.1 hj
  have key : ∃ X, L.Perm (x :: y :: X) := by
    have p1 : L.Perm (x :: L.eraseIdx i) := perm_eraseX hi
    have hy : y ∈ L.eraseIdx i := by
      rw [List.mem_eraseIdx_iff_getElem?]
      exact ⟨j, fun e => hne e.symm, hj⟩
    obtain ⟨s, t, ht⟩ := List.append_of_mem hy
    refine ⟨s ++ t, p1.trans (List.Perm.cons x ?_)⟩
    rw [ht]
    exact List.perm_middle
  obtain ⟨X, hX⟩ := key
  exact ⟨X, M.perm hX, fun w' M' => M'.perm hX.symm⟩
theorem DrawC.at {f : Nat} {args : Array Value} {l : List Nat} {b c : Nat} {p : Option Addr} {Q : Value → Prop} (h : DrawC f args l b p c Q) {w0 w : World} {L : List Ent} (M : Mm no w0 w L) (i j : Nat) (hb : w0.heap.size ≤ b) (hij : (i == j) = false) (hi : L[i]? = some (Ent.sv b p l.length c)) (hj : L[j]? = some (Ent.cd l.length p (cdF l))) :
    Calls Try.prog f args w fun e w' => ∃ v, e = .returned v ∧ Q v ∧ Mm no w0 w' L := by
  obtain ⟨X, M1, hX⟩ := M.pull2 i j hij hi hj
  refine (h w0 w X hb M1).mono ?_
  rintro e w' ⟨v, rfl, hq, M'⟩
  exact ⟨v, rfl, hq, hX w' M'⟩
/-- In a drawn region. -/
theorem GrS.draw {f : Nat} {args : Array Value} {l : List Nat} {b c : Nat} {p : Option Addr} {Q : Value → Prop} (h : DrawC f args l b p c Q) {n : Nat} {post : Nat → (Nat → Bool) → (Nat → Value) → List Ent → Prop} {R W : Nat → List Nat} {w0 w : World} {L : List Ent} {D : Nat → Bool} {g : Nat → Value}
    (S : GrS n post R w0 (Ent.sv b p l.length c :: Ent.cd l.length p (cdF l) :: L) D g w) (hst : Stable post R W) {i : Nat} (hi : i < n) (h0 : D i = false) (hR : ∀ j ∈ R i, D j = true) (hW : ∀ j, D j = true → i ∉ W j) (hb : w0.heap.size ≤ b) :
    Calls Try.prog f args w fun e w' => ∃ v, e = .returned v ∧ Q v ∧ ∀ u, post i (updD D i) (updG g i u) [] → GrS n post R w0 (Ent.sv b p l.length c :: Ent.cd l.length p (cdF l) :: L) (updD D i) (updG g i u) w' := by
  obtain ⟨E, h1, h2, M⟩ := S.mem
  have hp : ((List.range n).flatMap E ++ (Ent.sv b p l.length c :: Ent.cd l.length p (cdF l) :: L)).Perm (Ent.sv b p l.length c :: Ent.cd l.length p (cdF l) :: ((List.range n).flatMap E ++ L)) :=
    List.perm_middle.trans (List.Perm.cons _ List.perm_middle)
  refine (h w0 w _ hb (M.perm hp)).mono ?_
  rintro e w' ⟨v, rfl, hq, M'⟩
  refine ⟨v, rfl, hq, fun u hpost => ⟨updD_anc S hR, updD_top S hi, E, fun k hk => ?_, fun k hk => ?_, M'.perm hp.symm⟩⟩
  · by_cases e : k = i
    · subst e; rw [h2 k h0]; exact hpost
    · rw [updD_ne e] at hk
      exact hst k i D g u (E k) (fun h => e h.symm) (fun h => by have := S.anc k hk i h; rw [h0] at this; cases this) (hW k hk) (h1 k hk)
  · by_cases e : k = i
    · subst e; exact h2 k h0
    · rw [updD_ne e] at hk; exact h2 k hk
/-- A number below n, or 0. -/
def NxQ (n : Int) (v : Value) : Prop := ∃ x : Nat, v = .int .i64 (x : Int) ∧ ((x : Int) < n ∨ (n < 1 ∧ x = 0))
theorem next_dc (l : List Nat) (hb : Byts l) (hl : l.length ≤ 4096) (b c : Nat) (p : Option Addr) (n : Int) : DrawC 132 #[.pointer (some ⟨b, 0, none⟩), .int .i64 n] l b p c (NxQ n) := fun w0 w X hbb M => by
  refine (l01Next_any l hb hl b c p n w (M.sub [0, 1] (by decide)).anew).mono ?_
  rintro e w' ⟨x, rfl, hx, M'⟩
  exact ⟨_, rfl, ⟨x, rfl, hx⟩, M.drawn 0 rfl (.inl hbb) M'⟩
end Go.Proofs.Ythdldlpflieeoaa

