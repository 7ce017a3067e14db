/- A region that draws its order may be walked in the order of its text, where each operation gives one value in whatever world that meets a condition, and keeps the condition. -/
import Derived.Test.YtinjjaoikofkdaaK
import Derived.Still
import Derived.StillTail
namespace Go.Proofs.Ytinjjaoikofkdaa
set_option linter.unusedSimpArgs false
set_option linter.unusedVariables false
open Go

section
variable {P : Program} {ops : Array Oper} {md : Region.Mode} {S : World → Prop}

/-- What an operation gives, and in which world. -/
def yieldR (P : Program) (o : Oper) (R : Value → World → Prop) : Result Next → Prop
  | .ok (.value u) w' => R u w'
  | .ok .skip w' => R undef w'
  | .ok (.enter f args) w' => Calls P f args w' fun e w'' => ∃ u, e = .returned u ∧ R u w''
  | .ok (.row row args) w' => Rows P row args w' R
  | _ => False
def yield (P : Program) (o : Oper) (a : Act) (w : World) (R : Value → World → Prop) : Prop := yieldR P o R ((execOp a.eval o).run P w)

/-- One value in each world that meets S; S is kept. -/
def YieldsS (P : Program) (ops : Array Oper) (S : World → Prop) (o : Oper) (v : Value) (a : Act) : Prop :=
  (Region.wanted o (yielded ops a.tmps) = true ∧ ∀ w, S w → yield P o a w fun u w' => (o.dst ≠ none → u = v) ∧ S w') ∨ (Region.wanted o (yielded ops a.tmps) = false ∧ v = undef)
theorem YieldsS.of_same {o : Oper} {v : Value} {a a' : Act} (hy : YieldsS P ops S o v a) (he : execOp a'.eval o = execOp a.eval o)
    (hw : Region.wanted o (yielded ops a'.tmps) = Region.wanted o (yielded ops a.tmps)) : YieldsS P ops S o v a' := by
  unfold YieldsS yield at *
  rw [he, hw]
  exact hy

def stOpT (P : Program) (ops : Array Oper) (S : World → Prop) (i : Nat) (K : Act → Prop) (a : Act) : Prop :=
  match ops[i]? with
  | none => K a
  | some o => ∃ v, YieldsS P ops S o v a ∧ K (a.put o.dst v)
theorem stOpT_mono {i : Nat} {a : Act} {K K' : Act → Prop} (h : ∀ a, K a → K' a) (hh : stOpT P ops S i K a) : stOpT P ops S i K' a := by
  unfold stOpT at *
  split
  · exact h _ (by simpa [*] using hh)
  · rename_i o ho
    simp only [ho] at hh
    obtain ⟨v, h1, h2⟩ := hh
    exact ⟨v, h1, h _ h2⟩

def wpAnyT (P : Program) (md : Region.Mode) (ops : Array Oper) (S : World → Prop) (Q : Act → Prop) : Nat → Array Bool → Act → Prop
  | 0, listed, a => Region.ready md ops listed = [] ∧ Q a
  | fuel + 1, listed, a => (Region.ready md ops listed = [] → Q a) ∧ ∀ i ∈ Region.ready md ops listed, stOpT P ops S i (wpAnyT P md ops S Q fuel (listed.setIfInBounds i true)) a

theorem put_none (a : Act) (o : Oper) (u v : Value) (h : o.dst ≠ none → u = v) : a.put o.dst u = a.put o.dst v := by
  cases hd : o.dst with
  | none => rfl
  | some d => rw [h (by simp [hd])]

theorem wpOp_of_stOpT {i : Nat} {a : Act} {w : World} {K : Act → Prop} {K' : Act → World → Prop} {Q' : Exit → Act → World → Prop} (hS : S w) (h : ∀ a w, S w → K a → K' a w) (hh : stOpT P ops S i K a) : wpOp P ops Q' i K' a w := by
  unfold stOpT at hh
  unfold wpOp
  split
  · rename_i ho; simp only [ho] at hh; exact h _ _ hS hh
  · rename_i o ho
    simp only [ho] at hh
    obtain ⟨v, hy, hK⟩ := hh
    rcases hy with ⟨hw, hy⟩ | ⟨hw, rfl⟩
    · rw [if_pos hw]
      refine .inl ?_
      have := hy w hS
      unfold yield at this
      unfold Oper.wp
      generalize (execOp a.eval o).run P w = r at *
      cases r with
      | ok n w' =>
        cases n <;> simp only [yieldR] at this <;> simp only [Oper.upon]
        case value u => rw [put_none a o u v this.1]; exact h _ _ this.2 hK
        case skip => rw [put_none a o _ v this.1]; exact h _ _ this.2 hK
        case enter f args =>
          exact this.mono fun e w'' ⟨u, he, h1, h2⟩ => by subst he; show K' (a.put o.dst u) w''; rw [put_none a o u v h1]; exact h _ _ h2 hK
        case row row args =>
          exact Rows.mono this fun u w'' ⟨h1, h2⟩ => by rw [put_none a o u v h1]; exact h _ _ h2 hK
      | halt x w' => simp only [yieldR] at this
    · rw [if_neg (by simp [hw])]
      exact h _ _ hS hK

theorem wpAny_of_T {Q : Act → Prop} {Q' : Exit → Act → World → Prop} (hQ : ∀ a w, S w → Q a → Q' .normal a w) : ∀ (fuel : Nat) (listed : Array Bool) (a : Act) (w : World), S w →
    wpAnyT P md ops S Q fuel listed a → wpAny P md ops Q' fuel listed a w
  | 0, _, _, _, hS, h => ⟨h.1, hQ _ _ hS h.2⟩
  | fuel + 1, _, _, _, hS, h => ⟨fun h0 => hQ _ _ hS (h.1 h0), fun i hi => wpOp_of_stOpT hS (fun a' w' hS' => wpAny_of_T hQ fuel _ a' w' hS') (h.2 i hi)⟩

theorem stOpT_put {j : Nat} {oi oj : Oper} {v : Value} (hj : ops[j]? = some oj) (hap : oi.apart ops oj = true)
    (hsi : ∀ cs b, oi.op ≠ .select cs b) (hsj : ∀ cs b, oj.op ≠ .select cs b) {K : Act → Prop} {a : Act}
    (hy : YieldsS P ops S oi v a) (h : stOpT P ops S j K (a.put oi.dst v)) :
    stOpT P ops S j (fun a' => YieldsS P ops S oi v a' ∧ K (a'.put oi.dst v)) a := by
  obtain ⟨h1, h2, h3⟩ := Oper.apart_spec hap
  unfold stOpT at *
  simp only [hj] at *
  obtain ⟨u, hu, hK⟩ := h
  refine ⟨u, hu.of_same (execOp_put oj hsj a oi.dst v h1).symm (wanted_put oj a oi.dst v h1).symm, hy.of_same (execOp_put oi hsi a oj.dst u h3) (wanted_put oi a oj.dst u h3), ?_⟩
  rw [← Act.put_comm a v u h2]
  exact hK

theorem wpAnyT_first {Q : Act → Prop} {i : Nat} {oi : Oper} {v : Value} (hi : ops[i]? = some oi) (hsel : ∀ (j : Nat) (o : Oper) cs b, ops[j]? = some o → o.op ≠ .select cs b) :
    ∀ (fuel : Nat) (listed : Array Bool) (a : Act),
      (∀ j oj, ops[j]? = some oj → j ≠ i → listed.getD j true = false → (∀ e ∈ oj.after, Region.binds md e = true → e.on ≠ i) → oi.apart ops oj = true) →
      i ∈ Region.ready md ops listed → YieldsS P ops S oi v a →
      wpAnyT P md ops S Q fuel (listed.setIfInBounds i true) (a.put oi.dst v) → wpAnyT P md ops S Q (fuel + 1) listed a := by
  intro fuel
  induction fuel with
  | zero =>
    intro listed a _ hr hy H
    refine ⟨fun h => (by rw [h] at hr; cases hr), fun j hj => ?_⟩
    by_cases hji : j = i
    · subst hji; unfold stOpT; simp only [hi]; exact ⟨v, hy, H⟩
    · have := ready_mono hj hji
      rw [H.1] at this
      cases this
  | succ fuel ih =>
    intro listed a hfree hr hy H
    refine ⟨fun h => (by rw [h] at hr; cases hr), fun j hj => ?_⟩
    by_cases hji : j = i
    · subst hji; unfold stOpT; simp only [hi]; exact ⟨v, hy, H⟩
    · have h1 := H.2 j (ready_mono hj hji)
      obtain ⟨hjun, oj, hoj, hall⟩ := mem_ready.1 hj
      have hnot : ∀ e ∈ oj.after, Region.binds md e = true → e.on ≠ i := fun e he hb heq => by
        have h1 := hall e he hb
        have h0 := (mem_ready.1 hr).1
        rw [heq] at h1
        rcases Nat.lt_or_ge i listed.size with h' | h'
        · simp [h'] at h0 h1; rw [h0] at h1; cases h1
        · simp [Array.getElem?_eq_none h'] at h1
      have h2 := stOpT_put hoj (hfree j oj hoj hji hjun hnot) (fun cs b => hsel i oi cs b hi) (fun cs b => hsel j oj cs b hoj) hy h1
      have hfree' : ∀ k ok, ops[k]? = some ok → k ≠ i → (listed.setIfInBounds j true).getD k true = false →
          (∀ e ∈ ok.after, Region.binds md e = true → e.on ≠ i) → oi.apart ops ok = true := fun k ok hk hki hun hno => by
        refine hfree k ok hk hki ?_ hno
        by_cases hjk : j = k
        · subst hjk; exact hjun
        · rw [getD_set_ne true hjk] at hun; exact hun
      refine stOpT_mono (fun a' h3 => ih (listed.setIfInBounds j true) a' hfree' (ready_mono hr (Ne.symm hji)) h3.1 ?_) h2
      rw [Array.setIfInBounds_comm _ _ hji]
      exact h3.2

/-- In the order of the text, each operation walked by itself in a world of which S alone is known. -/
def TQ (S : World → Prop) (a1 : Act) : Exit → Act → World → Prop := fun e a' w' => e = .normal ∧ a' = a1 ∧ S w'
def dstOk (o : Oper) (a a1 : Act) : Bool := (match o.dst with | some d => decide (d < a.tmps.size) | none => true) && (a.defers.length == a1.defers.length)
def wpText (P : Program) (S : World → Prop) (ops : Array Oper) : List Oper → Act → Act → Prop
  | [], a, af => a = af
  | o :: rest, a, af => ∃ a1, dstOk o a a1 = true ∧ (∀ w, S w → wpList P ops (TQ S a1) [o] a w) ∧ wpText P S ops rest a1 af

theorem wpText_nil {a : Act} : wpText P S ops [] a a := rfl
theorem wpText_cons {o : Oper} {rest : List Oper} {a a1 af : Act} (hs : ∀ w, S w → wpList P ops (TQ S a1) [o] a w) (hd : dstOk o a a1 = true) (h : wpText P S ops rest a1 af) : wpText P S ops (o :: rest) a af :=
  ⟨a1, hd, hs, h⟩

theorem Calls.some {P : Program} {f : FuncId} {args : Array Value} {w : World} {R : Ending → World → Prop} (h : Calls P f args w R) : ∃ e w', R e w' := by
  obtain ⟨e, w', _, hR, _⟩ := h []
  exact ⟨e, w', hR⟩
theorem Rows.some {P : Program} {f : String} {args : Array Value} {w : World} {R : Value → World → Prop} (h : Rows P f args w R) : ∃ e w', R e w' := by
  obtain ⟨v, w', hR, _⟩ := h default []
  exact ⟨v, w', hR⟩

theorem put_val {a a1 : Act} {o : Oper} {u : Value} (hd : dstOk o a a1 = true) (h : a.put o.dst u = a1) : (o.dst ≠ none → u = (match o.dst with | some d => a1.tmps.getD d undef | none => undef)) := by
  intro hne
  subst h
  cases hd' : o.dst with
  | none => exact absurd hd' hne
  | some d =>
    simp [dstOk, hd'] at hd
    simp [Act.put, hd.1]

theorem yields_of_text {o : Oper} {a a1 : Act} (w0 : World) (hw0 : S w0) (hd : dstOk o a a1 = true) (hs : ∀ w, S w → wpList P ops (TQ S a1) [o] a w) : ∃ v, YieldsS P ops S o v a ∧ a1 = a.put o.dst v := by
  by_cases hw : Region.wanted o (yielded ops a.tmps) = true
  · have key : ∀ w, S w → yield P o a w fun u w' => a.put o.dst u = a1 ∧ S w' := by
      intro w hS
      have h := hs w hS
      unfold wpList at h
      rw [if_pos hw] at h
      rcases h with h | ⟨_, a', w', he, _⟩
      case inr => cases he
      unfold Oper.wp at h
      unfold yield
      generalize (execOp a.eval o).run P w = r at *
      cases r with
      | ok n w' =>
        cases n <;> simp only [Oper.upon, wpList, TQ, true_and] at h <;> simp only [yieldR]
        case value u => exact h
        case skip => exact h
        case defer d =>
          have h1 := congrArg (fun a => a.defers.length) h.1
          simp [dstOk] at hd
          cases hdd : o.dst <;> simp [Act.put, hdd] at h1 <;> omega
        case enter f args =>
          refine h.mono fun e w'' he => ?_
          cases e with
          | returned u => exact ⟨u, rfl, he⟩
          | panicked c => cases he.1
          | outgrown => obtain ⟨_, _, h, _⟩ := he; cases h
        case row row args => exact h
      | halt x w' => cases x <;> simp [Oper.upon, TQ] at h
    refine ⟨match o.dst with | some d => a1.tmps.getD d undef | none => undef, .inl ⟨hw, fun w hS => ?_⟩, ?_⟩
    · have h := key w hS
      unfold yield at *
      generalize (execOp a.eval o).run P w = r at *
      cases r with
      | ok n w' =>
        cases n <;> simp only [yieldR] at h ⊢
        case value u => exact ⟨put_val hd h.1, h.2⟩
        case skip => exact ⟨put_val hd h.1, h.2⟩
        case enter f args => exact h.mono fun e w'' ⟨u, he, h1, h2⟩ => ⟨u, he, put_val hd h1, h2⟩
        case row row args => exact Rows.mono h fun u w'' ⟨h1, h2⟩ => ⟨put_val hd h1, h2⟩
      | halt x w' => simp only [yieldR] at h
    · have h := key w0 hw0
      have hex : ∃ u, a.put o.dst u = a1 := by
        unfold yield at h
        generalize (execOp a.eval o).run P w0 = r at *
        cases r with
        | ok n w' =>
          cases n <;> simp only [yieldR] at h
          case value u => exact ⟨u, h.1⟩
          case skip => exact ⟨_, h.1⟩
          case enter f args => obtain ⟨_, _, u, _, h1, _⟩ := Calls.some h; exact ⟨u, h1⟩
          case row row args => obtain ⟨u, _, h1, _⟩ := Rows.some h; exact ⟨u, h1⟩
        | halt x w' => simp only [yieldR] at h
      obtain ⟨u, hu⟩ := hex
      rw [← put_none a o u _ (put_val hd hu), hu]
  · have hw' : Region.wanted o (yielded ops a.tmps) = false := by simpa using hw
    refine ⟨undef, .inr ⟨hw', rfl⟩, ?_⟩
    have h := hs w0 hw0
    unfold wpList at h
    rw [if_neg hw] at h
    simp only [wpList, TQ, true_and] at h
    exact h.1.symm

theorem wpAnyT_lex {af : Act} (w0 : World) (hw0 : S w0) (hs : Region.noSelect ops = true) : ∀ (l : List Oper) (k : Nat) (listed : Array Bool) (a : Act), (∀ j, l[j]? = ops[k + j]?) →
    Region.lexFrom md ops l.length k listed = true → wpText P S ops l a af → wpAnyT P md ops S (fun a' => a' = af) l.length listed a
  | [], _, _, _, _, hB, h => ⟨by simpa [Region.lexFrom] using hB, h⟩
  | o :: l, k, listed, a, hl, hB, h => by
    have h0 : ops[k]? = some o := by simpa using (hl 0).symm
    simp only [List.length_cons, Region.lexFrom, Bool.and_eq_true] at hB
    obtain ⟨⟨hr, hf⟩, hB'⟩ := hB
    obtain ⟨a1, hd, hstep, hrest⟩ := h
    obtain ⟨v, hy, rfl⟩ := yields_of_text w0 hw0 hd hstep
    exact wpAnyT_first h0 (Region.noSelect_spec hs) l.length listed a (Region.free_spec h0 hf) (by simpa using hr) hy
      (wpAnyT_lex w0 hw0 hs l (k + 1) _ _ (fun j => by have := hl (j + 1); simpa [Nat.add_assoc, Nat.add_comm 1 j] using this) hB' hrest)

/-- THE RULE: a drawn region in the order of its text. -/
theorem wp_region_text {id : Nat} {Q : Exit → Act → World → Prop} {a af : Act} {w : World} {l : List Oper} (S : World → Prop) (hm : P.follows .mixedOrders = true) (hB : Region.lexB .any l.toArray = true)
    (hS : S w.drew) (h : wpText P S l.toArray l a af) (hQ : ∀ w', S w' → Q .normal af w') : (Code.region id l.toArray true).wp P Q a w := by
  simp only [Region.lexB, Bool.and_eq_true] at hB
  refine wp_region_any hm (wpAny_of_T (S := S) (Q := fun a' => a' = af) (fun a' w' hS' ha => by subst ha; exact hQ _ hS') _ _ _ _ hS ?_)
  have := wpAnyT_lex (md := .any) w.drew hS hB.1 l 0 (Array.replicate l.toArray.size false) a (by simp) (by simpa using hB.2) h
  simpa using this
end
end Go.Proofs.Ytinjjaoikofkdaa

/- A drawn region whose last operations are forced to come last: the others in the order of the text, each in a world of which a condition alone is known; then the last ones. -/
namespace Go.Proofs.Ytinjjaoikofkdaa
set_option linter.unusedSimpArgs false
set_option linter.unusedVariables false
open Go

section
variable {P : Program} {ops : Array Oper} {md : Region.Mode} {S : World → Prop}

def wpAnyLT (P : Program) (md : Region.Mode) (ops : Array Oper) (S : World → Prop) (n : Nat) (L : Array Bool → Act → Prop) : Nat → Array Bool → Act → Prop
  | 0, listed, a => L listed a
  | f + 1, listed, a => Region.ready md ops listed ≠ [] ∧ ∀ i ∈ Region.ready md ops listed, i < n ∧ stOpT P ops S i (wpAnyLT P md ops S n L f (listed.setIfInBounds i true)) a

theorem wpAny_of_headT {n g : Nat} {L : Array Bool → Act → Prop} {Q' : Exit → Act → World → Prop} (hL : ∀ listed a w, S w → L listed a → wpAny P md ops Q' g listed a w) :
    ∀ (f : Nat) (listed : Array Bool) (a : Act) (w : World), S w → wpAnyLT P md ops S n L f listed a → wpAny P md ops Q' (f + g) listed a w
  | 0, listed, a, w, hS, h => by rw [Nat.zero_add]; exact hL _ _ _ hS h
  | f + 1, listed, a, w, hS, h => by
    rw [show f + 1 + g = (f + g) + 1 by omega]
    exact ⟨fun h0 => absurd h0 h.1, fun i hi => wpOp_of_stOpT hS (fun a' w' hS' h' => wpAny_of_headT hL f _ a' w' hS' h') (h.2 i hi).2⟩

theorem wpAnyLT_first {n i : Nat} {oi : Oper} {v : Value} {L : Array Bool → Act → Prop} (hi : ops[i]? = some oi) (hsel : ∀ (j : Nat) (o : Oper) cs b, ops[j]? = some o → o.op ≠ .select cs b)
    (hs : Region.sinkB md ops n = true) (hc : Region.chainB md ops n = true) (hn : n < ops.size) (hin : i < n)
    (hdone : ∀ listed a, L listed a → ∀ j ∈ Region.ready md ops listed, n ≤ j) :
    ∀ (f : Nat) (listed : Array Bool) (a : Act), HeadInv md ops n listed →
      (∀ j oj, ops[j]? = some oj → j ≠ i → listed.getD j true = false → (∀ e ∈ oj.after, Region.binds md e = true → e.on ≠ i) → oi.apart ops oj = true) →
      i ∈ Region.ready md ops listed → YieldsS P ops S oi v a →
      wpAnyLT P md ops S n L f (listed.setIfInBounds i true) (a.put oi.dst v) → wpAnyLT P md ops S n L (f + 1) listed a := by
  have self : ∀ (K : Act → Prop) (a : Act), YieldsS P ops S oi v a → K (a.put oi.dst v) → stOpT P ops S i K a := fun K a hy hK => by unfold stOpT; simp only [hi]; exact ⟨v, hy, hK⟩
  intro f
  induction f with
  | zero =>
    intro listed a inv _ hr hy H
    have hun := (mem_ready.1 hr).1
    refine ⟨fun h => (by rw [h] at hr; cases hr), fun j hj => ?_⟩
    have hjn : j < n := by
      rcases Nat.lt_or_ge j n with h | h
      · exact h
      · exact absurd hj (tail_waits hs hc hn inv _ i rfl hin hun j h)
    refine ⟨hjn, ?_⟩
    by_cases hji : j = i
    · subst hji; exact self _ _ hy H
    · have := hdone _ _ H j (ready_mono hj hji)
      omega
  | succ f ih =>
    intro listed a inv hfree hr hy H
    have hun := (mem_ready.1 hr).1
    refine ⟨fun h => (by rw [h] at hr; cases hr), fun j hj => ?_⟩
    have hjn : j < n := by
      rcases Nat.lt_or_ge j n with h | h
      · exact h
      · exact absurd hj (tail_waits hs hc hn inv _ i rfl hin hun j h)
    refine ⟨hjn, ?_⟩
    by_cases hji : j = i
    · subst hji; exact self _ _ hy H
    · have h1 := (H.2 j (ready_mono hj hji)).2
      obtain ⟨hjun, oj, hoj, hall⟩ := mem_ready.1 hj
      have hnot : ∀ e ∈ oj.after, Region.binds md e = true → e.on ≠ i := fun e he hb heq => by
        have h1 := hall e he hb
        rw [heq, getD_both hun] at h1
        cases h1
      have h2 := stOpT_put hoj (hfree j oj hoj hji hjun hnot) (fun cs b => hsel i oi cs b hi) (fun cs b => hsel j oj cs b hoj) hy h1
      have hfree' : ∀ k ok, ops[k]? = some ok → k ≠ i → (listed.setIfInBounds j true).getD k true = false →
          (∀ e ∈ ok.after, Region.binds md e = true → e.on ≠ i) → oi.apart ops ok = true := fun k ok hk hki hun hno => by
        refine hfree k ok hk hki ?_ hno
        by_cases hjk : j = k
        · subst hjk; exact hjun
        · rw [getD_set_ne true hjk] at hun; exact hun
      refine stOpT_mono (fun a' h3 => ih (listed.setIfInBounds j true) a' (inv.set hj hjn) hfree' (ready_mono hr (Ne.symm hji)) h3.1 ?_) h2
      rw [Array.setIfInBounds_comm _ _ hji]
      exact h3.2

theorem wpAnyLT_lex {n g : Nat} {af : Act} (w0 : World) (hw0 : S w0) (hsel : Region.noSelect ops = true) (hs : Region.sinkB md ops n = true) (hc : Region.chainB md ops n = true) (hn : n < ops.size) :
    ∀ (l : List Oper) (k : Nat) (listed : Array Bool) (a : Act), (∀ j, j < l.length → l[j]? = ops[k + j]?) → k + l.length = n → HeadInv md ops n listed →
    Region.lexHead md ops g l.length k listed = true → wpText P S ops l a af →
    wpAnyLT P md ops S n (fun listed' a' => Region.seqB md ops g n listed' = true ∧ a' = af) l.length listed a
  | [], k, listed, a, _, hk, _, hB, h => by
    have : k = n := by simpa using hk
    subst this
    exact ⟨by simpa [Region.lexHead] using hB, h⟩
  | o :: l, k, listed, a, hl, hk, inv, hB, h => by
    have h0 : ops[k]? = some o := by simpa using (hl 0 (by simp)).symm
    simp only [List.length_cons, Region.lexHead, Bool.and_eq_true] at hB
    obtain ⟨⟨hr, hf⟩, hB'⟩ := hB
    have hkn : k < n := by simp only [List.length_cons] at hk; omega
    have hr' : k ∈ Region.ready md ops listed := by simpa using hr
    obtain ⟨a1, hd, hstep, hrest⟩ := h
    obtain ⟨v, hy, rfl⟩ := yields_of_text w0 hw0 hd hstep
    exact wpAnyLT_first h0 (Region.noSelect_spec hsel) hs hc hn hkn (fun listed' a' hL => seqB_ready hL.1) l.length listed a inv (Region.free_spec h0 hf) hr' hy
      (wpAnyLT_lex w0 hw0 hsel hs hc hn l (k + 1) _ _ (fun j hj => by have := hl (j + 1) (by simp; omega); simpa [Nat.add_assoc, Nat.add_comm 1 j] using this) (by simp only [List.length_cons] at hk; omega) (inv.set hr' hkn) hB' hrest)

/-- THE RULE WITH A TAIL: the first n operations in the order of the text; what stands behind them comes last. -/
theorem wp_region_text_tail {id : Nat} {Q : Exit → Act → World → Prop} {a af : Act} {w : World} {l : List Oper} (n : Nat) (S : World → Prop) (hm : P.follows .mixedOrders = true) (hB : Region.lexTailB .any l.toArray n = true)
    (hS : S w.drew) (h : wpText P S l.toArray (l.take n) a af) (hQ : ∀ w', S w' → wpList P l.toArray Q (l.drop n) af w') : (Code.region id l.toArray true).wp P Q a w := by
  simp only [Region.lexTailB, Bool.and_eq_true, decide_eq_true_eq] at hB
  obtain ⟨⟨⟨⟨hsel, hn⟩, hs⟩, hc⟩, hlex⟩ := hB
  have hn' : n < l.length := by simpa using hn
  have htl : (l.take n).length = n := by simp; omega
  have hdl : (l.drop n).length = l.toArray.size - n := by simp
  have inv0 : HeadInv .any l.toArray n (Array.replicate l.toArray.size false) :=
    ⟨by simp, fun j oj _ hl => (by rw [getD_replicate_false] at hl; cases hl), fun t _ ht => getD_in (by simpa using ht) (getD_replicate_false _ _)⟩
  have H := wpAnyLT_lex (md := .any) (g := l.toArray.size - n) w.drew hS hsel hs hc hn (l.take n) 0 _ a (fun j hj => by
    have hj' : j < n := by rw [htl] at hj; exact hj
    simp [hj']) (by simpa using htl) inv0 (by rw [htl]; exact hlex) h
  refine wp_region_any hm ?_
  have := wpAny_of_headT (S := S) (Q' := Q) (g := l.toArray.size - n) (fun listed a' w' hS' hL => by
    obtain ⟨hB, rfl⟩ := hL
    have h1 := wpAny_of_seq (P := P) (md := .any) (ops := l.toArray) (Q' := Q) (l.drop n) n listed a' w' (fun j => by simp) (by rw [hdl]; exact hB) (hQ w' hS')
    rwa [hdl] at h1) (l.take n).length _ a w.drew hS H
  rw [htl, show n + (l.toArray.size - n) = l.toArray.size by omega] at this
  exact this
end
end Go.Proofs.Ytinjjaoikofkdaa

/- A drawn region with a new box among its operations: the box may be made at any time, so its place is not known ahead; all else in the order of the text, what stands behind the box comes last. -/
namespace Go.Proofs.Ytinjjaoikofkdaa
set_option linter.unusedSimpArgs false
set_option linter.unusedVariables false
open Go Go.RowKit

section
variable {P : Program} {ops : Array Oper} {md : Region.Mode} {S : List Value → World → Prop}

/-- One value in each world that meets S; S is kept. -/
def YieldsG (P : Program) (ops : Array Oper) (S : List Value → World → Prop) (o : Oper) (v : Value) (a : Act) : Prop :=
  (Region.wanted o (yielded ops a.tmps) = true ∧ ∀ g w, S g w → yield P o a w fun u w' => (o.dst ≠ none → u = v) ∧ S g w') ∨ (Region.wanted o (yielded ops a.tmps) = false ∧ v = undef)
theorem YieldsG.of_same {o : Oper} {v : Value} {a a' : Act} (hy : YieldsG P ops S o v a) (he : execOp a'.eval o = execOp a.eval o)
    (hw : Region.wanted o (yielded ops a'.tmps) = Region.wanted o (yielded ops a.tmps)) : YieldsG P ops S o v a' := by
  unfold YieldsG yield at *
  rw [he, hw]
  exact hy

def stOpG (P : Program) (ops : Array Oper) (S : List Value → World → Prop) (i : Nat) (K : Act → Prop) (a : Act) : Prop :=
  match ops[i]? with
  | none => K a
  | some o => ∃ v, YieldsG P ops S o v a ∧ K (a.put o.dst v)
theorem stOpG_mono {i : Nat} {a : Act} {K K' : Act → Prop} (h : ∀ a, K a → K' a) (hh : stOpG P ops S i K a) : stOpG P ops S i K' a := by
  unfold stOpG at *
  split
  · exact h _ (by simpa [*] using hh)
  · rename_i o ho
    simp only [ho] at hh
    obtain ⟨v, h1, h2⟩ := hh
    exact ⟨v, h1, h _ h2⟩

theorem wpOp_of_stOpG {i : Nat} {a : Act} {w : World} {K : Act → Prop} {K' : Act → World → Prop} {Q' : Exit → Act → World → Prop} {g : List Value} (hS : S g w) (h : ∀ a w, S g w → K a → K' a w) (hh : stOpG P ops S i K a) : wpOp P ops Q' i K' a w := by
  unfold stOpG at hh
  unfold wpOp
  split
  · rename_i ho; simp only [ho] at hh; exact h _ _ hS hh
  · rename_i o ho
    simp only [ho] at hh
    obtain ⟨v, hy, hK⟩ := hh
    rcases hy with ⟨hw, hy⟩ | ⟨hw, rfl⟩
    · rw [if_pos hw]
      refine .inl ?_
      have := hy g w hS
      unfold yield at this
      unfold Oper.wp
      generalize (execOp a.eval o).run P w = r at *
      cases r with
      | ok n w' =>
        cases n <;> simp only [yieldR] at this <;> simp only [Oper.upon]
        case value u => rw [put_none a o u v this.1]; exact h _ _ this.2 hK
        case skip => rw [put_none a o _ v this.1]; exact h _ _ this.2 hK
        case enter f args =>
          exact this.mono fun e w'' ⟨u, he, h1, h2⟩ => by subst he; show K' (a.put o.dst u) w''; rw [put_none a o u v h1]; exact h _ _ h2 hK
        case row row args =>
          exact Rows.mono this fun u w'' ⟨h1, h2⟩ => by rw [put_none a o u v h1]; exact h _ _ h2 hK
      | halt x w' => simp only [yieldR] at this
    · rw [if_neg (by simp [hw])]
      exact h _ _ hS hK

theorem stOpG_put {j : Nat} {oi oj : Oper} {v : Value} (hj : ops[j]? = some oj) (hap : oi.apart ops oj = true)
    (hsi : ∀ cs b, oi.op ≠ .select cs b) (hsj : ∀ cs b, oj.op ≠ .select cs b) {K : Act → Prop} {a : Act}
    (hy : YieldsG P ops S oi v a) (h : stOpG P ops S j K (a.put oi.dst v)) :
    stOpG P ops S j (fun a' => YieldsG P ops S oi v a' ∧ K (a'.put oi.dst v)) a := by
  obtain ⟨h1, h2, h3⟩ := Oper.apart_spec hap
  unfold stOpG at *
  simp only [hj] at *
  obtain ⟨u, hu, hK⟩ := h
  refine ⟨u, hu.of_same (execOp_put oj hsj a oi.dst v h1).symm (wanted_put oj a oi.dst v h1).symm, hy.of_same (execOp_put oi hsi a oj.dst u h3) (wanted_put oi a oj.dst u h3), ?_⟩
  rw [← Act.put_comm a v u h2]
  exact hK

/-- In the order of the text, each operation walked by itself in a world of which S alone is known. -/
def TQG (S : List Value → World → Prop) (g : List Value) (a1 : Act) : Exit → Act → World → Prop := fun e a' w' => e = .normal ∧ a' = a1 ∧ S g w'
def wpTextG (P : Program) (S : List Value → World → Prop) (ops : Array Oper) : List Oper → Act → Act → Prop
  | [], a, af => a = af
  | o :: rest, a, af => ∃ a1, dstOk o a a1 = true ∧ (∀ g w, S g w → wpList P ops (TQG S g a1) [o] a w) ∧ wpTextG P S ops rest a1 af

theorem wpTextG_nil {a : Act} : wpTextG P S ops [] a a := rfl
theorem wpTextG_cons {o : Oper} {rest : List Oper} {a a1 af : Act} (hs : ∀ g w, S g w → wpList P ops (TQG S g a1) [o] a w) (hd : dstOk o a a1 = true) (h : wpTextG P S ops rest a1 af) : wpTextG P S ops (o :: rest) a af :=
  ⟨a1, hd, hs, h⟩

theorem put_valG {a a1 : Act} {o : Oper} {u : Value} (hd : dstOk o a a1 = true) (h : a.put o.dst u = a1) : (o.dst ≠ none → u = (match o.dst with | some d => a1.tmps.getD d undef | none => undef)) := by
  intro hne
  subst h
  cases hd' : o.dst with
  | none => exact absurd hd' hne
  | some d =>
    simp [dstOk, hd'] at hd
    simp [Act.put, hd.1]

theorem yieldsG_of_text {o : Oper} {a a1 : Act} (w0 : World) (g0 : List Value) (hw0 : S g0 w0) (hd : dstOk o a a1 = true) (hs : ∀ g w, S g w → wpList P ops (TQG S g a1) [o] a w) : ∃ v, YieldsG P ops S o v a ∧ a1 = a.put o.dst v := by
  by_cases hw : Region.wanted o (yielded ops a.tmps) = true
  · have key : ∀ g w, S g w → yield P o a w fun u w' => a.put o.dst u = a1 ∧ S g w' := by
      intro g w hS
      have h := hs g w hS
      unfold wpList at h
      rw [if_pos hw] at h
      rcases h with h | ⟨_, a', w', he, _⟩
      case inr => cases he
      unfold Oper.wp at h
      unfold yield
      generalize (execOp a.eval o).run P w = r at *
      cases r with
      | ok n w' =>
        cases n <;> simp only [Oper.upon, wpList, TQG, true_and] at h <;> simp only [yieldR]
        case value u => exact h
        case skip => exact h
        case defer d =>
          have h1 := congrArg (fun a => a.defers.length) h.1
          simp [dstOk] at hd
          cases hdd : o.dst <;> simp [Act.put, hdd] at h1 <;> omega
        case enter f args =>
          refine h.mono fun e w'' he => ?_
          cases e with
          | returned u => exact ⟨u, rfl, he⟩
          | panicked c => cases he.1
          | outgrown => obtain ⟨_, _, h, _⟩ := he; cases h
        case row row args => exact h
      | halt x w' => cases x <;> simp [Oper.upon, TQG] at h
    refine ⟨match o.dst with | some d => a1.tmps.getD d undef | none => undef, .inl ⟨hw, fun g w hS => ?_⟩, ?_⟩
    · have h := key g w hS
      unfold yield at *
      generalize (execOp a.eval o).run P w = r at *
      cases r with
      | ok n w' =>
        cases n <;> simp only [yieldR] at h ⊢
        case value u => exact ⟨put_valG hd h.1, h.2⟩
        case skip => exact ⟨put_valG hd h.1, h.2⟩
        case enter f args => exact h.mono fun e w'' ⟨u, he, h1, h2⟩ => ⟨u, he, put_valG hd h1, h2⟩
        case row row args => exact Rows.mono h fun u w'' ⟨h1, h2⟩ => ⟨put_valG hd h1, h2⟩
      | halt x w' => simp only [yieldR] at h
    · have h := key g0 w0 hw0
      have hex : ∃ u, a.put o.dst u = a1 := by
        unfold yield at h
        generalize (execOp a.eval o).run P w0 = r at *
        cases r with
        | ok n w' =>
          cases n <;> simp only [yieldR] at h
          case value u => exact ⟨u, h.1⟩
          case skip => exact ⟨_, h.1⟩
          case enter f args => obtain ⟨_, _, u, _, h1, _⟩ := Calls.some h; exact ⟨u, h1⟩
          case row row args => obtain ⟨u, _, h1, _⟩ := Rows.some h; exact ⟨u, h1⟩
        | halt x w' => simp only [yieldR] at h
      obtain ⟨u, hu⟩ := hex
      rw [← put_none a o u _ (put_valG hd hu), hu]
  · have hw' : Region.wanted o (yielded ops a.tmps) = false := by simpa using hw
    refine ⟨undef, .inr ⟨hw', rfl⟩, ?_⟩
    have h := hs g0 w0 hw0
    unfold wpList at h
    rw [if_neg hw] at h
    simp only [wpList, TQG, true_and] at h
    exact h.1.symm


/-- The act with the values of the operations from k on. -/
def puts (ops : Array Oper) : Nat → Act → List Value → Act
  | _, a, [] => a
  | k, a, v :: g => puts ops (k + 1) (match ops[k]? with | some o => a.put o.dst v | none => a) g
theorem puts_snoc : ∀ (g : List Value) (k : Nat) (a : Act) (v : Value) (o : Oper), ops[k + g.length]? = some o → puts ops k a (g ++ [v]) = (puts ops k a g).put o.dst v
  | [], k, a, v, o, h => by simp only [List.length_nil, Nat.add_zero] at h; simp [puts, h]
  | u :: g, k, a, v, o, h => by
    simp only [List.cons_append, puts]
    exact puts_snoc g (k + 1) _ v o (by rw [← h]; congr 1; simp only [List.length_cons]; omega)

def wpAnyG (P : Program) (md : Region.Mode) (ops : Array Oper) (S : List Value → World → Prop) (h n : Nat) (af : Act) (L : Array Bool → List Value → Act → Prop) : Nat → Array Bool → List Value → Act → Prop
  | 0, listed, g, a => L listed g a
  | f + 1, listed, g, a => Region.ready md ops listed ≠ [] ∧ ∀ i ∈ Region.ready md ops listed, i < n ∧
      (h ≤ i → i = h + g.length ∧ ∀ oi, ops[i]? = some oi → execOp a.eval oi = execOp (puts ops h af g).eval oi ∧ ∀ v, wpAnyG P md ops S h n af L f (listed.setIfInBounds i true) (g ++ [v]) (a.put oi.dst v)) ∧
      (i < h → stOpG P ops S i (wpAnyG P md ops S h n af L f (listed.setIfInBounds i true) g) a)

theorem wpOp_of_new {i : Nat} {oh : Oper} (hh : ops[i]? = some oh) (hg : oh.guard = none) {a af : Act} {R : Value → World → Prop} (he : execOp a.eval oh = execOp af.eval oh) {w : World} (hA : yield P oh af w R)
    {K' : Act → World → Prop} {Q' : Exit → Act → World → Prop} (hK : ∀ v w', R v w' → K' (a.put oh.dst v) w') : wpOp P ops Q' i K' a w := by
  unfold wpOp
  simp only [hh]
  rw [if_pos (by simp [Region.wanted, hg])]
  refine .inl ?_
  have := hA
  unfold yield at this
  rw [← he] at this
  unfold Oper.wp
  generalize (execOp a.eval oh).run P w = r at *
  cases r with
  | ok n w' =>
    cases n <;> simp only [yieldR] at this <;> simp only [Oper.upon]
    case value u => exact hK _ _ this
    case skip => exact hK _ _ this
    case enter f args => exact this.mono fun e w'' ⟨u, he, h1⟩ => by subst he; exact hK _ _ h1
    case row row args => exact Rows.mono this fun u w'' h1 => hK _ _ h1
  | halt x w' => simp only [yieldR] at this

theorem wpAny_of_headG {h n r : Nat} {af : Act} (hn : n ≤ ops.size) (hA : ∀ (g : List Value) (oi : Oper) (w : World), h + g.length < n → ops[h + g.length]? = some oi → S g w → oi.guard = none ∧ yield P oi (puts ops h af g) w fun u w' => S (g ++ [u]) w')
    {L : Array Bool → List Value → Act → Prop} {Q' : Exit → Act → World → Prop} (hL : ∀ listed g a w, S g w → L listed g a → wpAny P md ops Q' r listed a w) :
    ∀ (f : Nat) (listed : Array Bool) (g : List Value) (a : Act) (w : World), S g w → wpAnyG P md ops S h n af L f listed g a → wpAny P md ops Q' (f + r) listed a w
  | 0, listed, g, a, w, hS, hw => by rw [Nat.zero_add]; exact hL _ _ _ _ hS hw
  | f + 1, listed, g, a, w, hS, hw => by
    rw [show f + 1 + r = (f + r) + 1 by omega]
    refine ⟨fun h0 => absurd h0 hw.1, fun i hi => ?_⟩
    obtain ⟨hin, h1, h2⟩ := hw.2 i hi
    by_cases e : h ≤ i
    · obtain ⟨hig, h3⟩ := h1 e
      obtain ⟨oi, hoi⟩ : ∃ oi, ops[i]? = some oi := ⟨ops[i]'(by omega), by rw [Array.getElem?_eq_getElem]⟩
      obtain ⟨hx, h4⟩ := h3 oi hoi
      obtain ⟨hg, hy⟩ := hA g oi w (by omega) (by rw [← hig]; exact hoi) hS
      exact wpOp_of_new hoi hg hx hy fun v w' hS' => wpAny_of_headG hn hA hL f _ _ _ _ hS' (h4 v)
    · exact wpOp_of_stOpG hS (fun a' w' hS' hw' => wpAny_of_headG hn hA hL f _ _ a' w' hS' hw') (h2 (by omega))

theorem wpAnyG_first {h n i : Nat} {af : Act} {oi : Oper} {v : Value} {L : Array Bool → List Value → Act → Prop} (hi : ops[i]? = some oi) (hih : i < h) (hhn : h ≤ n)
    (hsel : ∀ (j : Nat) (o : Oper) cs b, ops[j]? = some o → o.op ≠ .select cs b)
    (hs : Region.sinkB md ops n = true) (hc : Region.chainB md ops n = true) (hn : n < ops.size)
    (hdone : ∀ listed g a, L listed g a → ∀ j ∈ Region.ready md ops listed, n ≤ j) :
    ∀ (f : Nat) (listed : Array Bool) (g : List Value) (a : Act), HeadInv md ops n listed →
      (∀ j oj, ops[j]? = some oj → j ≠ i → listed.getD j true = false → (∀ e ∈ oj.after, Region.binds md e = true → e.on ≠ i) → oi.apart ops oj = true) →
      i ∈ Region.ready md ops listed → YieldsG P ops S oi v a →
      wpAnyG P md ops S h n af L f (listed.setIfInBounds i true) g (a.put oi.dst v) → wpAnyG P md ops S h n af L (f + 1) listed g a := by
  intro f
  have self : ∀ (K : Act → Prop) (a : Act), YieldsG P ops S oi v a → K (a.put oi.dst v) → stOpG P ops S i K a := fun K a hy hK => by unfold stOpG; simp only [hi]; exact ⟨v, hy, hK⟩
  induction f with
  | zero =>
    intro listed g a inv _ hr hy H
    have hun := (mem_ready.1 hr).1
    refine ⟨fun h => (by rw [h] at hr; cases hr), fun j hj => ?_⟩
    have hjn : j < n := by
      rcases Nat.lt_or_ge j n with h' | h'
      · exact h'
      · exact absurd hj (tail_waits hs hc hn inv _ i rfl (by omega) hun j h')
    by_cases hji : j = i
    · subst hji; exact ⟨hjn, fun e => absurd e (by omega), fun _ => self _ _ hy H⟩
    · have := hdone _ _ _ H j (ready_mono hj hji)
      omega
  | succ f ih =>
    intro listed g a inv hfree hr hy H
    have hun := (mem_ready.1 hr).1
    refine ⟨fun h => (by rw [h] at hr; cases hr), fun j hj => ?_⟩
    have hjn : j < n := by
      rcases Nat.lt_or_ge j n with h' | h'
      · exact h'
      · exact absurd hj (tail_waits hs hc hn inv _ i rfl (by omega) hun j h')
    refine ⟨hjn, ?_⟩
    by_cases hji : j = i
    · subst hji; exact ⟨fun e => absurd e (by omega), fun _ => self _ _ hy H⟩
    · obtain ⟨_, g1, g2⟩ := H.2 j (ready_mono hj hji)
      obtain ⟨hjun, oj, hoj, hall⟩ := mem_ready.1 hj
      have hnot : ∀ e ∈ oj.after, Region.binds md e = true → e.on ≠ i := fun e he hb heq => by
        have h1 := hall e he hb
        rw [heq, getD_both hun] at h1
        cases h1
      have hap := hfree j oj hoj hji hjun hnot
      have hfree' : ∀ k ok, ops[k]? = some ok → k ≠ i → (listed.setIfInBounds j true).getD k true = false →
          (∀ e ∈ ok.after, Region.binds md e = true → e.on ≠ i) → oi.apart ops ok = true := fun k ok hk hki hun hno => by
        refine hfree k ok hk hki ?_ hno
        by_cases hjk : j = k
        · subst hjk; exact hjun
        · rw [getD_set_ne true hjk] at hun; exact hun
      refine ⟨fun e => ?_, fun e => ?_⟩
      · obtain ⟨hg0, g1⟩ := g1 e
        refine ⟨hg0, fun o2 ho2 => ?_⟩
        obtain rfl : oj = o2 := by rw [hoj] at ho2; exact Option.some.inj ho2
        obtain ⟨gx, g1⟩ := g1 oj hoj
        obtain ⟨p1, p2, p3⟩ := Oper.apart_spec hap
        refine ⟨(execOp_put oj (fun cs b => hsel j oj cs b hoj) a oi.dst v p1).symm.trans gx, fun u => ?_⟩
        refine ih (listed.setIfInBounds j true) (g ++ [u]) _ (inv.set hj hjn) hfree' (ready_mono hr (Ne.symm hji)) (hy.of_same (execOp_put oi (fun cs b => hsel i oi cs b hi) a oj.dst u p3) (wanted_put oi a oj.dst u p3)) ?_
        rw [Array.setIfInBounds_comm _ _ hji, ← Act.put_comm a v u p2]
        exact g1 u
      · have h2 := stOpG_put hoj hap (fun cs b => hsel i oi cs b hi) (fun cs b => hsel j oj cs b hoj) hy (g2 e)
        refine stOpG_mono (fun a' h3 => ih (listed.setIfInBounds j true) g a' (inv.set hj hjn) hfree' (ready_mono hr (Ne.symm hji)) h3.1 ?_) h2
        rw [Array.setIfInBounds_comm _ _ hji]
        exact h3.2

theorem wpAnyG_specials {h n r : Nat} {af : Act} (hn : n ≤ ops.size) : ∀ (f : Nat) (listed : Array Bool) (g : List Value), h + g.length + f = n → Region.seqB md ops (r + f) (h + g.length) listed = true →
    wpAnyG P md ops S h n af (fun listed' g a' => Region.seqB md ops r n listed' = true ∧ h + g.length = n ∧ a' = puts ops h af g) f listed g (puts ops h af g)
  | 0, listed, g, hk, hB => ⟨by rw [← hk]; exact hB, by omega, rfl⟩
  | f + 1, listed, g, hk, hB => by
    rw [← Nat.add_assoc] at hB
    simp only [Region.seqB, Bool.and_eq_true, decide_eq_true_eq] at hB
    refine ⟨fun h0 => (by rw [hB.1] at h0; cases h0), fun i hi => ?_⟩
    rw [hB.1] at hi
    obtain rfl : i = h + g.length := by simpa using hi
    refine ⟨by omega, fun _ => ⟨rfl, fun oi hoi => ⟨rfl, fun v => ?_⟩⟩, fun e => absurd e (by omega)⟩
    rw [← puts_snoc g h af v oi hoi]
    exact wpAnyG_specials hn f _ (g ++ [v]) (by simp only [List.length_append, List.length_singleton]; omega) (by simp only [List.length_append, List.length_singleton]; exact hB.2)

theorem wpAnyG_lex {h n r : Nat} {af : Act} (hhn : h ≤ n) (g0 : List Value) (w0 : World) (hw0 : S g0 w0) (hsel : Region.noSelect ops = true) (hs : Region.sinkB md ops n = true) (hc : Region.chainB md ops n = true) (hn : n < ops.size) :
    ∀ (l : List Oper) (k : Nat) (listed : Array Bool) (a : Act), (∀ j, j < l.length → l[j]? = ops[k + j]?) → k + l.length = h → HeadInv md ops n listed →
    Region.lexHead md ops (r + (n - h)) l.length k listed = true → wpTextG P S ops l a af →
    wpAnyG P md ops S h n af (fun listed' g a' => Region.seqB md ops r n listed' = true ∧ h + g.length = n ∧ a' = puts ops h af g) (l.length + (n - h)) listed [] a
  | [], k, listed, a, _, hk, inv, hB, ht => by
    obtain rfl : k = h := by simpa using hk
    simp only [List.length_nil, Region.lexHead] at hB
    subst ht
    rw [List.length_nil, Nat.zero_add]
    exact wpAnyG_specials (by omega) (n - k) listed [] (by simp; omega) hB
  | o :: l, k, listed, a, hl, hk, inv, hB, ht => by
    have h0 : ops[k]? = some o := by simpa using (hl 0 (by simp)).symm
    simp only [List.length_cons] at hk hB ⊢
    rw [Region.lexHead] at hB
    simp only [Bool.and_eq_true] at hB
    obtain ⟨⟨hr, hf⟩, hB'⟩ := hB
    have hr' : k ∈ Region.ready md ops listed := by simpa using hr
    obtain ⟨a1, hd, hstep, hrest⟩ := ht
    obtain ⟨v, hy, rfl⟩ := yieldsG_of_text w0 g0 hw0 hd hstep
    rw [show l.length + 1 + (n - h) = (l.length + (n - h)) + 1 by omega]
    exact wpAnyG_first h0 (by omega) hhn (Region.noSelect_spec hsel) hs hc hn (fun listed' g a' hL => seqB_ready hL.1) _ listed [] a inv (Region.free_spec h0 hf) hr' hy
      (wpAnyG_lex hhn g0 w0 hw0 hsel hs hc hn l (k + 1) _ _ (fun j hj => by have := hl (j + 1) (by simp; omega); simpa [Nat.add_assoc, Nat.add_comm 1 j] using this) (by omega) (inv.set hr' (by omega)) hB' hrest)

def newB (ops : Array Oper) (h n : Nat) : Bool :=
  Region.noSelect ops && decide (n < ops.size) && decide (h ≤ n) && Region.sinkB .any ops n && Region.chainB .any ops n && Region.lexHead .any ops (ops.size - n + (n - h)) h 0 (Array.replicate ops.size false)

/-- THE RULE WITH NEW BOXES: the first h operations in the order of the text; those from h to n at any time, in their order; then what stands behind them. -/
theorem wp_region_text_new {id : Nat} {Q : Exit → Act → World → Prop} {a af : Act} {w : World} {l : List Oper} (h n : Nat) (S : List Value → World → Prop) (hm : P.follows .mixedOrders = true) (hB : newB l.toArray h n = true)
    (hA : ∀ (g : List Value) (oi : Oper) (w : World), h + g.length < n → l.toArray[h + g.length]? = some oi → S g w → oi.guard = none ∧ yield P oi (puts l.toArray h af g) w fun u w' => S (g ++ [u]) w')
    (hS : S [] w.drew) (ht : wpTextG P S l.toArray (l.take h) a af) (hQ : ∀ g w', h + g.length = n → S g w' → wpList P l.toArray Q (l.drop n) (puts l.toArray h af g) w') : (Code.region id l.toArray true).wp P Q a w := by
  simp only [newB, Bool.and_eq_true, decide_eq_true_eq] at hB
  obtain ⟨⟨⟨⟨⟨hsel, hn⟩, hhn⟩, hs⟩, hc⟩, hlex⟩ := hB
  have hn' : n < l.length := by simpa using hn
  have htl : (l.take h).length = h := by simp; omega
  have hdl : (l.drop n).length = l.toArray.size - n := by simp
  have inv0 : HeadInv .any l.toArray n (Array.replicate l.toArray.size false) :=
    ⟨by simp, fun j oj _ hl => (by rw [getD_replicate_false] at hl; cases hl), fun t _ ht => getD_in (by simpa using ht) (getD_replicate_false _ _)⟩
  have H := wpAnyG_lex (md := .any) (r := l.toArray.size - n) hhn [] w.drew hS hsel hs hc hn (l.take h) 0 _ a (fun j hj => by
    have hj' : j < h := by rw [htl] at hj; exact hj
    simp [hj']) (by simpa using htl) inv0 (by rw [htl]; exact hlex) ht
  refine wp_region_any hm ?_
  have := wpAny_of_headG (S := S) (Q' := Q) (r := l.toArray.size - n) (by omega) hA (fun listed g a' w' hS' hL => by
    obtain ⟨hB, hg, rfl⟩ := hL
    have h1 := wpAny_of_seq (P := P) (md := .any) (ops := l.toArray) (Q' := Q) (l.drop n) n listed _ w' (fun j => by simp) (by rw [hdl]; exact hB) (hQ g w' hg hS')
    rwa [hdl] at h1) ((l.take h).length + (n - h)) _ [] a w.drew hS H
  rw [htl, show h + (n - h) + (l.toArray.size - n) = l.toArray.size by omega] at this
  exact this

/-- One new box, or one store. -/
theorem wp_region_new1 {id : Nat} {Q : Exit → Act → World → Prop} {a af : Act} {w : World} {l : List Oper} (h : Nat) (o1 : Oper) (S : List Value → World → Prop) (hm : P.follows .mixedOrders = true) (hB : newB l.toArray h (h + 1) = true)
    (h1 : l[h]? = some o1) (hg1 : o1.guard = none) (hA : ∀ w, S [] w → yield P o1 af w fun u w' => S [u] w')
    (hS : S [] w.drew) (ht : wpTextG P S l.toArray (l.take h) a af) (hQ : ∀ v w', S [v] w' → wpList P l.toArray Q (l.drop (h + 1)) (af.put o1.dst v) w') : (Code.region id l.toArray true).wp P Q a w := by
  have h1' : l.toArray[h]? = some o1 := by simpa using h1
  refine wp_region_text_new h (h + 1) S hm hB (fun g oi w hg hoi hS => ?_) hS ht fun g w' hg hS => ?_
  · obtain rfl : g = [] := List.length_eq_zero_iff.1 (by omega)
    obtain rfl : o1 = oi := by rw [List.length_nil, Nat.add_zero, h1'] at hoi; exact Option.some.inj hoi
    exact ⟨hg1, hA w hS⟩
  · obtain ⟨v, rfl⟩ : ∃ v, g = [v] := List.length_eq_one_iff.1 (by omega)
    simp only [puts, h1']
    exact hQ v w' hS
/-- A new box and a store, or two boxes, .. -/
theorem wp_region_new2 {id : Nat} {Q : Exit → Act → World → Prop} {a af : Act} {w : World} {l : List Oper} (h : Nat) (o1 o2 : Oper) (S : List Value → World → Prop) (hm : P.follows .mixedOrders = true) (hB : newB l.toArray h (h + 2) = true)
    (h1 : l[h]? = some o1) (hg1 : o1.guard = none) (h2 : l[h + 1]? = some o2) (hg2 : o2.guard = none) (hA : ∀ w, S [] w → yield P o1 af w fun u w' => S [u] w') (hA2 : ∀ v w, S [v] w → yield P o2 (af.put o1.dst v) w fun u w' => S [v, u] w')
    (hS : S [] w.drew) (ht : wpTextG P S l.toArray (l.take h) a af) (hQ : ∀ v u w', S [v, u] w' → wpList P l.toArray Q (l.drop (h + 2)) ((af.put o1.dst v).put o2.dst u) w') : (Code.region id l.toArray true).wp P Q a w := by
  have h1' : l.toArray[h]? = some o1 := by simpa using h1
  have h2' : l.toArray[h + 1]? = some o2 := by simpa using h2
  refine wp_region_text_new h (h + 2) S hm hB (fun g oi w hg hoi hS => ?_) hS ht fun g w' hg hS => ?_
  · match g, hg, hoi, hS with
    | [], _, hoi, hS =>
      obtain rfl : o1 = oi := by rw [List.length_nil, Nat.add_zero, h1'] at hoi; exact Option.some.inj hoi
      exact ⟨hg1, hA w hS⟩
    | [v], _, hoi, hS =>
      obtain rfl : o2 = oi := by rw [List.length_singleton, h2'] at hoi; exact Option.some.inj hoi
      refine ⟨hg2, ?_⟩
      simp only [puts, h1']
      exact hA2 v w hS
    | _ :: _ :: _, hg, _, _ => simp only [List.length_cons] at hg; omega
  · match g, hg, hS with
    | [v, u], _, hS =>
      simp only [puts, h1', h2']
      exact hQ v u w' hS
    | [], hg, _ => simp only [List.length_nil] at hg; omega
    | [_], hg, _ => simp only [List.length_singleton] at hg; omega
    | _ :: _ :: _ :: _, hg, _ => simp only [List.length_cons] at hg; omega

/-! ### A new box of cells -/
theorem yield_alloc {oh : Oper} {ty : TypeId} (ho : oh.op = .alloc ty) {cs : Array Value} (hz : ∀ w, (zeroValue ty).run P w = .ok (.agg cs) w) {a : Act} {w : World} {R : Value → World → Prop}
    (hR : R (.pointer (some ⟨w.heap.size, 0, none⟩)) (w.alloc (.cells cs ty))) : yield P oh a w R := by
  unfold yield
  simp [execOp, ho, Instr.alloc, hz, newVar, newRow, Value.cells, yieldR, hR]
theorem yield_store {oh : Oper} {ty : TypeId} {x y : Operand} (ho : oh.op = .store ty x y) (hg : oh.guard = none) {a : Act} {w : World} {R : Value → World → Prop}
    (h : wpList P ops (fun e _ w' => e = .normal ∧ R undef w') [oh] a w) : yield P oh a w R := by
  unfold wpList at h
  rw [if_pos (by simp [Region.wanted, hg])] at h
  rcases h with h | ⟨_, a', w', he, _⟩
  case inr => cases he
  unfold Oper.wp at h
  unfold yield
  have hex : execOp a.eval oh = (do Instr.storeAt ty (a.eval x) (a.eval y); pure .skip) := by simp [execOp, ho]
  rw [hex] at h ⊢
  simp only [Sem.run_bind] at h ⊢
  generalize (Instr.storeAt ty (a.eval x) (a.eval y)).run P w = r at *
  cases r with
  | ok n w' => simp [Oper.upon, yieldR, wpList] at h ⊢; exact h
  | halt e w' => cases e <;> simp [Oper.upon] at h
/-- What is known of a new box at any place. -/
def Got (g : List Value) (w : World) (lo : Nat) (cs : Array Value) (t : Nat) : Prop := ∀ v u, g = v :: u → ∃ b, v = .pointer (some ⟨b, 0, none⟩) ∧ lo ≤ b ∧ blk w b cs t
theorem Got.none (w : World) (lo : Nat) (cs : Array Value) (t : Nat) : Got [] w lo cs t := fun v u h => by cases h
theorem Got.later {g : List Value} {w w' : World} {lo : Nat} {cs : Array Value} {t : Nat} (h : Got g w lo cs t) (hb : Below w.heap.size w w') : Got g w' lo cs t := fun v u e => by
  obtain ⟨b, h1, h2, h3⟩ := h v u e; exact ⟨b, h1, h2, h3.later hb⟩
theorem Got.new {w : World} {lo : Nat} (cs : Array Value) (t : Nat) (h : lo ≤ w.heap.size) : Got [.pointer (some ⟨w.heap.size, 0, Option.none⟩)] (w.alloc (.cells cs t)) lo cs t := fun v u e => by
  cases e; exact ⟨_, rfl, h, blk_new _ _ _ _ rfl⟩
theorem Got.made {w : World} {lo b : Nat} {cs : Array Value} {t : Nat} (h : lo ≤ b) (hb : blk w b cs t) (u : List Value) : Got (.pointer (some ⟨b, 0, Option.none⟩) :: u) w lo cs t := fun v u e => by
  cases e; exact ⟨_, rfl, h, hb⟩
end
end Go.Proofs.Ytinjjaoikofkdaa

/- Drawn regions with operations that float among the others (new boxes, stores): the others in the order of a list. -/
namespace Go.Proofs.Ytinjjaoikofkdaa
set_option linter.unusedSimpArgs false
set_option linter.unusedVariables false
open Go Go.RowKit

section
variable {P : Program} {ops : Array Oper} {md : Region.Mode} {S : List Value → World → Prop}

/-- The act with the values of the floating operations. -/
def putsI (ops : Array Oper) : List Nat → Act → List Value → Act
  | _, a, [] => a
  | [], a, _ :: _ => a
  | i :: L, a, v :: g => putsI ops L (match ops[i]? with | some o => a.put o.dst v | none => a) g
theorem putsI_snoc : ∀ (g : List Value) (L : List Nat) (a : Act) (v : Value) (i : Nat) (o : Oper), L[g.length]? = some i → ops[i]? = some o → putsI ops L a (g ++ [v]) = (putsI ops L a g).put o.dst v
  | [], L, a, v, i, o, hL, h => by
    match L, hL with
    | k :: L, hL =>
      obtain rfl : k = i := by simpa using hL
      simp only [List.nil_append, putsI, h]
  | u :: g, L, a, v, i, o, hL, h => by
    match L, hL with
    | k :: L, hL =>
      simp only [List.cons_append, putsI]
      exact putsI_snoc g L _ v i o (by simpa using hL) h

def wpAnyI (P : Program) (md : Region.Mode) (ops : Array Oper) (S : List Value → World → Prop) (Sp : List Nat) (n : Nat) (af : Act) (L : Array Bool → List Value → Act → Prop) : Nat → Array Bool → List Value → Act → Prop
  | 0, listed, g, a => L listed g a
  | f + 1, listed, g, a => Region.ready md ops listed ≠ [] ∧ ∀ i ∈ Region.ready md ops listed, i < n ∧
      (i ∈ Sp → Sp[g.length]? = some i ∧ ∀ oi, ops[i]? = some oi → execOp a.eval oi = execOp (putsI ops Sp af g).eval oi ∧ ∀ v, wpAnyI P md ops S Sp n af L f (listed.setIfInBounds i true) (g ++ [v]) (a.put oi.dst v)) ∧
      (i ∉ Sp → stOpG P ops S i (wpAnyI P md ops S Sp n af L f (listed.setIfInBounds i true) g) a)

theorem wpOp_of_newI {i : Nat} {oh : Oper} (hh : ops[i]? = some oh) (hg : oh.guard = none) {a af : Act} {R : Value → World → Prop} (he : execOp a.eval oh = execOp af.eval oh) {w : World} (hA : yield P oh af w R)
    {K' : Act → World → Prop} {Q' : Exit → Act → World → Prop} (hK : ∀ v w', R v w' → K' (a.put oh.dst v) w') : wpOp P ops Q' i K' a w := by
  unfold wpOp
  simp only [hh]
  rw [if_pos (by simp [Region.wanted, hg])]
  refine .inl ?_
  have := hA
  unfold yield at this
  rw [← he] at this
  unfold Oper.wp
  generalize (execOp a.eval oh).run P w = r at *
  cases r with
  | ok n w' =>
    cases n <;> simp only [yieldR] at this <;> simp only [Oper.upon]
    case value u => exact hK _ _ this
    case skip => exact hK _ _ this
    case enter f args => exact this.mono fun e w'' ⟨u, he, h1⟩ => by subst he; exact hK _ _ h1
    case row row args => exact Rows.mono this fun u w'' h1 => hK _ _ h1
  | halt x w' => simp only [yieldR] at this

theorem wpAny_of_headI {Sp : List Nat} {n r : Nat} {af : Act} (hn : n ≤ ops.size) (hA : ∀ (g : List Value) (i : Nat) (oi : Oper) (w : World), Sp[g.length]? = some i → ops[i]? = some oi → S g w → oi.guard = none ∧ yield P oi (putsI ops Sp af g) w fun u w' => S (g ++ [u]) w')
    {L : Array Bool → List Value → Act → Prop} {Q' : Exit → Act → World → Prop} (hL : ∀ listed g a w, S g w → L listed g a → wpAny P md ops Q' r listed a w) :
    ∀ (f : Nat) (listed : Array Bool) (g : List Value) (a : Act) (w : World), S g w → wpAnyI P md ops S Sp n af L f listed g a → wpAny P md ops Q' (f + r) listed a w
  | 0, listed, g, a, w, hS, hw => by rw [Nat.zero_add]; exact hL _ _ _ _ hS hw
  | f + 1, listed, g, a, w, hS, hw => by
    rw [show f + 1 + r = (f + r) + 1 by omega]
    refine ⟨fun h0 => absurd h0 hw.1, fun i hi => ?_⟩
    obtain ⟨hin, h1, h2⟩ := hw.2 i hi
    by_cases e : i ∈ Sp
    · obtain ⟨hig, h3⟩ := h1 e
      obtain ⟨oi, hoi⟩ : ∃ oi, ops[i]? = some oi := ⟨ops[i]'(by omega), by rw [Array.getElem?_eq_getElem]⟩
      obtain ⟨hx, h4⟩ := h3 oi hoi
      obtain ⟨hg, hy⟩ := hA g i oi w hig hoi hS
      exact wpOp_of_newI hoi hg hx hy fun v w' hS' => wpAny_of_headI hn hA hL f _ _ _ _ hS' (h4 v)
    · exact wpOp_of_stOpG hS (fun a' w' hS' hw' => wpAny_of_headI hn hA hL f _ _ a' w' hS' hw') (h2 e)

theorem wpAnyI_first {Sp : List Nat} {n i : Nat} {af : Act} {oi : Oper} {v : Value} {L : Array Bool → List Value → Act → Prop} (hi : ops[i]? = some oi) (hih : i ∉ Sp) (hin : i < n)
    (hsel : ∀ (j : Nat) (o : Oper) cs b, ops[j]? = some o → o.op ≠ .select cs b)
    (hT : ∀ listed, HeadInv md ops n listed → ∀ i, i < n → listed.getD i true = false → ∀ j ∈ Region.ready md ops listed, j < n)
    (hdone : ∀ listed g a, L listed g a → ∀ j ∈ Region.ready md ops listed, n ≤ j) :
    ∀ (f : Nat) (listed : Array Bool) (g : List Value) (a : Act), HeadInv md ops n listed →
      (∀ j oj, ops[j]? = some oj → j ≠ i → listed.getD j true = false → (∀ e ∈ oj.after, Region.binds md e = true → e.on ≠ i) → oi.apart ops oj = true) →
      i ∈ Region.ready md ops listed → YieldsG P ops S oi v a →
      wpAnyI P md ops S Sp n af L f (listed.setIfInBounds i true) g (a.put oi.dst v) → wpAnyI P md ops S Sp n af L (f + 1) listed g a := by
  intro f
  have self : ∀ (K : Act → Prop) (a : Act), YieldsG P ops S oi v a → K (a.put oi.dst v) → stOpG P ops S i K a := fun K a hy hK => by unfold stOpG; simp only [hi]; exact ⟨v, hy, hK⟩
  induction f with
  | zero =>
    intro listed g a inv _ hr hy H
    have hun := (mem_ready.1 hr).1
    refine ⟨fun h => (by rw [h] at hr; cases hr), fun j hj => ?_⟩
    have hjn : j < n := hT listed inv i hin hun j hj
    by_cases hji : j = i
    · subst hji; exact ⟨hjn, fun e => absurd e hih, fun _ => self _ _ hy H⟩
    · have := hdone _ _ _ H j (ready_mono hj hji)
      omega
  | succ f ih =>
    intro listed g a inv hfree hr hy H
    have hun := (mem_ready.1 hr).1
    refine ⟨fun h => (by rw [h] at hr; cases hr), fun j hj => ?_⟩
    have hjn : j < n := hT listed inv i hin hun j hj
    refine ⟨hjn, ?_⟩
    by_cases hji : j = i
    · subst hji; exact ⟨fun e => absurd e hih, fun _ => self _ _ hy H⟩
    · obtain ⟨_, g1, g2⟩ := H.2 j (ready_mono hj hji)
      obtain ⟨hjun, oj, hoj, hall⟩ := mem_ready.1 hj
      have hnot : ∀ e ∈ oj.after, Region.binds md e = true → e.on ≠ i := fun e he hb heq => by
        have h1 := hall e he hb
        rw [heq, getD_both hun] at h1
        cases h1
      have hap := hfree j oj hoj hji hjun hnot
      have hfree' : ∀ k ok, ops[k]? = some ok → k ≠ i → (listed.setIfInBounds j true).getD k true = false →
          (∀ e ∈ ok.after, Region.binds md e = true → e.on ≠ i) → oi.apart ops ok = true := fun k ok hk hki hun hno => by
        refine hfree k ok hk hki ?_ hno
        by_cases hjk : j = k
        · subst hjk; exact hjun
        · rw [getD_set_ne true hjk] at hun; exact hun
      refine ⟨fun e => ?_, fun e => ?_⟩
      · obtain ⟨hg0, g1⟩ := g1 e
        refine ⟨hg0, fun o2 ho2 => ?_⟩
        obtain rfl : oj = o2 := by rw [hoj] at ho2; exact Option.some.inj ho2
        obtain ⟨gx, g1⟩ := g1 oj hoj
        obtain ⟨p1, p2, p3⟩ := Oper.apart_spec hap
        refine ⟨(execOp_put oj (fun cs b => hsel j oj cs b hoj) a oi.dst v p1).symm.trans gx, fun u => ?_⟩
        refine ih (listed.setIfInBounds j true) (g ++ [u]) _ (inv.set hj hjn) hfree' (ready_mono hr (Ne.symm hji)) (hy.of_same (execOp_put oi (fun cs b => hsel i oi cs b hi) a oj.dst u p3) (wanted_put oi a oj.dst u p3)) ?_
        rw [Array.setIfInBounds_comm _ _ hji, ← Act.put_comm a v u p2]
        exact g1 u
      · have h2 := stOpG_put hoj hap (fun cs b => hsel i oi cs b hi) (fun cs b => hsel j oj cs b hoj) hy (g2 e)
        refine stOpG_mono (fun a' h3 => ih (listed.setIfInBounds j true) g a' (inv.set hj hjn) hfree' (ready_mono hr (Ne.symm hji)) h3.1 ?_) h2
        rw [Array.setIfInBounds_comm _ _ hji]
        exact h3.2

/-- From here on one operation alone is ready each time, in the order of a list; then c. -/
def seqI (md : Region.Mode) (ops : Array Oper) (c : Array Bool → Bool) : List Nat → Array Bool → Bool
  | [], listed => c listed
  | k :: L, listed => decide (Region.ready md ops listed = [k]) && decide (k < ops.size) && seqI md ops c L (listed.setIfInBounds k true)
def lexI (md : Region.Mode) (ops : Array Oper) (c : Array Bool → Bool) : List Nat → Array Bool → Bool
  | [], listed => c listed
  | k :: L, listed => (Region.ready md ops listed).contains k && Region.free md ops listed k && lexI md ops c L (listed.setIfInBounds k true)

theorem wpAnyI_specials {Sp : List Nat} {n r : Nat} {af : Act} (hsp : ∀ i ∈ Sp, i < n) : ∀ (L : List Nat) (listed : Array Bool) (g : List Value), Sp.drop g.length = L → g.length ≤ Sp.length → seqI md ops (fun l => Region.seqB md ops r n l) L listed = true →
    wpAnyI P md ops S Sp n af (fun listed' g a' => Region.seqB md ops r n listed' = true ∧ g.length = Sp.length ∧ a' = putsI ops Sp af g) L.length listed g (putsI ops Sp af g)
  | [], listed, g, hL, hg, hB => ⟨hB, by have := congrArg List.length hL; rw [List.length_drop] at this; simp at this; omega, rfl⟩
  | k :: L, listed, g, hL, hg, hB => by
    simp only [seqI, Bool.and_eq_true, decide_eq_true_eq] at hB
    have hk : Sp[g.length]? = some k := by
      have := congrArg (fun l => l[0]?) hL
      simpa [List.getElem?_drop] using this
    have hmem : k ∈ Sp := List.mem_of_getElem? hk
    refine ⟨fun h0 => (by rw [hB.1.1] at h0; cases h0), fun i hi => ?_⟩
    rw [hB.1.1] at hi
    obtain rfl : i = k := by simpa using hi
    refine ⟨hsp i hmem, fun _ => ⟨hk, fun oi hoi => ⟨rfl, fun v => ?_⟩⟩, fun e => absurd hmem e⟩
    rw [← putsI_snoc g Sp af v i oi hk hoi]
    refine wpAnyI_specials hsp L _ (g ++ [v]) ?_ ?_ hB.2
    · rw [List.length_append, List.length_singleton, ← List.drop_drop, hL]; rfl
    · have := (List.getElem?_eq_some_iff.1 hk).1
      simp only [List.length_append, List.length_singleton]; omega

theorem wpAnyI_lex {Sp : List Nat} {n r : Nat} {af : Act} (hsp : ∀ i ∈ Sp, i < n) (g0 : List Value) (w0 : World) (hw0 : S g0 w0) (hsel : Region.noSelect ops = true) (hT : ∀ listed, HeadInv md ops n listed → ∀ i, i < n → listed.getD i true = false → ∀ j ∈ Region.ready md ops listed, j < n) :
    ∀ (I : List Nat) (l : List Oper) (listed : Array Bool) (a : Act), I.map (fun i => ops[i]?) = l.map some → (∀ i ∈ I, i ∉ Sp ∧ i < n) → HeadInv md ops n listed →
    lexI md ops (fun ls => seqI md ops (fun l => Region.seqB md ops r n l) Sp ls) I listed = true → wpTextG P S ops l a af →
    wpAnyI P md ops S Sp n af (fun listed' g a' => Region.seqB md ops r n listed' = true ∧ g.length = Sp.length ∧ a' = putsI ops Sp af g) (I.length + Sp.length) listed [] a
  | [], l, listed, a, hl, _, inv, hB, ht => by
    obtain rfl : l = [] := by cases l <;> simp_all
    simp only [lexI] at hB
    subst ht
    rw [List.length_nil, Nat.zero_add]
    have h0 : putsI ops Sp a [] = a := by cases Sp <;> rfl
    have := wpAnyI_specials (P := P) (S := S) (af := a) hsp Sp listed [] (by simp) (by simp) hB
    rwa [h0] at this
  | k :: I, l, listed, a, hl, hI, inv, hB, ht => by
    match l, hl, ht with
    | o :: l, hl, ht =>
      simp only [List.map_cons, List.cons.injEq] at hl
      obtain ⟨h0, hl⟩ := hl
      simp only [lexI, Bool.and_eq_true] at hB
      obtain ⟨⟨hr, hf⟩, hB'⟩ := hB
      have hr' : k ∈ Region.ready md ops listed := by simpa using hr
      obtain ⟨hk1, hk2⟩ := hI k (by simp)
      obtain ⟨a1, hd, hstep, hrest⟩ := ht
      obtain ⟨v, hy, rfl⟩ := yieldsG_of_text w0 g0 hw0 hd hstep
      rw [show (k :: I).length + Sp.length = (I.length + Sp.length) + 1 by simp only [List.length_cons]; omega]
      exact wpAnyI_first h0 hk1 hk2 (Region.noSelect_spec hsel) hT (fun listed' g a' hL => seqB_ready hL.1) _ listed [] a inv (Region.free_spec h0 hf) hr' hy
        (wpAnyI_lex hsp g0 w0 hw0 hsel hT I l _ _ hl (fun i hi => hI i (by simp [hi])) (inv.set hr' hk2) hB' hrest)

def newI (ops : Array Oper) (I Sp : List Nat) (n : Nat) : Bool :=
  Region.noSelect ops && decide (n ≤ ops.size) && Sp.all (fun i => decide (i < n)) && I.all (fun i => !Sp.contains i && decide (i < n)) && decide (I.length + Sp.length = n) && (decide (n = ops.size) || decide (n < ops.size) && Region.sinkB .any ops n && Region.chainB .any ops n) &&
    lexI .any ops (fun ls => seqI .any ops (fun l => Region.seqB .any ops (ops.size - n) n l) Sp ls) I (Array.replicate ops.size false)

/-- THE RULE WITH FLOATING OPERATIONS: those of I in this order; those of Sp at any time, in their order; from n on what stands behind all of them. -/
theorem wp_region_float {id : Nat} {Q : Exit → Act → World → Prop} {a af : Act} {w : World} {l : List Oper} (I Sp : List Nat) (n : Nat) (S : List Value → World → Prop) (hm : P.follows .mixedOrders = true) (hB : newI l.toArray I Sp n = true)
    (li : List Oper) (hli : I.map (fun i => l.toArray[i]?) = li.map some)
    (hA : ∀ (g : List Value) (i : Nat) (oi : Oper) (w : World), Sp[g.length]? = some i → l.toArray[i]? = some oi → S g w → oi.guard = none ∧ yield P oi (putsI l.toArray Sp af g) w fun u w' => S (g ++ [u]) w')
    (hS : S [] w.drew) (ht : wpTextG P S l.toArray li a af) (hQ : ∀ g w', g.length = Sp.length → S g w' → wpList P l.toArray Q (l.drop n) (putsI l.toArray Sp af g) w') : (Code.region id l.toArray true).wp P Q a w := by
  simp only [newI, Bool.and_eq_true, Bool.or_eq_true, decide_eq_true_eq, List.all_eq_true, Bool.not_eq_true'] at hB
  obtain ⟨⟨⟨⟨⟨⟨hsel, hn⟩, hsp⟩, hI⟩, hlen⟩, hs⟩, hlex⟩ := hB
  have hT : ∀ listed, HeadInv .any l.toArray n listed → ∀ i, i < n → listed.getD i true = false → ∀ j ∈ Region.ready .any l.toArray listed, j < n := fun listed inv i hin hun j hj => by
    rcases hs with hs | ⟨⟨hn', hs⟩, hc⟩
    · obtain ⟨_, oj, hoj, _⟩ := mem_ready.1 hj
      have := (Array.getElem?_eq_some_iff.1 hoj).1
      omega
    · rcases Nat.lt_or_ge j n with h' | h'
      · exact h'
      · exact absurd hj (tail_waits hs hc hn' inv _ i rfl hin hun j h')
  have hdl : (l.drop n).length = l.toArray.size - n := by simp
  have inv0 : HeadInv .any l.toArray n (Array.replicate l.toArray.size false) :=
    ⟨by simp, fun j oj _ hl => (by rw [getD_replicate_false] at hl; cases hl), fun t _ ht => getD_in (by simpa using ht) (getD_replicate_false _ _)⟩
  have H := wpAnyI_lex (md := .any) (r := l.toArray.size - n) hsp [] w.drew hS hsel hT I li _ a hli (fun i hi => ⟨by have := (hI i hi).1; simpa using this, (hI i hi).2⟩) inv0 hlex ht
  refine wp_region_any hm ?_
  have := wpAny_of_headI (S := S) (Q' := Q) (r := l.toArray.size - n) hn hA (fun listed g a' w' hS' hL => by
    obtain ⟨hB, hg, rfl⟩ := hL
    have h1 := wpAny_of_seq (P := P) (md := .any) (ops := l.toArray) (Q' := Q) (l.drop n) n listed _ w' (fun j => by simp) (by rw [hdl]; exact hB) (hQ g w' hg hS')
    rwa [hdl] at h1) (I.length + Sp.length) _ [] a w.drew hS H
  rw [hlen, show n + (l.toArray.size - n) = l.toArray.size by omega] at this
  exact this

/-- One operation floats. -/
theorem wp_region_float1 {id : Nat} {Q : Exit → Act → World → Prop} {a af : Act} {w : World} {l : List Oper} (I : List Nat) (s1 n : Nat) (o1 : Oper) (S : List Value → World → Prop) (hm : P.follows .mixedOrders = true) (hB : newI l.toArray I [s1] n = true)
    (h1 : l[s1]? = some o1) (hg1 : o1.guard = none) (hA : ∀ w, S [] w → yield P o1 af w fun u w' => S [u] w')
    (hS : S [] w.drew) (ht : wpTextG P S l.toArray (I.filterMap fun i => l[i]?) a af) (hQ : ∀ v w', S [v] w' → wpList P l.toArray Q (l.drop n) (af.put o1.dst v) w') : (Code.region id l.toArray true).wp P Q a w := by
  have h1' : l.toArray[s1]? = some o1 := by simpa using h1
  have hI : ∀ i ∈ I, i < l.length := by
    simp only [newI, Bool.and_eq_true, Bool.or_eq_true, decide_eq_true_eq, List.all_eq_true, Bool.not_eq_true'] at hB
    obtain ⟨⟨⟨⟨⟨⟨_, hn⟩, _⟩, hI⟩, _⟩, _⟩, _⟩ := hB
    exact fun i hi => by have := (hI i hi).2; have : n ≤ l.length := by simpa using hn
                         omega
  have hli : I.map (fun i => l.toArray[i]?) = (I.filterMap fun i => l[i]?).map some := by
    clear hB ht
    induction I with
    | nil => rfl
    | cons k I ih =>
      have hk := hI k (by simp)
      rw [List.map_cons, List.filterMap_cons, ih (fun i hi => hI i (by simp [hi]))]
      simp [hk]
  refine wp_region_float I [s1] n S hm hB _ hli (fun g i oi w hg hoi hS => ?_) hS ht fun g w' hg hS => ?_
  · match g, hg, hS with
    | [], hg, hS =>
      obtain rfl : s1 = i := by simpa using hg
      obtain rfl : o1 = oi := by rw [h1'] at hoi; exact Option.some.inj hoi
      exact ⟨hg1, hA w hS⟩
    | _ :: _, hg, _ => simp at hg
  · obtain ⟨v, rfl⟩ : ∃ v, g = [v] := List.length_eq_one_iff.1 (by simpa using hg)
    simp only [putsI, h1']
    exact hQ v w' hS
/-- Two operations float. -/
theorem wp_region_float2 {id : Nat} {Q : Exit → Act → World → Prop} {a af : Act} {w : World} {l : List Oper} (I : List Nat) (s1 s2 n : Nat) (o1 o2 : Oper) (S : List Value → World → Prop) (hm : P.follows .mixedOrders = true) (hB : newI l.toArray I [s1, s2] n = true)
    (h1 : l[s1]? = some o1) (hg1 : o1.guard = none) (h2 : l[s2]? = some o2) (hg2 : o2.guard = none) (hA : ∀ w, S [] w → yield P o1 af w fun u w' => S [u] w') (hA2 : ∀ v w, S [v] w → yield P o2 (af.put o1.dst v) w fun u w' => S [v, u] w')
    (hS : S [] w.drew) (ht : wpTextG P S l.toArray (I.filterMap fun i => l[i]?) a af) (hQ : ∀ v u w', S [v, u] w' → wpList P l.toArray Q (l.drop n) ((af.put o1.dst v).put o2.dst u) w') : (Code.region id l.toArray true).wp P Q a w := by
  have h1' : l.toArray[s1]? = some o1 := by simpa using h1
  have h2' : l.toArray[s2]? = some o2 := by simpa using h2
  have hI : ∀ i ∈ I, i < l.length := by
    simp only [newI, Bool.and_eq_true, Bool.or_eq_true, decide_eq_true_eq, List.all_eq_true, Bool.not_eq_true'] at hB
    obtain ⟨⟨⟨⟨⟨⟨_, hn⟩, _⟩, hI⟩, _⟩, _⟩, _⟩ := hB
    exact fun i hi => by have := (hI i hi).2; have : n ≤ l.length := by simpa using hn
                         omega
  have hli : I.map (fun i => l.toArray[i]?) = (I.filterMap fun i => l[i]?).map some := by
    clear hB ht
    induction I with
    | nil => rfl
    | cons k I ih =>
      have hk := hI k (by simp)
      rw [List.map_cons, List.filterMap_cons, ih (fun i hi => hI i (by simp [hi]))]
      simp [hk]
  refine wp_region_float I [s1, s2] n S hm hB _ hli (fun g i oi w hg hoi hS => ?_) hS ht fun g w' hg hS => ?_
  · match g, hg, hS with
    | [], hg, hS =>
      obtain rfl : s1 = i := by simpa using hg
      obtain rfl : o1 = oi := by rw [h1'] at hoi; exact Option.some.inj hoi
      exact ⟨hg1, hA w hS⟩
    | [v], hg, hS =>
      obtain rfl : s2 = i := by simpa using hg
      obtain rfl : o2 = oi := by rw [h2'] at hoi; exact Option.some.inj hoi
      simp only [putsI, h1']
      exact ⟨hg2, hA2 v w hS⟩
    | _ :: _ :: _, hg, _ => simp at hg
  · obtain ⟨v, u, rfl⟩ : ∃ v u, g = [v, u] := by
      match g, hg with
      | [v, u], _ => exact ⟨v, u, rfl⟩
    simp only [putsI, h1', h2']
    exact hQ v u w' hS
/-- Three operations float. -/
theorem wp_region_float3 {id : Nat} {Q : Exit → Act → World → Prop} {a af : Act} {w : World} {l : List Oper} (I : List Nat) (s1 s2 s3 n : Nat) (o1 o2 o3 : Oper) (S : List Value → World → Prop) (hm : P.follows .mixedOrders = true) (hB : newI l.toArray I [s1, s2, s3] n = true)
    (h1 : l[s1]? = some o1) (hg1 : o1.guard = none) (h2 : l[s2]? = some o2) (hg2 : o2.guard = none) (h3 : l[s3]? = some o3) (hg3 : o3.guard = none) (hA : ∀ w, S [] w → yield P o1 af w fun u w' => S [u] w') (hA2 : ∀ v w, S [v] w → yield P o2 (af.put o1.dst v) w fun u w' => S [v, u] w')
    (hA3 : ∀ v u w, S [v, u] w → yield P o3 ((af.put o1.dst v).put o2.dst u) w fun x w' => S [v, u, x] w')
    (hS : S [] w.drew) (ht : wpTextG P S l.toArray (I.filterMap fun i => l[i]?) a af) (hQ : ∀ v u x w', S [v, u, x] w' → wpList P l.toArray Q (l.drop n) (((af.put o1.dst v).put o2.dst u).put o3.dst x) w') : (Code.region id l.toArray true).wp P Q a w := by
  have h1' : l.toArray[s1]? = some o1 := by simpa using h1
  have h2' : l.toArray[s2]? = some o2 := by simpa using h2
  have h3' : l.toArray[s3]? = some o3 := by simpa using h3
  have hI : ∀ i ∈ I, i < l.length := by
    simp only [newI, Bool.and_eq_true, Bool.or_eq_true, decide_eq_true_eq, List.all_eq_true, Bool.not_eq_true'] at hB
    obtain ⟨⟨⟨⟨⟨⟨_, hn⟩, _⟩, hI⟩, _⟩, _⟩, _⟩ := hB
    exact fun i hi => by have := (hI i hi).2; have : n ≤ l.length := by simpa using hn
                         omega
  have hli : I.map (fun i => l.toArray[i]?) = (I.filterMap fun i => l[i]?).map some := by
    clear hB ht
    induction I with
    | nil => rfl
    | cons k I ih =>
      have hk := hI k (by simp)
      rw [List.map_cons, List.filterMap_cons, ih (fun i hi => hI i (by simp [hi]))]
      simp [hk]
  refine wp_region_float I [s1, s2, s3] n S hm hB _ hli (fun g i oi w hg hoi hS => ?_) hS ht fun g w' hg hS => ?_
  · match g, hg, hS with
    | [], hg, hS =>
      obtain rfl : s1 = i := by simpa using hg
      obtain rfl : o1 = oi := by rw [h1'] at hoi; exact Option.some.inj hoi
      exact ⟨hg1, hA w hS⟩
    | [v], hg, hS =>
      obtain rfl : s2 = i := by simpa using hg
      obtain rfl : o2 = oi := by rw [h2'] at hoi; exact Option.some.inj hoi
      simp only [putsI, h1']
      exact ⟨hg2, hA2 v w hS⟩
    | [v, u], hg, hS =>
      obtain rfl : s3 = i := by simpa using hg
      obtain rfl : o3 = oi := by rw [h3'] at hoi; exact Option.some.inj hoi
      simp only [putsI, h1', h2']
      exact ⟨hg3, hA3 v u w hS⟩
    | _ :: _ :: _ :: _, hg, _ => simp at hg
  · obtain ⟨v, u, x, rfl⟩ : ∃ v u x, g = [v, u, x] := by
      match g, hg with
      | [v, u, x], _ => exact ⟨v, u, x, rfl⟩
    simp only [putsI, h1', h2', h3']
    exact hQ v u x w' hS
end
end Go.Proofs.Ytinjjaoikofkdaa

/- A drawn region in which every operation may come as soon as its forerunners are there: what holds is told by which have been done and what they gave. -/
namespace Go.Proofs.Ytinjjaoikofkdaa
set_option linter.unusedSimpArgs false
set_option linter.unusedVariables false
open Go Go.RowKit

section
variable {P : Program}

/-- The act in which all operations of a list have given g. -/
def fullAct : List Oper → Nat → Act → (Nat → Value) → Act
  | [], _, a, _ => a
  | o :: l, k, a, g => fullAct l (k + 1) (a.put o.dst (g k)) g
theorem actput_size (a : Act) (d : Option Tmp) (v : Value) : (a.put d v).tmps.size = a.tmps.size := by cases d <;> simp [Act.put]
theorem actput_def (a : Act) (d : Option Tmp) (v : Value) : (a.put d v).defers = a.defers := by cases d <;> rfl
theorem actput_old {a : Act} {x : Option Tmp} {d : Tmp} (v : Value) (h : x ≠ some d) : (a.put x v).tmps.getD d undef = a.tmps.getD d undef := by
  cases x with
  | none => rfl
  | some e =>
    have : e ≠ d := fun h' => h (by rw [h'])
    simp [Act.put, Array.getD_eq_getD_getElem?, Array.getElem?_setIfInBounds_ne this]
theorem actput_new {a : Act} {d : Tmp} (v : Value) (h : d < a.tmps.size) : (a.put (some d) v).tmps.getD d undef = v := by simp [Act.put, h]
theorem full_size : ∀ (l : List Oper) (k : Nat) (a : Act) (g : Nat → Value), (fullAct l k a g).tmps.size = a.tmps.size
  | [], _, _, _ => rfl
  | o :: l, k, a, g => by rw [fullAct, full_size l, actput_size]
theorem full_def : ∀ (l : List Oper) (k : Nat) (a : Act) (g : Nat → Value), (fullAct l k a g).defers = a.defers
  | [], _, _, _ => rfl
  | o :: l, k, a, g => by rw [fullAct, full_def l, actput_def]
theorem full_old : ∀ (l : List Oper) (k : Nat) (a : Act) (g : Nat → Value) (d : Tmp), (∀ o ∈ l, o.dst ≠ some d) → (fullAct l k a g).tmps.getD d undef = a.tmps.getD d undef
  | [], _, _, _, _, _ => rfl
  | o :: l, k, a, g, d, h => by
    rw [fullAct, full_old l _ _ g d fun o' ho' => h o' (List.mem_cons_of_mem _ ho'), actput_old _ (h o (List.mem_cons_self ..))]
theorem full_new : ∀ (l : List Oper) (k : Nat) (a : Act) (g : Nat → Value) (d : Tmp) (j : Nat) (o : Oper), l[j]? = some o → o.dst = some d → d < a.tmps.size → (∀ j' o', l[j']? = some o' → j' ≠ j → o'.dst ≠ some d) → (fullAct l k a g).tmps.getD d undef = g (k + j)
  | x :: l, k, a, g, d, 0, o, hj, hd, hlt, hne => by
    obtain rfl : x = o := by simpa using hj
    rw [fullAct, full_old l _ _ g d fun o' ho' => by
      obtain ⟨i, hi⟩ := List.getElem?_of_mem ho'
      exact hne (i + 1) o' (by simpa using hi) (by omega), hd, actput_new _ hlt, Nat.add_zero]
  | x :: l, k, a, g, d, j + 1, o, hj, hd, hlt, hne => by
    rw [fullAct, full_new l (k + 1) _ g d j o (by simpa using hj) hd (by rw [actput_size]; exact hlt) fun j' o' h' hn => hne (j' + 1) o' (by simpa using h') (by omega), Nat.add_assoc, Nat.add_comm 1 j]
  | [], _, _, _, _, _, _, hj, _, _, _ => by simp at hj

/-- What the rule asks of a region: no guard; results in places of their own; forerunners stand ahead; what is read comes from a forerunner or was there. -/
def freeB (ops : Array Oper) (T : Nat) : Bool :=
  Region.noSelect ops && (List.range ops.size).all fun i => match ops[i]? with
    | none => true
    | some o => o.guard.isNone && (match o.dst with | some d => decide (d < T) && (List.range ops.size).all (fun j => match ops[j]? with | some o' => decide (j = i) || o'.dst != some d | none => true) | none => true) &&
        o.after.toList.all (fun e => !Region.binds .any e || decide (e.on < i)) &&
        (o.looksAt ops).all fun t => (List.range ops.size).all fun j => match ops[j]? with | some o' => o'.dst != some t || o.after.toList.any (fun e => Region.binds .any e && e.on == j) | none => true
structure FreeOp (ops : Array Oper) (T i : Nat) (o : Oper) : Prop where
  guard : o.guard = none
  lt : ∀ d, o.dst = some d → d < T
  own : ∀ d, o.dst = some d → ∀ j o', ops[j]? = some o' → j ≠ i → o'.dst ≠ some d
  ahead : ∀ e ∈ o.after, Region.binds .any e = true → e.on < i
  reads : ∀ t ∈ o.looksAt ops, ∀ j o', ops[j]? = some o' → o'.dst = some t → ∃ e ∈ o.after, Region.binds .any e = true ∧ e.on = j
theorem freeB_spec {ops : Array Oper} {T : Nat} (h : freeB ops T = true) {i : Nat} {o : Oper} (hi : ops[i]? = some o) : FreeOp ops T i o := by
  have hlt : ∀ {j o'}, ops[j]? = some o' → j < ops.size := fun h => (Array.getElem?_eq_some_iff.1 h).1
  simp only [freeB, Bool.and_eq_true, List.all_eq_true, List.mem_range] at h
  have h1 := h.2 i (hlt hi)
  simp only [hi, Bool.and_eq_true, Option.isNone_iff_eq_none, List.all_eq_true, List.mem_range] at h1
  obtain ⟨⟨⟨h2, h3⟩, h4⟩, h5⟩ := h1
  refine ⟨h2, fun d hd => ?_, fun d hd j o' hj hne => ?_, fun e he hb => ?_, fun t ht j o' hj hd => ?_⟩
  · simp only [hd, Bool.and_eq_true, decide_eq_true_eq] at h3; exact h3.1
  · simp only [hd, Bool.and_eq_true, decide_eq_true_eq, List.all_eq_true, List.mem_range] at h3
    have := h3.2 j (hlt hj)
    simp only [hj, Bool.or_eq_true, decide_eq_true_eq] at this
    rcases this with h | h
    · exact absurd h hne
    · simpa using h
  · have := h4 e (by simpa using he)
    simp only [hb, Bool.not_true, Bool.false_or, decide_eq_true_eq] at this
    exact this
  · have := h5 t ht j (hlt hj)
    simp only [hj, hd, bne_self_eq_false, Bool.false_or, List.any_eq_true, Bool.and_eq_true, beq_iff_eq] at this
    obtain ⟨e, he, h6⟩ := this
    exact ⟨e, by simpa using he, h6⟩

theorem wpOp_of_yield {ops : Array Oper} {i : Nat} {o : Oper} (ho : ops[i]? = some o) (hg : o.guard = none) {a a' : Act} (he : execOp a.eval o = execOp a'.eval o) {w : World} {R : Value → World → Prop} (hy : yield P o a' w R)
    {K : Act → World → Prop} {Q : Exit → Act → World → Prop} (h : ∀ u w', R u w' → K (a.put o.dst u) w') : wpOp P ops Q i K a w := by
  unfold wpOp
  simp only [ho]
  rw [if_pos (by simp [Region.wanted, hg])]
  refine .inl ?_
  unfold yield at hy
  rw [← he] at hy
  unfold Oper.wp
  generalize (execOp a.eval o).run P w = r at *
  cases r with
  | ok n w' =>
    cases n <;> simp only [yieldR] at hy <;> simp only [Oper.upon]
    case value u => exact h _ _ hy
    case skip => exact h _ _ hy
    case enter f args => exact hy.mono fun e w'' ⟨u, he, h1⟩ => by subst he; exact h _ _ h1
    case row row args => exact Rows.mono hy fun u w'' h1 => h _ _ h1
  | halt x w' => simp only [yieldR] at hy

/-- What holds between the operations. -/
def FInv (ops : Array Oper) (a0 : Act) (S : (Nat → Bool) → (Nat → Value) → World → Prop) (listed : Array Bool) (a : Act) (w : World) : Prop :=
  ∃ g : Nat → Value, a.defers = a0.defers ∧ a.tmps.size = a0.tmps.size ∧ (∀ i o d, ops[i]? = some o → o.dst = some d → listed.getD i false = true → a.tmps.getD d undef = g i) ∧
    (∀ d, (∀ i o, ops[i]? = some o → listed.getD i false = true → o.dst ≠ some d) → a.tmps.getD d undef = a0.tmps.getD d undef) ∧ S (fun i => listed.getD i false) g w

theorem all_listed {ops : Array Oper} {T : Nat} (hB : freeB ops T = true) {listed : Array Bool} (hsz : listed.size = ops.size) (h : Region.ready .any ops listed = []) : ∀ i, i < ops.size → listed.getD i false = true := by
  intro i
  induction i using Nat.strongRecOn with
  | ind i ih =>
    intro hi
    cases hl : listed.getD i false with
    | true => rfl
    | false =>
      exfalso
      have hi' : ops[i]? = some ops[i] := Array.getElem?_eq_getElem hi
      have : i ∈ Region.ready .any ops listed := mem_ready.2 ⟨by
        have hlt : i < listed.size := by omega
        simpa [Array.getD_eq_getD_getElem?, hlt] using hl, ops[i], hi', fun e he hb => by
        have h1 := (freeB_spec hB hi').ahead e he hb
        exact ih e.on h1 (by omega)⟩
      rw [h] at this
      cases this

theorem full_congr {l : List Oper} {a0 : Act} {S : (Nat → Bool) → (Nat → Value) → World → Prop} (hB : freeB l.toArray a0.tmps.size = true) {listed : Array Bool} {a : Act} {g : Nat → Value} {i : Nat} {o : Oper} (ho : l.toArray[i]? = some o)
    (hset : ∀ i o d, l.toArray[i]? = some o → o.dst = some d → listed.getD i false = true → a.tmps.getD d undef = g i)
    (hold : ∀ d, (∀ i o, l.toArray[i]? = some o → listed.getD i false = true → o.dst ≠ some d) → a.tmps.getD d undef = a0.tmps.getD d undef)
    (hpre : ∀ e ∈ o.after, Region.binds .any e = true → listed.getD e.on false = true) : execOp a.eval o = execOp (fullAct l 0 a0 g).eval o := by
  have hf := freeB_spec hB ho
  have hsel : ∀ cs b, o.op ≠ .select cs b := fun cs b => by
    simp only [freeB, Bool.and_eq_true] at hB
    exact Region.noSelect_spec hB.1 i o cs b ho
  refine execOp_congr o hsel fun x hx => ?_
  cases x with
  | tmp t =>
    have ht : t ∈ o.looksAt l.toArray := List.mem_append_left _ (List.mem_filterMap.2 ⟨.tmp t, by simpa using hx, rfl⟩)
    show a.tmps.getD t undef = (fullAct l 0 a0 g).tmps.getD t undef
    by_cases hw : ∃ (j : Nat) (o' : Oper), l.toArray[j]? = some o' ∧ o'.dst = some t
    · obtain ⟨j, o', hj, hd⟩ := hw
      obtain ⟨e, he, hb, rfl⟩ := hf.reads t ht j o' hj hd
      have hfj := freeB_spec hB hj
      rw [hset _ o' t hj hd (hpre e he hb), full_new l 0 a0 g t e.on o' (by simpa using hj) hd (hfj.lt t hd) fun j' o'' h' hn => hfj.own t hd j' o'' (by simpa using h') hn, Nat.zero_add]
    · rw [hold t fun j o' hj _ hd => hw ⟨j, o', hj, hd⟩, full_old l 0 a0 g t fun o' ho' hd => by
        obtain ⟨j, hj⟩ := List.getElem?_of_mem ho'
        exact hw ⟨j, o', by simpa using hj, hd⟩]
  | _ => rfl

/-- THE RULE. -/
theorem wp_region_free {id : Nat} {Q : Exit → Act → World → Prop} {a0 : Act} {w : World} {l : List Oper} (S : (Nat → Bool) → (Nat → Value) → World → Prop) (hm : P.follows .mixedOrders = true) (hB : freeB l.toArray a0.tmps.size = true)
    (g0 : Nat → Value) (hS : S (fun _ => false) g0 w.drew)
    (hstep : ∀ i o, l[i]? = some o → ∀ D g w, D i = false → (∀ e ∈ o.after, Region.binds .any e = true → D e.on = true) → S D g w → yield P o (fullAct l 0 a0 g) w fun u w' => S (fun j => if j = i then true else D j) (fun j => if j = i then u else g j) w')
    (hQ : ∀ D g w, (∀ i, i < l.length → D i = true) → S D g w → Q .normal (fullAct l 0 a0 g) w) : (Code.region id l.toArray true).wp P Q a0 w := by
  refine wp_region_any hm ?_
  have hend : ∀ listed a w, listed.size = l.toArray.size → FInv l.toArray a0 S listed a w → Region.ready .any l.toArray listed = [] → Q .normal a w := by
    intro listed a w hsz ⟨g, h1, h2, h3, h4, h5⟩ hr
    have hall := all_listed hB hsz hr
    have : a = fullAct l 0 a0 g := by
      obtain ⟨tm, df⟩ := a
      have e1 : tm = (fullAct l 0 a0 g).tmps := by
        apply Array.ext
        · rw [full_size]; exact h2
        · intro d hd hd'
          have e : tm.getD d undef = (fullAct l 0 a0 g).tmps.getD d undef := by
            by_cases hw : ∃ (j : Nat) (o' : Oper), l.toArray[j]? = some o' ∧ o'.dst = some d
            · obtain ⟨j, o', hj, hdd⟩ := hw
              have hfj := freeB_spec hB hj
              rw [show tm.getD d undef = g j from h3 j o' d hj hdd (hall j (Array.getElem?_eq_some_iff.1 hj).1), full_new l 0 a0 g d j o' (by simpa using hj) hdd (hfj.lt d hdd) fun j' o'' h' hn => hfj.own d hdd j' o'' (by simpa using h') hn, Nat.zero_add]
            · rw [show tm.getD d undef = a0.tmps.getD d undef from h4 d fun j o' hj _ hdd => hw ⟨j, o', hj, hdd⟩, full_old l 0 a0 g d fun o' ho' hdd => by
                obtain ⟨j, hj⟩ := List.getElem?_of_mem ho'
                exact hw ⟨j, o', by simpa using hj, hdd⟩]
          simpa [Array.getD_eq_getD_getElem?, hd, hd'] using e
      have e2 : df = (fullAct l 0 a0 g).defers := by rw [full_def]; exact h1
      rw [e1, e2]
    rw [this]
    exact hQ _ g w (fun i hi => hall i (by simpa using hi)) h5
  have main : ∀ (fuel : Nat) (listed : Array Bool) (a : Act) (w : World), listed.size = l.toArray.size → ((List.range l.toArray.size).filter fun i => !listed.getD i false).length ≤ fuel → FInv l.toArray a0 S listed a w → wpAny P .any l.toArray Q fuel listed a w := by
    intro fuel
    induction fuel with
    | zero =>
      intro listed a w hsz hc hI
      have hnil : Region.ready .any l.toArray listed = [] := by
        rw [List.eq_nil_iff_forall_not_mem]
        intro i hi
        obtain ⟨h0, o, ho, _⟩ := mem_ready.1 hi
        have hlt := (Array.getElem?_eq_some_iff.1 ho).1
        have : i ∈ (List.range l.toArray.size).filter fun i => !listed.getD i false := by
          rw [List.mem_filter]
          refine ⟨List.mem_range.2 hlt, ?_⟩
          have hlt' : i < listed.size := by omega
          simpa [Array.getD_eq_getD_getElem?, hlt'] using h0
        rw [List.eq_nil_of_length_eq_zero (Nat.le_zero.1 hc)] at this
        cases this
      exact ⟨hnil, hend listed a w hsz hI hnil⟩
    | succ fuel ih =>
      intro listed a w hsz hc hI
      refine ⟨hend listed a w hsz hI, fun i hi => ?_⟩
      obtain ⟨h0, o, ho, hpre⟩ := mem_ready.1 hi
      have hlt := (Array.getElem?_eq_some_iff.1 ho).1
      have hf := freeB_spec hB ho
      obtain ⟨g, h1, h2, h3, h4, h5⟩ := hI
      have hlt' : i < listed.size := by omega
      have h0' : listed.getD i false = false := by simpa [Array.getD_eq_getD_getElem?, hlt'] using h0
      have hD : ∀ j, (listed.setIfInBounds i true).getD j false = if j = i then true else listed.getD j false := fun j => by
        by_cases hj : j = i
        · subst hj; simp [Array.getD_eq_getD_getElem?, hlt']
        · rw [if_neg hj, getD_set_ne false (Ne.symm hj)]
      refine wpOp_of_yield ho hf.guard (full_congr (S := S) hB ho h3 h4 hpre) (hstep i o (by simpa using ho) _ g w h0' hpre h5) fun u w' hS' => ?_
      refine ih _ _ w' (by simpa using hsz) ?_ ⟨fun j => if j = i then u else g j, by rw [actput_def]; exact h1, by rw [actput_size]; exact h2, fun j o' d hj hd hl => ?_, fun d hd => ?_, ?_⟩
      · have e : ((List.range l.toArray.size).filter fun j => !(listed.setIfInBounds i true).getD j false) = ((List.range l.toArray.size).filter fun j => !listed.getD j false).filter fun j => !decide (j = i) := by
          rw [List.filter_filter]
          congr 1
          funext j
          rw [hD j]
          by_cases hj : j = i <;> simp [hj]
        rw [e]
        have := (List.length_filter_lt_length_iff_exists (p := fun j => !decide (j = i)) (l := (List.range l.toArray.size).filter fun j => !listed.getD j false)).2 ⟨i, List.mem_filter.2 ⟨List.mem_range.2 hlt, by simp [h0']⟩, by simp⟩
        omega
      · rw [hD j] at hl
        by_cases hj' : j = i
        · subst hj'
          obtain rfl : o = o' := by rw [ho] at hj; exact Option.some.inj hj
          show _ = if j = j then u else g j
          rw [hd, if_pos rfl, actput_new _ (by rw [h2]; exact hf.lt d hd)]
        · rw [if_neg hj'] at hl
          show _ = if j = i then u else g j
          rw [if_neg hj', actput_old _ fun h => (freeB_spec hB hj).own d hd i o ho (Ne.symm hj') h]
          exact h3 j o' d hj hd hl
      · rw [actput_old _ (hd i o ho (by rw [hD i, if_pos rfl]))]
        exact h4 d fun j o' hj hl => hd j o' hj (by
          rw [hD j]
          by_cases hj' : j = i
          · rw [if_pos hj']
          · rw [if_neg hj']; exact hl)
      · have e : (fun j => (listed.setIfInBounds i true).getD j false) = fun j => if j = i then true else listed.getD j false := funext hD
        rw [e]; exact hS'
  have e0 : ∀ i, (Array.replicate l.toArray.size false).getD i false = false := fun i => by
    simp only [Array.getD_eq_getD_getElem?, Array.getElem?_replicate]
    split <;> rfl
  refine main _ _ _ _ (by simp) (by
    refine Nat.le_trans (List.length_filter_le _ _) ?_
    simp) ⟨g0, rfl, rfl, fun i o d _ _ h => ?_, fun _ _ => rfl, ?_⟩
  · rw [e0 i] at h; cases h
  · rw [show (fun i => (Array.replicate l.toArray.size false).getD i false) = fun _ => false from funext e0]
    exact hS
end
end Go.Proofs.Ytinjjaoikofkdaa

