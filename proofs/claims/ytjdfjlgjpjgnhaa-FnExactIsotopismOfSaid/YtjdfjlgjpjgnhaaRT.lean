/- A region that draws its order may be walked in the order of its text, where each operation gives one value in whatever world that meets a condition, and keeps the condition. -/
import Derived.Test.YtjdfjlgjpjgnhaaK
import Derived.Still
namespace Go.Proofs.Ytjdfjlgjpjgnhaa
open Go

section
variable {P : Program} {ops : Array Oper} {md : Region.Mode} {S : World → Prop}

/-- What an operation gives, and in which world. -/
def yieldR (P : Program) (o : Oper) (R : Value → World → Prop) : Result Next → Prop
  | .ok (.value u) w' => R u w'
  | .ok .skip w' => R undef w'
  | .ok (.enter f args) w' => Calls P f args w' fun e w'' => ∃ u, e = .returned u ∧ R u w''
  | .ok (.row row args) w' => Rows P row args w' R
  | _ => False
def yield (P : Program) (o : Oper) (a : Act) (w : World) (R : Value → World → Prop) : Prop := yieldR P o R ((execOp a.eval o).run P w)

/-- One value in each world that meets S; S is kept. -/
def YieldsS (P : Program) (ops : Array Oper) (S : World → Prop) (o : Oper) (v : Value) (a : Act) : Prop :=
  (Region.wanted o (yielded ops a.tmps) = true ∧ ∀ w, S w → yield P o a w fun u w' => (o.dst ≠ none → u = v) ∧ S w') ∨ (Region.wanted o (yielded ops a.tmps) = false ∧ v = undef)
theorem YieldsS.of_same {o : Oper} {v : Value} {a a' : Act} (hy : YieldsS P ops S o v a) (he : execOp a'.eval o = execOp a.eval o)
    (hw : Region.wanted o (yielded ops a'.tmps) = Region.wanted o (yielded ops a.tmps)) : YieldsS P ops S o v a' := by
  unfold YieldsS yield at *
  rw [he, hw]
  exact hy

def stOpT (P : Program) (ops : Array Oper) (S : World → Prop) (i : Nat) (K : Act → Prop) (a : Act) : Prop :=
  match ops[i]? with
  | none => K a
  | some o => ∃ v, YieldsS P ops S o v a ∧ K (a.put o.dst v)
theorem stOpT_mono {i : Nat} {a : Act} {K K' : Act → Prop} (h : ∀ a, K a → K' a) (hh : stOpT P ops S i K a) : stOpT P ops S i K' a := by
  unfold stOpT at *
  split
  · exact h _ (by simpa [*] using hh)
  · rename_i o ho
    simp only [ho] at hh
    obtain ⟨v, h1, h2⟩ := hh
    exact ⟨v, h1, h _ h2⟩

def wpAnyT (P : Program) (md : Region.Mode) (ops : Array Oper) (S : World → Prop) (Q : Act → Prop) : Nat → Array Bool → Act → Prop
  | 0, listed, a => Region.ready md ops listed = [] ∧ Q a
  | fuel + 1, listed, a => (Region.ready md ops listed = [] → Q a) ∧ ∀ i ∈ Region.ready md ops listed, stOpT P ops S i (wpAnyT P md ops S Q fuel (listed.setIfInBounds i true)) a

theorem put_none (a : Act) (o : Oper) (u v : Value) (h : o.dst ≠ none → u = v) : a.put o.dst u = a.put o.dst v := by
  cases hd : o.dst with
  | none => rfl
  | some d => rw [h (by simp [hd])]

theorem wpOp_of_stOpT {i : Nat} {a : Act} {w : World} {K : Act → Prop} {K' : Act → World → Prop} {Q' : Exit → Act → World → Prop} (hS : S w) (h : ∀ a w, S w → K a → K' a w) (hh : stOpT P ops S i K a) : wpOp P ops Q' i K' a w := by
  unfold stOpT at hh
  unfold wpOp
  split
  · rename_i ho; simp only [ho] at hh; exact h _ _ hS hh
  · rename_i o ho
    simp only [ho] at hh
    obtain ⟨v, hy, hK⟩ := hh
    rcases hy with ⟨hw, hy⟩ | ⟨hw, rfl⟩
    · rw [if_pos hw]
      refine .inl ?_
      have := hy w hS
      unfold yield at this
      unfold Oper.wp
      generalize (execOp a.eval o).run P w = r at *
      cases r with
      | ok n w' =>
        cases n <;> simp only [yieldR] at this <;> simp only [Oper.upon]
        case value u => rw [put_none a o u v this.1]; exact h _ _ this.2 hK
        case skip => rw [put_none a o _ v this.1]; exact h _ _ this.2 hK
        case enter f args =>
          exact this.mono fun e w'' ⟨u, he, h1, h2⟩ => by subst he; show K' (a.put o.dst u) w''; rw [put_none a o u v h1]; exact h _ _ h2 hK
        case row row args =>
          exact Rows.mono this fun u w'' ⟨h1, h2⟩ => by rw [put_none a o u v h1]; exact h _ _ h2 hK
      | halt x w' => simp only [yieldR] at this
    · rw [if_neg (by simp [hw])]
      exact h _ _ hS hK

theorem wpAny_of_T {Q : Act → Prop} {Q' : Exit → Act → World → Prop} (hQ : ∀ a w, S w → Q a → Q' .normal a w) : ∀ (fuel : Nat) (listed : Array Bool) (a : Act) (w : World), S w →
    wpAnyT P md ops S Q fuel listed a → wpAny P md ops Q' fuel listed a w
  | 0, _, _, _, hS, h => ⟨h.1, hQ _ _ hS h.2⟩
  | fuel + 1, _, _, _, hS, h => ⟨fun h0 => hQ _ _ hS (h.1 h0), fun i hi => wpOp_of_stOpT hS (fun a' w' hS' => wpAny_of_T hQ fuel _ a' w' hS') (h.2 i hi)⟩

theorem stOpT_put {j : Nat} {oi oj : Oper} {v : Value} (hj : ops[j]? = some oj) (hap : oi.apart ops oj = true)
    (hsi : ∀ cs b, oi.op ≠ .select cs b) (hsj : ∀ cs b, oj.op ≠ .select cs b) {K : Act → Prop} {a : Act}
    (hy : YieldsS P ops S oi v a) (h : stOpT P ops S j K (a.put oi.dst v)) :
    stOpT P ops S j (fun a' => YieldsS P ops S oi v a' ∧ K (a'.put oi.dst v)) a := by
  obtain ⟨h1, h2, h3⟩ := Oper.apart_spec hap
  unfold stOpT at *
  simp only [hj] at *
  obtain ⟨u, hu, hK⟩ := h
  refine ⟨u, hu.of_same (execOp_put oj hsj a oi.dst v h1).symm (wanted_put oj a oi.dst v h1).symm, hy.of_same (execOp_put oi hsi a oj.dst u h3) (wanted_put oi a oj.dst u h3), ?_⟩
  rw [← Act.put_comm a v u h2]
  exact hK

theorem wpAnyT_first {Q : Act → Prop} {i : Nat} {oi : Oper} {v : Value} (hi : ops[i]? = some oi) (hsel : ∀ (j : Nat) (o : Oper) cs b, ops[j]? = some o → o.op ≠ .select cs b) :
    ∀ (fuel : Nat) (listed : Array Bool) (a : Act),
      (∀ j oj, ops[j]? = some oj → j ≠ i → listed.getD j true = false → (∀ e ∈ oj.after, Region.binds md e = true → e.on ≠ i) → oi.apart ops oj = true) →
      i ∈ Region.ready md ops listed → YieldsS P ops S oi v a →
      wpAnyT P md ops S Q fuel (listed.setIfInBounds i true) (a.put oi.dst v) → wpAnyT P md ops S Q (fuel + 1) listed a := by
  intro fuel
  induction fuel with
  | zero =>
    intro listed a _ hr hy H
    refine ⟨fun h => (by rw [h] at hr; cases hr), fun j hj => ?_⟩
    by_cases hji : j = i
    · subst hji; unfold stOpT; simp only [hi]; exact ⟨v, hy, H⟩
    · have := ready_mono hj hji
      rw [H.1] at this
      cases this
  | succ fuel ih =>
    intro listed a hfree hr hy H
    refine ⟨fun h => (by rw [h] at hr; cases hr), fun j hj => ?_⟩
    by_cases hji : j = i
    · subst hji; unfold stOpT; simp only [hi]; exact ⟨v, hy, H⟩
    · have h1 := H.2 j (ready_mono hj hji)
      obtain ⟨hjun, oj, hoj, hall⟩ := mem_ready.1 hj
      have hnot : ∀ e ∈ oj.after, Region.binds md e = true → e.on ≠ i := fun e he hb heq => by
        have h1 := hall e he hb
        have h0 := (mem_ready.1 hr).1
        rw [heq] at h1
        rcases Nat.lt_or_ge i listed.size with h' | h'
        · simp [h'] at h0 h1; rw [h0] at h1; cases h1
        · simp [Array.getElem?_eq_none h'] at h1
      have h2 := stOpT_put hoj (hfree j oj hoj hji hjun hnot) (fun cs b => hsel i oi cs b hi) (fun cs b => hsel j oj cs b hoj) hy h1
      have hfree' : ∀ k ok, ops[k]? = some ok → k ≠ i → (listed.setIfInBounds j true).getD k true = false →
          (∀ e ∈ ok.after, Region.binds md e = true → e.on ≠ i) → oi.apart ops ok = true := fun k ok hk hki hun hno => by
        refine hfree k ok hk hki ?_ hno
        by_cases hjk : j = k
        · subst hjk; exact hjun
        · rw [getD_set_ne true hjk] at hun; exact hun
      refine stOpT_mono (fun a' h3 => ih (listed.setIfInBounds j true) a' hfree' (ready_mono hr (Ne.symm hji)) h3.1 ?_) h2
      rw [Array.setIfInBounds_comm _ _ hji]
      exact h3.2

/-- In the order of the text, each operation walked by itself in a world of which S alone is known. -/
def TQ (S : World → Prop) (a1 : Act) : Exit → Act → World → Prop := fun e a' w' => e = .normal ∧ a' = a1 ∧ S w'
def dstOk (o : Oper) (a a1 : Act) : Bool := (match o.dst with | some d => decide (d < a.tmps.size) | none => true) && (a.defers.length == a1.defers.length)
def wpText (P : Program) (S : World → Prop) (ops : Array Oper) : List Oper → Act → Act → Prop
  | [], a, af => a = af
  | o :: rest, a, af => ∃ a1, dstOk o a a1 = true ∧ (∀ w, S w → wpList P ops (TQ S a1) [o] a w) ∧ wpText P S ops rest a1 af

theorem wpText_nil {a : Act} : wpText P S ops [] a a := rfl
theorem wpText_cons {o : Oper} {rest : List Oper} {a a1 af : Act} (hs : ∀ w, S w → wpList P ops (TQ S a1) [o] a w) (hd : dstOk o a a1 = true) (h : wpText P S ops rest a1 af) : wpText P S ops (o :: rest) a af :=
  ⟨a1, hd, hs, h⟩

theorem Calls.some {P : Program} {f : FuncId} {args : Array Value} {w : World} {R : Ending → World → Prop} (h : Calls P f args w R) : ∃ e w', R e w' := by
  obtain ⟨e, w', _, hR, _⟩ := h []
  exact ⟨e, w', hR⟩
theorem Rows.some {P : Program} {f : String} {args : Array Value} {w : World} {R : Value → World → Prop} (h : Rows P f args w R) : ∃ e w', R e w' := by
  obtain ⟨v, w', hR, _⟩ := h default []
  exact ⟨v, w', hR⟩

theorem put_val {a a1 : Act} {o : Oper} {u : Value} (hd : dstOk o a a1 = true) (h : a.put o.dst u = a1) : (o.dst ≠ none → u = (match o.dst with | some d => a1.tmps.getD d undef | none => undef)) := by
  intro hne
  subst h
  cases hd' : o.dst with
  | none => exact absurd hd' hne
  | some d =>
    simp [dstOk, hd'] at hd
    simp [Act.put, hd.1]

theorem yields_of_text {o : Oper} {a a1 : Act} (w0 : World) (hw0 : S w0) (hd : dstOk o a a1 = true) (hs : ∀ w, S w → wpList P ops (TQ S a1) [o] a w) : ∃ v, YieldsS P ops S o v a ∧ a1 = a.put o.dst v := by
  by_cases hw : Region.wanted o (yielded ops a.tmps) = true
  · have key : ∀ w, S w → yield P o a w fun u w' => a.put o.dst u = a1 ∧ S w' := by
      intro w hS
      have h := hs w hS
      unfold wpList at h
      rw [if_pos hw] at h
      rcases h with h | ⟨_, a', w', he, _⟩
      case inr => cases he
      unfold Oper.wp at h
      unfold yield
      generalize (execOp a.eval o).run P w = r at *
      cases r with
      | ok n w' =>
        cases n <;> simp only [Oper.upon, wpList, TQ, true_and] at h <;> simp only [yieldR]
        case value u => exact h
        case skip => exact h
        case defer d =>
          have h1 := congrArg (fun a => a.defers.length) h.1
          simp [dstOk] at hd
          cases hdd : o.dst <;> simp [Act.put, hdd] at h1 <;> omega
        case enter f args =>
          refine h.mono fun e w'' he => ?_
          cases e with
          | returned u => exact ⟨u, rfl, he⟩
          | panicked c => cases he.1
          | outgrown => obtain ⟨_, _, h, _⟩ := he; cases h
        case row row args => exact h
      | halt x w' => cases x <;> simp [Oper.upon, TQ] at h
    refine ⟨match o.dst with | some d => a1.tmps.getD d undef | none => undef, .inl ⟨hw, fun w hS => ?_⟩, ?_⟩
    · have h := key w hS
      unfold yield at *
      generalize (execOp a.eval o).run P w = r at *
      cases r with
      | ok n w' =>
        cases n <;> simp only [yieldR] at h ⊢
        case value u => exact ⟨put_val hd h.1, h.2⟩
        case skip => exact ⟨put_val hd h.1, h.2⟩
        case enter f args => exact h.mono fun e w'' ⟨u, he, h1, h2⟩ => ⟨u, he, put_val hd h1, h2⟩
        case row row args => exact Rows.mono h fun u w'' ⟨h1, h2⟩ => ⟨put_val hd h1, h2⟩
      | halt x w' => simp only [yieldR] at h
    · have h := key w0 hw0
      have hex : ∃ u, a.put o.dst u = a1 := by
        unfold yield at h
        generalize (execOp a.eval o).run P w0 = r at *
        cases r with
        | ok n w' =>
          cases n <;> simp only [yieldR] at h
          case value u => exact ⟨u, h.1⟩
          case skip => exact ⟨_, h.1⟩
          case enter f args => obtain ⟨_, _, u, _, h1, _⟩ := Calls.some h; exact ⟨u, h1⟩
          case row row args => obtain ⟨u, _, h1, _⟩ := Rows.some h; exact ⟨u, h1⟩
        | halt x w' => simp only [yieldR] at h
      obtain ⟨u, hu⟩ := hex
      rw [← put_none a o u _ (put_val hd hu), hu]
  · have hw' : Region.wanted o (yielded ops a.tmps) = false := by simpa using hw
    refine ⟨undef, .inr ⟨hw', rfl⟩, ?_⟩
    have h := hs w0 hw0
    unfold wpList at h
    rw [if_neg hw] at h
    simp only [wpList, TQ, true_and] at h
    exact h.1.symm

theorem wpAnyT_lex {af : Act} (w0 : World) (hw0 : S w0) (hs : Region.noSelect ops = true) : ∀ (l : List Oper) (k : Nat) (listed : Array Bool) (a : Act), (∀ j, l[j]? = ops[k + j]?) →
    Region.lexFrom md ops l.length k listed = true → wpText P S ops l a af → wpAnyT P md ops S (fun a' => a' = af) l.length listed a
  | [], _, _, _, _, hB, h => ⟨by simpa [Region.lexFrom] using hB, h⟩
  | o :: l, k, listed, a, hl, hB, h => by
    have h0 : ops[k]? = some o := by simpa using (hl 0).symm
    simp only [List.length_cons, Region.lexFrom, Bool.and_eq_true] at hB
    obtain ⟨⟨hr, hf⟩, hB'⟩ := hB
    obtain ⟨a1, hd, hstep, hrest⟩ := h
    obtain ⟨v, hy, rfl⟩ := yields_of_text w0 hw0 hd hstep
    exact wpAnyT_first h0 (Region.noSelect_spec hs) l.length listed a (Region.free_spec h0 hf) (by simpa using hr) hy
      (wpAnyT_lex w0 hw0 hs l (k + 1) _ _ (fun j => by have := hl (j + 1); simpa [Nat.add_assoc, Nat.add_comm 1 j] using this) hB' hrest)

/-- THE RULE: a drawn region in the order of its text. -/
theorem wp_region_text {id : Nat} {Q : Exit → Act → World → Prop} {a af : Act} {w : World} {l : List Oper} (S : World → Prop) (hm : P.follows .mixedOrders = true) (hB : Region.lexB .any l.toArray = true)
    (hS : S w.drew) (h : wpText P S l.toArray l a af) (hQ : ∀ w', S w' → Q .normal af w') : (Code.region id l.toArray true).wp P Q a w := by
  simp only [Region.lexB, Bool.and_eq_true] at hB
  refine wp_region_any hm (wpAny_of_T (S := S) (Q := fun a' => a' = af) (fun a' w' hS' ha => by subst ha; exact hQ _ hS') _ _ _ _ hS ?_)
  have := wpAnyT_lex (md := .any) w.drew hS hB.1 l 0 (Array.replicate l.toArray.size false) a (by simp) (by simpa using hB.2) h
  simpa using this
end
end Go.Proofs.Ytjdfjlgjpjgnhaa
