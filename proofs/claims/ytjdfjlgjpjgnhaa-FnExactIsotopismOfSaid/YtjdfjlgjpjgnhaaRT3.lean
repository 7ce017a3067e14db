/- A drawn region with a new box among its operations: the box may be made at any time, so its place is not known ahead; all else in the order of the text, what stands behind the box comes last. -/
import Derived.Test.YtjdfjlgjpjgnhaaRT2
namespace Go.Proofs.Ytjdfjlgjpjgnhaa
open Go Go.RowKit

section
variable {P : Program} {ops : Array Oper} {md : Region.Mode} {S : List Value → World → Prop}

/-- One value in each world that meets S; S is kept. -/
def YieldsG (P : Program) (ops : Array Oper) (S : List Value → World → Prop) (o : Oper) (v : Value) (a : Act) : Prop :=
  (Region.wanted o (yielded ops a.tmps) = true ∧ ∀ g w, S g w → yield P o a w fun u w' => (o.dst ≠ none → u = v) ∧ S g w') ∨ (Region.wanted o (yielded ops a.tmps) = false ∧ v = undef)
theorem YieldsG.of_same {o : Oper} {v : Value} {a a' : Act} (hy : YieldsG P ops S o v a) (he : execOp a'.eval o = execOp a.eval o)
    (hw : Region.wanted o (yielded ops a'.tmps) = Region.wanted o (yielded ops a.tmps)) : YieldsG P ops S o v a' := by
  unfold YieldsG yield at *
  rw [he, hw]
  exact hy

def stOpG (P : Program) (ops : Array Oper) (S : List Value → World → Prop) (i : Nat) (K : Act → Prop) (a : Act) : Prop :=
  match ops[i]? with
  | none => K a
  | some o => ∃ v, YieldsG P ops S o v a ∧ K (a.put o.dst v)
theorem stOpG_mono {i : Nat} {a : Act} {K K' : Act → Prop} (h : ∀ a, K a → K' a) (hh : stOpG P ops S i K a) : stOpG P ops S i K' a := by
  unfold stOpG at *
  split
  · exact h _ (by simpa [*] using hh)
  · rename_i o ho
    simp only [ho] at hh
    obtain ⟨v, h1, h2⟩ := hh
    exact ⟨v, h1, h _ h2⟩

theorem wpOp_of_stOpG {i : Nat} {a : Act} {w : World} {K : Act → Prop} {K' : Act → World → Prop} {Q' : Exit → Act → World → Prop} {g : List Value} (hS : S g w) (h : ∀ a w, S g w → K a → K' a w) (hh : stOpG P ops S i K a) : wpOp P ops Q' i K' a w := by
  unfold stOpG at hh
  unfold wpOp
  split
  · rename_i ho; simp only [ho] at hh; exact h _ _ hS hh
  · rename_i o ho
    simp only [ho] at hh
    obtain ⟨v, hy, hK⟩ := hh
    rcases hy with ⟨hw, hy⟩ | ⟨hw, rfl⟩
    · rw [if_pos hw]
      refine .inl ?_
      have := hy g w hS
      unfold yield at this
      unfold Oper.wp
      generalize (execOp a.eval o).run P w = r at *
      cases r with
      | ok n w' =>
        cases n <;> simp only [yieldR] at this <;> simp only [Oper.upon]
        case value u => rw [put_none a o u v this.1]; exact h _ _ this.2 hK
        case skip => rw [put_none a o _ v this.1]; exact h _ _ this.2 hK
        case enter f args =>
          exact this.mono fun e w'' ⟨u, he, h1, h2⟩ => by subst he; show K' (a.put o.dst u) w''; rw [put_none a o u v h1]; exact h _ _ h2 hK
        case row row args =>
          exact Rows.mono this fun u w'' ⟨h1, h2⟩ => by rw [put_none a o u v h1]; exact h _ _ h2 hK
      | halt x w' => simp only [yieldR] at this
    · rw [if_neg (by simp [hw])]
      exact h _ _ hS hK

theorem stOpG_put {j : Nat} {oi oj : Oper} {v : Value} (hj : ops[j]? = some oj) (hap : oi.apart ops oj = true)
    (hsi : ∀ cs b, oi.op ≠ .select cs b) (hsj : ∀ cs b, oj.op ≠ .select cs b) {K : Act → Prop} {a : Act}
    (hy : YieldsG P ops S oi v a) (h : stOpG P ops S j K (a.put oi.dst v)) :
    stOpG P ops S j (fun a' => YieldsG P ops S oi v a' ∧ K (a'.put oi.dst v)) a := by
  obtain ⟨h1, h2, h3⟩ := Oper.apart_spec hap
  unfold stOpG at *
  simp only [hj] at *
  obtain ⟨u, hu, hK⟩ := h
  refine ⟨u, hu.of_same (execOp_put oj hsj a oi.dst v h1).symm (wanted_put oj a oi.dst v h1).symm, hy.of_same (execOp_put oi hsi a oj.dst u h3) (wanted_put oi a oj.dst u h3), ?_⟩
  rw [← Act.put_comm a v u h2]
  exact hK

/-- In the order of the text, each operation walked by itself in a world of which S alone is known. -/
def TQG (S : List Value → World → Prop) (g : List Value) (a1 : Act) : Exit → Act → World → Prop := fun e a' w' => e = .normal ∧ a' = a1 ∧ S g w'
def wpTextG (P : Program) (S : List Value → World → Prop) (ops : Array Oper) : List Oper → Act → Act → Prop
  | [], a, af => a = af
  | o :: rest, a, af => ∃ a1, dstOk o a a1 = true ∧ (∀ g w, S g w → wpList P ops (TQG S g a1) [o] a w) ∧ wpTextG P S ops rest a1 af

theorem wpTextG_nil {a : Act} : wpTextG P S ops [] a a := rfl
theorem wpTextG_cons {o : Oper} {rest : List Oper} {a a1 af : Act} (hs : ∀ g w, S g w → wpList P ops (TQG S g a1) [o] a w) (hd : dstOk o a a1 = true) (h : wpTextG P S ops rest a1 af) : wpTextG P S ops (o :: rest) a af :=
  ⟨a1, hd, hs, h⟩

theorem put_valG {a a1 : Act} {o : Oper} {u : Value} (hd : dstOk o a a1 = true) (h : a.put o.dst u = a1) : (o.dst ≠ none → u = (match o.dst with | some d => a1.tmps.getD d undef | none => undef)) := by
  intro hne
  subst h
  cases hd' : o.dst with
  | none => exact absurd hd' hne
  | some d =>
    simp [dstOk, hd'] at hd
    simp [Act.put, hd.1]

theorem yieldsG_of_text {o : Oper} {a a1 : Act} (w0 : World) (g0 : List Value) (hw0 : S g0 w0) (hd : dstOk o a a1 = true) (hs : ∀ g w, S g w → wpList P ops (TQG S g a1) [o] a w) : ∃ v, YieldsG P ops S o v a ∧ a1 = a.put o.dst v := by
  by_cases hw : Region.wanted o (yielded ops a.tmps) = true
  · have key : ∀ g w, S g w → yield P o a w fun u w' => a.put o.dst u = a1 ∧ S g w' := by
      intro g w hS
      have h := hs g w hS
      unfold wpList at h
      rw [if_pos hw] at h
      rcases h with h | ⟨_, a', w', he, _⟩
      case inr => cases he
      unfold Oper.wp at h
      unfold yield
      generalize (execOp a.eval o).run P w = r at *
      cases r with
      | ok n w' =>
        cases n <;> simp only [Oper.upon, wpList, TQG, true_and] at h <;> simp only [yieldR]
        case value u => exact h
        case skip => exact h
        case defer d =>
          have h1 := congrArg (fun a => a.defers.length) h.1
          simp [dstOk] at hd
          cases hdd : o.dst <;> simp [Act.put, hdd] at h1 <;> omega
        case enter f args =>
          refine h.mono fun e w'' he => ?_
          cases e with
          | returned u => exact ⟨u, rfl, he⟩
          | panicked c => cases he.1
          | outgrown => obtain ⟨_, _, h, _⟩ := he; cases h
        case row row args => exact h
      | halt x w' => cases x <;> simp [Oper.upon, TQG] at h
    refine ⟨match o.dst with | some d => a1.tmps.getD d undef | none => undef, .inl ⟨hw, fun g w hS => ?_⟩, ?_⟩
    · have h := key g w hS
      unfold yield at *
      generalize (execOp a.eval o).run P w = r at *
      cases r with
      | ok n w' =>
        cases n <;> simp only [yieldR] at h ⊢
        case value u => exact ⟨put_valG hd h.1, h.2⟩
        case skip => exact ⟨put_valG hd h.1, h.2⟩
        case enter f args => exact h.mono fun e w'' ⟨u, he, h1, h2⟩ => ⟨u, he, put_valG hd h1, h2⟩
        case row row args => exact Rows.mono h fun u w'' ⟨h1, h2⟩ => ⟨put_valG hd h1, h2⟩
      | halt x w' => simp only [yieldR] at h
    · have h := key g0 w0 hw0
      have hex : ∃ u, a.put o.dst u = a1 := by
        unfold yield at h
        generalize (execOp a.eval o).run P w0 = r at *
        cases r with
        | ok n w' =>
          cases n <;> simp only [yieldR] at h
          case value u => exact ⟨u, h.1⟩
          case skip => exact ⟨_, h.1⟩
          case enter f args => obtain ⟨_, _, u, _, h1, _⟩ := Calls.some h; exact ⟨u, h1⟩
          case row row args => obtain ⟨u, _, h1, _⟩ := Rows.some h; exact ⟨u, h1⟩
        | halt x w' => simp only [yieldR] at h
      obtain ⟨u, hu⟩ := hex
      rw [← put_none a o u _ (put_valG hd hu), hu]
  · have hw' : Region.wanted o (yielded ops a.tmps) = false := by simpa using hw
    refine ⟨undef, .inr ⟨hw', rfl⟩, ?_⟩
    have h := hs g0 w0 hw0
    unfold wpList at h
    rw [if_neg hw] at h
    simp only [wpList, TQG, true_and] at h
    exact h.1.symm


/-- The act with the values of the operations from k on. -/
def puts (ops : Array Oper) : Nat → Act → List Value → Act
  | _, a, [] => a
  | k, a, v :: g => puts ops (k + 1) (match ops[k]? with | some o => a.put o.dst v | none => a) g
theorem puts_snoc : ∀ (g : List Value) (k : Nat) (a : Act) (v : Value) (o : Oper), ops[k + g.length]? = some o → puts ops k a (g ++ [v]) = (puts ops k a g).put o.dst v
  | [], k, a, v, o, h => by simp only [List.length_nil, Nat.add_zero] at h; simp [puts, h]
  | u :: g, k, a, v, o, h => by
    simp only [List.cons_append, puts]
    exact puts_snoc g (k + 1) _ v o (by rw [← h]; congr 1; simp only [List.length_cons]; omega)

def wpAnyG (P : Program) (md : Region.Mode) (ops : Array Oper) (S : List Value → World → Prop) (h n : Nat) (af : Act) (L : Array Bool → List Value → Act → Prop) : Nat → Array Bool → List Value → Act → Prop
  | 0, listed, g, a => L listed g a
  | f + 1, listed, g, a => Region.ready md ops listed ≠ [] ∧ ∀ i ∈ Region.ready md ops listed, i < n ∧
      (h ≤ i → i = h + g.length ∧ ∀ oi, ops[i]? = some oi → execOp a.eval oi = execOp (puts ops h af g).eval oi ∧ ∀ v, wpAnyG P md ops S h n af L f (listed.setIfInBounds i true) (g ++ [v]) (a.put oi.dst v)) ∧
      (i < h → stOpG P ops S i (wpAnyG P md ops S h n af L f (listed.setIfInBounds i true) g) a)

theorem wpOp_of_new {i : Nat} {oh : Oper} (hh : ops[i]? = some oh) (hg : oh.guard = none) {a af : Act} {R : Value → World → Prop} (he : execOp a.eval oh = execOp af.eval oh) {w : World} (hA : yield P oh af w R)
    {K' : Act → World → Prop} {Q' : Exit → Act → World → Prop} (hK : ∀ v w', R v w' → K' (a.put oh.dst v) w') : wpOp P ops Q' i K' a w := by
  unfold wpOp
  simp only [hh]
  rw [if_pos (by simp [Region.wanted, hg])]
  refine .inl ?_
  have := hA
  unfold yield at this
  rw [← he] at this
  unfold Oper.wp
  generalize (execOp a.eval oh).run P w = r at *
  cases r with
  | ok n w' =>
    cases n <;> simp only [yieldR] at this <;> simp only [Oper.upon]
    case value u => exact hK _ _ this
    case skip => exact hK _ _ this
    case enter f args => exact this.mono fun e w'' ⟨u, he, h1⟩ => by subst he; exact hK _ _ h1
    case row row args => exact Rows.mono this fun u w'' h1 => hK _ _ h1
  | halt x w' => simp only [yieldR] at this

theorem wpAny_of_headG {h n r : Nat} {af : Act} (hn : n ≤ ops.size) (hA : ∀ (g : List Value) (oi : Oper) (w : World), h + g.length < n → ops[h + g.length]? = some oi → S g w → oi.guard = none ∧ yield P oi (puts ops h af g) w fun u w' => S (g ++ [u]) w')
    {L : Array Bool → List Value → Act → Prop} {Q' : Exit → Act → World → Prop} (hL : ∀ listed g a w, S g w → L listed g a → wpAny P md ops Q' r listed a w) :
    ∀ (f : Nat) (listed : Array Bool) (g : List Value) (a : Act) (w : World), S g w → wpAnyG P md ops S h n af L f listed g a → wpAny P md ops Q' (f + r) listed a w
  | 0, listed, g, a, w, hS, hw => by rw [Nat.zero_add]; exact hL _ _ _ _ hS hw
  | f + 1, listed, g, a, w, hS, hw => by
    rw [show f + 1 + r = (f + r) + 1 by omega]
    refine ⟨fun h0 => absurd h0 hw.1, fun i hi => ?_⟩
    obtain ⟨hin, h1, h2⟩ := hw.2 i hi
    by_cases e : h ≤ i
    · obtain ⟨hig, h3⟩ := h1 e
      obtain ⟨oi, hoi⟩ : ∃ oi, ops[i]? = some oi := ⟨ops[i]'(by omega), by rw [Array.getElem?_eq_getElem]⟩
      obtain ⟨hx, h4⟩ := h3 oi hoi
      obtain ⟨hg, hy⟩ := hA g oi w (by omega) (by rw [← hig]; exact hoi) hS
      exact wpOp_of_new hoi hg hx hy fun v w' hS' => wpAny_of_headG hn hA hL f _ _ _ _ hS' (h4 v)
    · exact wpOp_of_stOpG hS (fun a' w' hS' hw' => wpAny_of_headG hn hA hL f _ _ a' w' hS' hw') (h2 (by omega))

theorem wpAnyG_first {h n i : Nat} {af : Act} {oi : Oper} {v : Value} {L : Array Bool → List Value → Act → Prop} (hi : ops[i]? = some oi) (hih : i < h) (hhn : h ≤ n)
    (hsel : ∀ (j : Nat) (o : Oper) cs b, ops[j]? = some o → o.op ≠ .select cs b)
    (hs : Region.sinkB md ops n = true) (hc : Region.chainB md ops n = true) (hn : n < ops.size)
    (hdone : ∀ listed g a, L listed g a → ∀ j ∈ Region.ready md ops listed, n ≤ j) :
    ∀ (f : Nat) (listed : Array Bool) (g : List Value) (a : Act), HeadInv md ops n listed →
      (∀ j oj, ops[j]? = some oj → j ≠ i → listed.getD j true = false → (∀ e ∈ oj.after, Region.binds md e = true → e.on ≠ i) → oi.apart ops oj = true) →
      i ∈ Region.ready md ops listed → YieldsG P ops S oi v a →
      wpAnyG P md ops S h n af L f (listed.setIfInBounds i true) g (a.put oi.dst v) → wpAnyG P md ops S h n af L (f + 1) listed g a := by
  intro f
  have self : ∀ (K : Act → Prop) (a : Act), YieldsG P ops S oi v a → K (a.put oi.dst v) → stOpG P ops S i K a := fun K a hy hK => by unfold stOpG; simp only [hi]; exact ⟨v, hy, hK⟩
  induction f with
  | zero =>
    intro listed g a inv _ hr hy H
    have hun := (mem_ready.1 hr).1
    refine ⟨fun h => (by rw [h] at hr; cases hr), fun j hj => ?_⟩
    have hjn : j < n := by
      rcases Nat.lt_or_ge j n with h' | h'
      · exact h'
      · exact absurd hj (tail_waits hs hc hn inv _ i rfl (by omega) hun j h')
    by_cases hji : j = i
    · subst hji; exact ⟨hjn, fun e => absurd e (by omega), fun _ => self _ _ hy H⟩
    · have := hdone _ _ _ H j (ready_mono hj hji)
      omega
  | succ f ih =>
    intro listed g a inv hfree hr hy H
    have hun := (mem_ready.1 hr).1
    refine ⟨fun h => (by rw [h] at hr; cases hr), fun j hj => ?_⟩
    have hjn : j < n := by
      rcases Nat.lt_or_ge j n with h' | h'
      · exact h'
      · exact absurd hj (tail_waits hs hc hn inv _ i rfl (by omega) hun j h')
    refine ⟨hjn, ?_⟩
    by_cases hji : j = i
    · subst hji; exact ⟨fun e => absurd e (by omega), fun _ => self _ _ hy H⟩
    · obtain ⟨_, g1, g2⟩ := H.2 j (ready_mono hj hji)
      obtain ⟨hjun, oj, hoj, hall⟩ := mem_ready.1 hj
      have hnot : ∀ e ∈ oj.after, Region.binds md e = true → e.on ≠ i := fun e he hb heq => by
        have h1 := hall e he hb
        rw [heq, getD_both hun] at h1
        cases h1
      have hap := hfree j oj hoj hji hjun hnot
      have hfree' : ∀ k ok, ops[k]? = some ok → k ≠ i → (listed.setIfInBounds j true).getD k true = false →
          (∀ e ∈ ok.after, Region.binds md e = true → e.on ≠ i) → oi.apart ops ok = true := fun k ok hk hki hun hno => by
        refine hfree k ok hk hki ?_ hno
        by_cases hjk : j = k
        · subst hjk; exact hjun
        · rw [getD_set_ne true hjk] at hun; exact hun
      refine ⟨fun e => ?_, fun e => ?_⟩
      · obtain ⟨hg0, g1⟩ := g1 e
        refine ⟨hg0, fun o2 ho2 => ?_⟩
        obtain rfl : oj = o2 := by rw [hoj] at ho2; exact Option.some.inj ho2
        obtain ⟨gx, g1⟩ := g1 oj hoj
        obtain ⟨p1, p2, p3⟩ := Oper.apart_spec hap
        refine ⟨(execOp_put oj (fun cs b => hsel j oj cs b hoj) a oi.dst v p1).symm.trans gx, fun u => ?_⟩
        refine ih (listed.setIfInBounds j true) (g ++ [u]) _ (inv.set hj hjn) hfree' (ready_mono hr (Ne.symm hji)) (hy.of_same (execOp_put oi (fun cs b => hsel i oi cs b hi) a oj.dst u p3) (wanted_put oi a oj.dst u p3)) ?_
        rw [Array.setIfInBounds_comm _ _ hji, ← Act.put_comm a v u p2]
        exact g1 u
      · have h2 := stOpG_put hoj hap (fun cs b => hsel i oi cs b hi) (fun cs b => hsel j oj cs b hoj) hy (g2 e)
        refine stOpG_mono (fun a' h3 => ih (listed.setIfInBounds j true) g a' (inv.set hj hjn) hfree' (ready_mono hr (Ne.symm hji)) h3.1 ?_) h2
        rw [Array.setIfInBounds_comm _ _ hji]
        exact h3.2

theorem wpAnyG_specials {h n r : Nat} {af : Act} (hn : n ≤ ops.size) : ∀ (f : Nat) (listed : Array Bool) (g : List Value), h + g.length + f = n → Region.seqB md ops (r + f) (h + g.length) listed = true →
    wpAnyG P md ops S h n af (fun listed' g a' => Region.seqB md ops r n listed' = true ∧ h + g.length = n ∧ a' = puts ops h af g) f listed g (puts ops h af g)
  | 0, listed, g, hk, hB => ⟨by rw [← hk]; exact hB, by omega, rfl⟩
  | f + 1, listed, g, hk, hB => by
    rw [← Nat.add_assoc] at hB
    simp only [Region.seqB, Bool.and_eq_true, decide_eq_true_eq] at hB
    refine ⟨fun h0 => (by rw [hB.1] at h0; cases h0), fun i hi => ?_⟩
    rw [hB.1] at hi
    obtain rfl : i = h + g.length := by simpa using hi
    refine ⟨by omega, fun _ => ⟨rfl, fun oi hoi => ⟨rfl, fun v => ?_⟩⟩, fun e => absurd e (by omega)⟩
    rw [← puts_snoc g h af v oi hoi]
    exact wpAnyG_specials hn f _ (g ++ [v]) (by simp only [List.length_append, List.length_singleton]; omega) (by simp only [List.length_append, List.length_singleton]; exact hB.2)

theorem wpAnyG_lex {h n r : Nat} {af : Act} (hhn : h ≤ n) (g0 : List Value) (w0 : World) (hw0 : S g0 w0) (hsel : Region.noSelect ops = true) (hs : Region.sinkB md ops n = true) (hc : Region.chainB md ops n = true) (hn : n < ops.size) :
    ∀ (l : List Oper) (k : Nat) (listed : Array Bool) (a : Act), (∀ j, j < l.length → l[j]? = ops[k + j]?) → k + l.length = h → HeadInv md ops n listed →
    Region.lexHead md ops (r + (n - h)) l.length k listed = true → wpTextG P S ops l a af →
    wpAnyG P md ops S h n af (fun listed' g a' => Region.seqB md ops r n listed' = true ∧ h + g.length = n ∧ a' = puts ops h af g) (l.length + (n - h)) listed [] a
  | [], k, listed, a, _, hk, inv, hB, ht => by
    obtain rfl : k = h := by simpa using hk
    simp only [List.length_nil, Region.lexHead] at hB
    subst ht
    rw [List.length_nil, Nat.zero_add]
    exact wpAnyG_specials (by omega) (n - k) listed [] (by simp; omega) hB
  | o :: l, k, listed, a, hl, hk, inv, hB, ht => by
    have h0 : ops[k]? = some o := by simpa using (hl 0 (by simp)).symm
    simp only [List.length_cons] at hk hB ⊢
    rw [Region.lexHead] at hB
    simp only [Bool.and_eq_true] at hB
    obtain ⟨⟨hr, hf⟩, hB'⟩ := hB
    have hr' : k ∈ Region.ready md ops listed := by simpa using hr
    obtain ⟨a1, hd, hstep, hrest⟩ := ht
    obtain ⟨v, hy, rfl⟩ := yieldsG_of_text w0 g0 hw0 hd hstep
    rw [show l.length + 1 + (n - h) = (l.length + (n - h)) + 1 by omega]
    exact wpAnyG_first h0 (by omega) hhn (Region.noSelect_spec hsel) hs hc hn (fun listed' g a' hL => seqB_ready hL.1) _ listed [] a inv (Region.free_spec h0 hf) hr' hy
      (wpAnyG_lex hhn g0 w0 hw0 hsel hs hc hn l (k + 1) _ _ (fun j hj => by have := hl (j + 1) (by simp; omega); simpa [Nat.add_assoc, Nat.add_comm 1 j] using this) (by omega) (inv.set hr' (by omega)) hB' hrest)

def newB (ops : Array Oper) (h n : Nat) : Bool :=
  Region.noSelect ops && decide (n < ops.size) && decide (h ≤ n) && Region.sinkB .any ops n && Region.chainB .any ops n && Region.lexHead .any ops (ops.size - n + (n - h)) h 0 (Array.replicate ops.size false)

/-- THE RULE WITH NEW BOXES: the first h operations in the order of the text; those from h to n at any time, in their order; then what stands behind them. -/
theorem wp_region_text_new {id : Nat} {Q : Exit → Act → World → Prop} {a af : Act} {w : World} {l : List Oper} (h n : Nat) (S : List Value → World → Prop) (hm : P.follows .mixedOrders = true) (hB : newB l.toArray h n = true)
    (hA : ∀ (g : List Value) (oi : Oper) (w : World), h + g.length < n → l.toArray[h + g.length]? = some oi → S g w → oi.guard = none ∧ yield P oi (puts l.toArray h af g) w fun u w' => S (g ++ [u]) w')
    (hS : S [] w.drew) (ht : wpTextG P S l.toArray (l.take h) a af) (hQ : ∀ g w', h + g.length = n → S g w' → wpList P l.toArray Q (l.drop n) (puts l.toArray h af g) w') : (Code.region id l.toArray true).wp P Q a w := by
  simp only [newB, Bool.and_eq_true, decide_eq_true_eq] at hB
  obtain ⟨⟨⟨⟨⟨hsel, hn⟩, hhn⟩, hs⟩, hc⟩, hlex⟩ := hB
  have hn' : n < l.length := by simpa using hn
  have htl : (l.take h).length = h := by simp; omega
  have hdl : (l.drop n).length = l.toArray.size - n := by simp
  have inv0 : HeadInv .any l.toArray n (Array.replicate l.toArray.size false) :=
    ⟨by simp, fun j oj _ hl => (by rw [getD_replicate_false] at hl; cases hl), fun t _ ht => getD_in (by simpa using ht) (getD_replicate_false _ _)⟩
  have H := wpAnyG_lex (md := .any) (r := l.toArray.size - n) hhn [] w.drew hS hsel hs hc hn (l.take h) 0 _ a (fun j hj => by
    have hj' : j < h := by rw [htl] at hj; exact hj
    simp [hj']) (by simpa using htl) inv0 (by rw [htl]; exact hlex) ht
  refine wp_region_any hm ?_
  have := wpAny_of_headG (S := S) (Q' := Q) (r := l.toArray.size - n) (by omega) hA (fun listed g a' w' hS' hL => by
    obtain ⟨hB, hg, rfl⟩ := hL
    have h1 := wpAny_of_seq (P := P) (md := .any) (ops := l.toArray) (Q' := Q) (l.drop n) n listed _ w' (fun j => by simp) (by rw [hdl]; exact hB) (hQ g w' hg hS')
    rwa [hdl] at h1) ((l.take h).length + (n - h)) _ [] a w.drew hS H
  rw [htl, show h + (n - h) + (l.toArray.size - n) = l.toArray.size by omega] at this
  exact this

/-- One new box, or one store. -/
theorem wp_region_new1 {id : Nat} {Q : Exit → Act → World → Prop} {a af : Act} {w : World} {l : List Oper} (h : Nat) (o1 : Oper) (S : List Value → World → Prop) (hm : P.follows .mixedOrders = true) (hB : newB l.toArray h (h + 1) = true)
    (h1 : l[h]? = some o1) (hg1 : o1.guard = none) (hA : ∀ w, S [] w → yield P o1 af w fun u w' => S [u] w')
    (hS : S [] w.drew) (ht : wpTextG P S l.toArray (l.take h) a af) (hQ : ∀ v w', S [v] w' → wpList P l.toArray Q (l.drop (h + 1)) (af.put o1.dst v) w') : (Code.region id l.toArray true).wp P Q a w := by
  have h1' : l.toArray[h]? = some o1 := by simpa using h1
  refine wp_region_text_new h (h + 1) S hm hB (fun g oi w hg hoi hS => ?_) hS ht fun g w' hg hS => ?_
  · obtain rfl : g = [] := List.length_eq_zero_iff.1 (by omega)
    obtain rfl : o1 = oi := by rw [List.length_nil, Nat.add_zero, h1'] at hoi; exact Option.some.inj hoi
    exact ⟨hg1, hA w hS⟩
  · obtain ⟨v, rfl⟩ : ∃ v, g = [v] := List.length_eq_one_iff.1 (by omega)
    simp only [puts, h1']
    exact hQ v w' hS
/-- A new box and a store, or two boxes, .. -/
theorem wp_region_new2 {id : Nat} {Q : Exit → Act → World → Prop} {a af : Act} {w : World} {l : List Oper} (h : Nat) (o1 o2 : Oper) (S : List Value → World → Prop) (hm : P.follows .mixedOrders = true) (hB : newB l.toArray h (h + 2) = true)
    (h1 : l[h]? = some o1) (hg1 : o1.guard = none) (h2 : l[h + 1]? = some o2) (hg2 : o2.guard = none) (hA : ∀ w, S [] w → yield P o1 af w fun u w' => S [u] w') (hA2 : ∀ v w, S [v] w → yield P o2 (af.put o1.dst v) w fun u w' => S [v, u] w')
    (hS : S [] w.drew) (ht : wpTextG P S l.toArray (l.take h) a af) (hQ : ∀ v u w', S [v, u] w' → wpList P l.toArray Q (l.drop (h + 2)) ((af.put o1.dst v).put o2.dst u) w') : (Code.region id l.toArray true).wp P Q a w := by
  have h1' : l.toArray[h]? = some o1 := by simpa using h1
  have h2' : l.toArray[h + 1]? = some o2 := by simpa using h2
  refine wp_region_text_new h (h + 2) S hm hB (fun g oi w hg hoi hS => ?_) hS ht fun g w' hg hS => ?_
  · match g, hg, hoi, hS with
    | [], _, hoi, hS =>
      obtain rfl : o1 = oi := by rw [List.length_nil, Nat.add_zero, h1'] at hoi; exact Option.some.inj hoi
      exact ⟨hg1, hA w hS⟩
    | [v], _, hoi, hS =>
      obtain rfl : o2 = oi := by rw [List.length_singleton, h2'] at hoi; exact Option.some.inj hoi
      refine ⟨hg2, ?_⟩
      simp only [puts, h1']
      exact hA2 v w hS
    | _ :: _ :: _, hg, _, _ => simp only [List.length_cons] at hg; omega
  · match g, hg, hS with
    | [v, u], _, hS =>
      simp only [puts, h1', h2']
      exact hQ v u w' hS
    | [], hg, _ => simp only [List.length_nil] at hg; omega
    | [_], hg, _ => simp only [List.length_singleton] at hg; omega
    | _ :: _ :: _ :: _, hg, _ => simp only [List.length_cons] at hg; omega

/-! ### A new box of cells -/
theorem yield_alloc {oh : Oper} {ty : TypeId} (ho : oh.op = .alloc ty) {cs : Array Value} (hz : ∀ w, (zeroValue ty).run P w = .ok (.agg cs) w) {a : Act} {w : World} {R : Value → World → Prop}
    (hR : R (.pointer (some ⟨w.heap.size, 0, none⟩)) (w.alloc (.cells cs ty))) : yield P oh a w R := by
  unfold yield
  simp [execOp, ho, Instr.alloc, hz, newVar, newRow, Value.cells, yieldR, hR]
theorem yield_store {oh : Oper} {ty : TypeId} {x y : Operand} (ho : oh.op = .store ty x y) (hg : oh.guard = none) {a : Act} {w : World} {R : Value → World → Prop}
    (h : wpList P ops (fun e _ w' => e = .normal ∧ R undef w') [oh] a w) : yield P oh a w R := by
  unfold wpList at h
  rw [if_pos (by simp [Region.wanted, hg])] at h
  rcases h with h | ⟨_, a', w', he, _⟩
  case inr => cases he
  unfold Oper.wp at h
  unfold yield
  have hex : execOp a.eval oh = (do Instr.storeAt ty (a.eval x) (a.eval y); pure .skip) := by simp [execOp, ho]
  rw [hex] at h ⊢
  simp only [Sem.run_bind] at h ⊢
  generalize (Instr.storeAt ty (a.eval x) (a.eval y)).run P w = r at *
  cases r with
  | ok n w' => simp [Oper.upon, yieldR, wpList] at h ⊢; exact h
  | halt e w' => cases e <;> simp [Oper.upon] at h
/-- What is known of a new box at any place. -/
def Got (g : List Value) (w : World) (lo : Nat) (cs : Array Value) (t : Nat) : Prop := ∀ v u, g = v :: u → ∃ b, v = .pointer (some ⟨b, 0, none⟩) ∧ lo ≤ b ∧ blk w b cs t
theorem Got.none (w : World) (lo : Nat) (cs : Array Value) (t : Nat) : Got [] w lo cs t := fun v u h => by cases h
theorem Got.later {g : List Value} {w w' : World} {lo : Nat} {cs : Array Value} {t : Nat} (h : Got g w lo cs t) (hb : Below w.heap.size w w') : Got g w' lo cs t := fun v u e => by
  obtain ⟨b, h1, h2, h3⟩ := h v u e; exact ⟨b, h1, h2, h3.later hb⟩
theorem Got.new {w : World} {lo : Nat} (cs : Array Value) (t : Nat) (h : lo ≤ w.heap.size) : Got [.pointer (some ⟨w.heap.size, 0, Option.none⟩)] (w.alloc (.cells cs t)) lo cs t := fun v u e => by
  cases e; exact ⟨_, rfl, h, blk_new _ _ _ _ rfl⟩
theorem Got.made {w : World} {lo b : Nat} {cs : Array Value} {t : Nat} (h : lo ≤ b) (hb : blk w b cs t) (u : List Value) : Got (.pointer (some ⟨b, 0, Option.none⟩) :: u) w lo cs t := fun v u e => by
  cases e; exact ⟨_, rfl, h, hb⟩
end
end Go.Proofs.Ytjdfjlgjpjgnhaa
