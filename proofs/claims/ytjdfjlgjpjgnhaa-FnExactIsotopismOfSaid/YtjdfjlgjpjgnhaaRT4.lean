/- Drawn regions with operations that float among the others (new boxes, stores): the others in the order of a list. -/
import Derived.Test.YtjdfjlgjpjgnhaaRT3
namespace Go.Proofs.Ytjdfjlgjpjgnhaa
open Go Go.RowKit

section
variable {P : Program} {ops : Array Oper} {md : Region.Mode} {S : List Value → World → Prop}

/-- The act with the values of the floating operations. -/
def putsI (ops : Array Oper) : List Nat → Act → List Value → Act
  | _, a, [] => a
  | [], a, _ :: _ => a
  | i :: L, a, v :: g => putsI ops L (match ops[i]? with | some o => a.put o.dst v | none => a) g
theorem putsI_snoc : ∀ (g : List Value) (L : List Nat) (a : Act) (v : Value) (i : Nat) (o : Oper), L[g.length]? = some i → ops[i]? = some o → putsI ops L a (g ++ [v]) = (putsI ops L a g).put o.dst v
  | [], L, a, v, i, o, hL, h => by
    match L, hL with
    | k :: L, hL =>
      obtain rfl : k = i := by simpa using hL
      simp only [List.nil_append, putsI, h]
  | u :: g, L, a, v, i, o, hL, h => by
    match L, hL with
    | k :: L, hL =>
      simp only [List.cons_append, putsI]
      exact putsI_snoc g L _ v i o (by simpa using hL) h

def wpAnyI (P : Program) (md : Region.Mode) (ops : Array Oper) (S : List Value → World → Prop) (Sp : List Nat) (n : Nat) (af : Act) (L : Array Bool → List Value → Act → Prop) : Nat → Array Bool → List Value → Act → Prop
  | 0, listed, g, a => L listed g a
  | f + 1, listed, g, a => Region.ready md ops listed ≠ [] ∧ ∀ i ∈ Region.ready md ops listed, i < n ∧
      (i ∈ Sp → Sp[g.length]? = some i ∧ ∀ oi, ops[i]? = some oi → execOp a.eval oi = execOp (putsI ops Sp af g).eval oi ∧ ∀ v, wpAnyI P md ops S Sp n af L f (listed.setIfInBounds i true) (g ++ [v]) (a.put oi.dst v)) ∧
      (i ∉ Sp → stOpG P ops S i (wpAnyI P md ops S Sp n af L f (listed.setIfInBounds i true) g) a)

theorem wpOp_of_newI {i : Nat} {oh : Oper} (hh : ops[i]? = some oh) (hg : oh.guard = none) {a af : Act} {R : Value → World → Prop} (he : execOp a.eval oh = execOp af.eval oh) {w : World} (hA : yield P oh af w R)
    {K' : Act → World → Prop} {Q' : Exit → Act → World → Prop} (hK : ∀ v w', R v w' → K' (a.put oh.dst v) w') : wpOp P ops Q' i K' a w := by
  unfold wpOp
  simp only [hh]
  rw [if_pos (by simp [Region.wanted, hg])]
  refine .inl ?_
  have := hA
  unfold yield at this
  rw [← he] at this
  unfold Oper.wp
  generalize (execOp a.eval oh).run P w = r at *
  cases r with
  | ok n w' =>
    cases n <;> simp only [yieldR] at this <;> simp only [Oper.upon]
    case value u => exact hK _ _ this
    case skip => exact hK _ _ this
    case enter f args => exact this.mono fun e w'' ⟨u, he, h1⟩ => by subst he; exact hK _ _ h1
    case row row args => exact Rows.mono this fun u w'' h1 => hK _ _ h1
  | halt x w' => simp only [yieldR] at this

theorem wpAny_of_headI {Sp : List Nat} {n r : Nat} {af : Act} (hn : n ≤ ops.size) (hA : ∀ (g : List Value) (i : Nat) (oi : Oper) (w : World), Sp[g.length]? = some i → ops[i]? = some oi → S g w → oi.guard = none ∧ yield P oi (putsI ops Sp af g) w fun u w' => S (g ++ [u]) w')
    {L : Array Bool → List Value → Act → Prop} {Q' : Exit → Act → World → Prop} (hL : ∀ listed g a w, S g w → L listed g a → wpAny P md ops Q' r listed a w) :
    ∀ (f : Nat) (listed : Array Bool) (g : List Value) (a : Act) (w : World), S g w → wpAnyI P md ops S Sp n af L f listed g a → wpAny P md ops Q' (f + r) listed a w
  | 0, listed, g, a, w, hS, hw => by rw [Nat.zero_add]; exact hL _ _ _ _ hS hw
  | f + 1, listed, g, a, w, hS, hw => by
    rw [show f + 1 + r = (f + r) + 1 by omega]
    refine ⟨fun h0 => absurd h0 hw.1, fun i hi => ?_⟩
    obtain ⟨hin, h1, h2⟩ := hw.2 i hi
    by_cases e : i ∈ Sp
    · obtain ⟨hig, h3⟩ := h1 e
      obtain ⟨oi, hoi⟩ : ∃ oi, ops[i]? = some oi := ⟨ops[i]'(by omega), by rw [Array.getElem?_eq_getElem]⟩
      obtain ⟨hx, h4⟩ := h3 oi hoi
      obtain ⟨hg, hy⟩ := hA g i oi w hig hoi hS
      exact wpOp_of_newI hoi hg hx hy fun v w' hS' => wpAny_of_headI hn hA hL f _ _ _ _ hS' (h4 v)
    · exact wpOp_of_stOpG hS (fun a' w' hS' hw' => wpAny_of_headI hn hA hL f _ _ a' w' hS' hw') (h2 e)

theorem wpAnyI_first {Sp : List Nat} {n i : Nat} {af : Act} {oi : Oper} {v : Value} {L : Array Bool → List Value → Act → Prop} (hi : ops[i]? = some oi) (hih : i ∉ Sp) (hin : i < n)
    (hsel : ∀ (j : Nat) (o : Oper) cs b, ops[j]? = some o → o.op ≠ .select cs b)
    (hT : ∀ listed, HeadInv md ops n listed → ∀ i, i < n → listed.getD i true = false → ∀ j ∈ Region.ready md ops listed, j < n)
    (hdone : ∀ listed g a, L listed g a → ∀ j ∈ Region.ready md ops listed, n ≤ j) :
    ∀ (f : Nat) (listed : Array Bool) (g : List Value) (a : Act), HeadInv md ops n listed →
      (∀ j oj, ops[j]? = some oj → j ≠ i → listed.getD j true = false → (∀ e ∈ oj.after, Region.binds md e = true → e.on ≠ i) → oi.apart ops oj = true) →
      i ∈ Region.ready md ops listed → YieldsG P ops S oi v a →
      wpAnyI P md ops S Sp n af L f (listed.setIfInBounds i true) g (a.put oi.dst v) → wpAnyI P md ops S Sp n af L (f + 1) listed g a := by
  intro f
  have self : ∀ (K : Act → Prop) (a : Act), YieldsG P ops S oi v a → K (a.put oi.dst v) → stOpG P ops S i K a := fun K a hy hK => by unfold stOpG; simp only [hi]; exact ⟨v, hy, hK⟩
  induction f with
  | zero =>
    intro listed g a inv _ hr hy H
    have hun := (mem_ready.1 hr).1
    refine ⟨fun h => (by rw [h] at hr; cases hr), fun j hj => ?_⟩
    have hjn : j < n := hT listed inv i hin hun j hj
    by_cases hji : j = i
    · subst hji; exact ⟨hjn, fun e => absurd e hih, fun _ => self _ _ hy H⟩
    · have := hdone _ _ _ H j (ready_mono hj hji)
      omega
  | succ f ih =>
    intro listed g a inv hfree hr hy H
    have hun := (mem_ready.1 hr).1
    refine ⟨fun h => (by rw [h] at hr; cases hr), fun j hj => ?_⟩
    have hjn : j < n := hT listed inv i hin hun j hj
    refine ⟨hjn, ?_⟩
    by_cases hji : j = i
    · subst hji; exact ⟨fun e => absurd e hih, fun _ => self _ _ hy H⟩
    · obtain ⟨_, g1, g2⟩ := H.2 j (ready_mono hj hji)
      obtain ⟨hjun, oj, hoj, hall⟩ := mem_ready.1 hj
      have hnot : ∀ e ∈ oj.after, Region.binds md e = true → e.on ≠ i := fun e he hb heq => by
        have h1 := hall e he hb
        rw [heq, getD_both hun] at h1
        cases h1
      have hap := hfree j oj hoj hji hjun hnot
      have hfree' : ∀ k ok, ops[k]? = some ok → k ≠ i → (listed.setIfInBounds j true).getD k true = false →
          (∀ e ∈ ok.after, Region.binds md e = true → e.on ≠ i) → oi.apart ops ok = true := fun k ok hk hki hun hno => by
        refine hfree k ok hk hki ?_ hno
        by_cases hjk : j = k
        · subst hjk; exact hjun
        · rw [getD_set_ne true hjk] at hun; exact hun
      refine ⟨fun e => ?_, fun e => ?_⟩
      · obtain ⟨hg0, g1⟩ := g1 e
        refine ⟨hg0, fun o2 ho2 => ?_⟩
        obtain rfl : oj = o2 := by rw [hoj] at ho2; exact Option.some.inj ho2
        obtain ⟨gx, g1⟩ := g1 oj hoj
        obtain ⟨p1, p2, p3⟩ := Oper.apart_spec hap
        refine ⟨(execOp_put oj (fun cs b => hsel j oj cs b hoj) a oi.dst v p1).symm.trans gx, fun u => ?_⟩
        refine ih (listed.setIfInBounds j true) (g ++ [u]) _ (inv.set hj hjn) hfree' (ready_mono hr (Ne.symm hji)) (hy.of_same (execOp_put oi (fun cs b => hsel i oi cs b hi) a oj.dst u p3) (wanted_put oi a oj.dst u p3)) ?_
        rw [Array.setIfInBounds_comm _ _ hji, ← Act.put_comm a v u p2]
        exact g1 u
      · have h2 := stOpG_put hoj hap (fun cs b => hsel i oi cs b hi) (fun cs b => hsel j oj cs b hoj) hy (g2 e)
        refine stOpG_mono (fun a' h3 => ih (listed.setIfInBounds j true) g a' (inv.set hj hjn) hfree' (ready_mono hr (Ne.symm hji)) h3.1 ?_) h2
        rw [Array.setIfInBounds_comm _ _ hji]
        exact h3.2

/-- From here on one operation alone is ready each time, in the order of a list; then c. -/
def seqI (md : Region.Mode) (ops : Array Oper) (c : Array Bool → Bool) : List Nat → Array Bool → Bool
  | [], listed => c listed
  | k :: L, listed => decide (Region.ready md ops listed = [k]) && decide (k < ops.size) && seqI md ops c L (listed.setIfInBounds k true)
def lexI (md : Region.Mode) (ops : Array Oper) (c : Array Bool → Bool) : List Nat → Array Bool → Bool
  | [], listed => c listed
  | k :: L, listed => (Region.ready md ops listed).contains k && Region.free md ops listed k && lexI md ops c L (listed.setIfInBounds k true)

theorem wpAnyI_specials {Sp : List Nat} {n r : Nat} {af : Act} (hsp : ∀ i ∈ Sp, i < n) : ∀ (L : List Nat) (listed : Array Bool) (g : List Value), Sp.drop g.length = L → g.length ≤ Sp.length → seqI md ops (fun l => Region.seqB md ops r n l) L listed = true →
    wpAnyI P md ops S Sp n af (fun listed' g a' => Region.seqB md ops r n listed' = true ∧ g.length = Sp.length ∧ a' = putsI ops Sp af g) L.length listed g (putsI ops Sp af g)
  | [], listed, g, hL, hg, hB => ⟨hB, by have := congrArg List.length hL; rw [List.length_drop] at this; simp at this; omega, rfl⟩
  | k :: L, listed, g, hL, hg, hB => by
    simp only [seqI, Bool.and_eq_true, decide_eq_true_eq] at hB
    have hk : Sp[g.length]? = some k := by
      have := congrArg (fun l => l[0]?) hL
      simpa [List.getElem?_drop] using this
    have hmem : k ∈ Sp := List.mem_of_getElem? hk
    refine ⟨fun h0 => (by rw [hB.1.1] at h0; cases h0), fun i hi => ?_⟩
    rw [hB.1.1] at hi
    obtain rfl : i = k := by simpa using hi
    refine ⟨hsp i hmem, fun _ => ⟨hk, fun oi hoi => ⟨rfl, fun v => ?_⟩⟩, fun e => absurd hmem e⟩
    rw [← putsI_snoc g Sp af v i oi hk hoi]
    refine wpAnyI_specials hsp L _ (g ++ [v]) ?_ ?_ hB.2
    · rw [List.length_append, List.length_singleton, ← List.drop_drop, hL]; rfl
    · have := (List.getElem?_eq_some_iff.1 hk).1
      simp only [List.length_append, List.length_singleton]; omega

theorem wpAnyI_lex {Sp : List Nat} {n r : Nat} {af : Act} (hsp : ∀ i ∈ Sp, i < n) (g0 : List Value) (w0 : World) (hw0 : S g0 w0) (hsel : Region.noSelect ops = true) (hT : ∀ listed, HeadInv md ops n listed → ∀ i, i < n → listed.getD i true = false → ∀ j ∈ Region.ready md ops listed, j < n) :
    ∀ (I : List Nat) (l : List Oper) (listed : Array Bool) (a : Act), I.map (fun i => ops[i]?) = l.map some → (∀ i ∈ I, i ∉ Sp ∧ i < n) → HeadInv md ops n listed →
    lexI md ops (fun ls => seqI md ops (fun l => Region.seqB md ops r n l) Sp ls) I listed = true → wpTextG P S ops l a af →
    wpAnyI P md ops S Sp n af (fun listed' g a' => Region.seqB md ops r n listed' = true ∧ g.length = Sp.length ∧ a' = putsI ops Sp af g) (I.length + Sp.length) listed [] a
  | [], l, listed, a, hl, _, inv, hB, ht => by
    obtain rfl : l = [] := by cases l <;> simp_all
    simp only [lexI] at hB
    subst ht
    rw [List.length_nil, Nat.zero_add]
    have h0 : putsI ops Sp a [] = a := by cases Sp <;> rfl
    have := wpAnyI_specials (P := P) (S := S) (af := a) hsp Sp listed [] (by simp) (by simp) hB
    rwa [h0] at this
  | k :: I, l, listed, a, hl, hI, inv, hB, ht => by
    match l, hl, ht with
    | o :: l, hl, ht =>
      simp only [List.map_cons, List.cons.injEq] at hl
      obtain ⟨h0, hl⟩ := hl
      simp only [lexI, Bool.and_eq_true] at hB
      obtain ⟨⟨hr, hf⟩, hB'⟩ := hB
      have hr' : k ∈ Region.ready md ops listed := by simpa using hr
      obtain ⟨hk1, hk2⟩ := hI k (by simp)
      obtain ⟨a1, hd, hstep, hrest⟩ := ht
      obtain ⟨v, hy, rfl⟩ := yieldsG_of_text w0 g0 hw0 hd hstep
      rw [show (k :: I).length + Sp.length = (I.length + Sp.length) + 1 by simp only [List.length_cons]; omega]
      exact wpAnyI_first h0 hk1 hk2 (Region.noSelect_spec hsel) hT (fun listed' g a' hL => seqB_ready hL.1) _ listed [] a inv (Region.free_spec h0 hf) hr' hy
        (wpAnyI_lex hsp g0 w0 hw0 hsel hT I l _ _ hl (fun i hi => hI i (by simp [hi])) (inv.set hr' hk2) hB' hrest)

def newI (ops : Array Oper) (I Sp : List Nat) (n : Nat) : Bool :=
  Region.noSelect ops && decide (n ≤ ops.size) && Sp.all (fun i => decide (i < n)) && I.all (fun i => !Sp.contains i && decide (i < n)) && decide (I.length + Sp.length = n) && (decide (n = ops.size) || decide (n < ops.size) && Region.sinkB .any ops n && Region.chainB .any ops n) &&
    lexI .any ops (fun ls => seqI .any ops (fun l => Region.seqB .any ops (ops.size - n) n l) Sp ls) I (Array.replicate ops.size false)

/-- THE RULE WITH FLOATING OPERATIONS: those of I in this order; those of Sp at any time, in their order; from n on what stands behind all of them. -/
theorem wp_region_float {id : Nat} {Q : Exit → Act → World → Prop} {a af : Act} {w : World} {l : List Oper} (I Sp : List Nat) (n : Nat) (S : List Value → World → Prop) (hm : P.follows .mixedOrders = true) (hB : newI l.toArray I Sp n = true)
    (li : List Oper) (hli : I.map (fun i => l.toArray[i]?) = li.map some)
    (hA : ∀ (g : List Value) (i : Nat) (oi : Oper) (w : World), Sp[g.length]? = some i → l.toArray[i]? = some oi → S g w → oi.guard = none ∧ yield P oi (putsI l.toArray Sp af g) w fun u w' => S (g ++ [u]) w')
    (hS : S [] w.drew) (ht : wpTextG P S l.toArray li a af) (hQ : ∀ g w', g.length = Sp.length → S g w' → wpList P l.toArray Q (l.drop n) (putsI l.toArray Sp af g) w') : (Code.region id l.toArray true).wp P Q a w := by
  simp only [newI, Bool.and_eq_true, Bool.or_eq_true, decide_eq_true_eq, List.all_eq_true, Bool.not_eq_true'] at hB
  obtain ⟨⟨⟨⟨⟨⟨hsel, hn⟩, hsp⟩, hI⟩, hlen⟩, hs⟩, hlex⟩ := hB
  have hT : ∀ listed, HeadInv .any l.toArray n listed → ∀ i, i < n → listed.getD i true = false → ∀ j ∈ Region.ready .any l.toArray listed, j < n := fun listed inv i hin hun j hj => by
    rcases hs with hs | ⟨⟨hn', hs⟩, hc⟩
    · obtain ⟨_, oj, hoj, _⟩ := mem_ready.1 hj
      have := (Array.getElem?_eq_some_iff.1 hoj).1
      omega
    · rcases Nat.lt_or_ge j n with h' | h'
      · exact h'
      · exact absurd hj (tail_waits hs hc hn' inv _ i rfl hin hun j h')
  have hdl : (l.drop n).length = l.toArray.size - n := by simp
  have inv0 : HeadInv .any l.toArray n (Array.replicate l.toArray.size false) :=
    ⟨by simp, fun j oj _ hl => (by rw [getD_replicate_false] at hl; cases hl), fun t _ ht => getD_in (by simpa using ht) (getD_replicate_false _ _)⟩
  have H := wpAnyI_lex (md := .any) (r := l.toArray.size - n) hsp [] w.drew hS hsel hT I li _ a hli (fun i hi => ⟨by have := (hI i hi).1; simpa using this, (hI i hi).2⟩) inv0 hlex ht
  refine wp_region_any hm ?_
  have := wpAny_of_headI (S := S) (Q' := Q) (r := l.toArray.size - n) hn hA (fun listed g a' w' hS' hL => by
    obtain ⟨hB, hg, rfl⟩ := hL
    have h1 := wpAny_of_seq (P := P) (md := .any) (ops := l.toArray) (Q' := Q) (l.drop n) n listed _ w' (fun j => by simp) (by rw [hdl]; exact hB) (hQ g w' hg hS')
    rwa [hdl] at h1) (I.length + Sp.length) _ [] a w.drew hS H
  rw [hlen, show n + (l.toArray.size - n) = l.toArray.size by omega] at this
  exact this

/-- One operation floats. -/
theorem wp_region_float1 {id : Nat} {Q : Exit → Act → World → Prop} {a af : Act} {w : World} {l : List Oper} (I : List Nat) (s1 n : Nat) (o1 : Oper) (S : List Value → World → Prop) (hm : P.follows .mixedOrders = true) (hB : newI l.toArray I [s1] n = true)
    (h1 : l[s1]? = some o1) (hg1 : o1.guard = none) (hA : ∀ w, S [] w → yield P o1 af w fun u w' => S [u] w')
    (hS : S [] w.drew) (ht : wpTextG P S l.toArray (I.filterMap fun i => l[i]?) a af) (hQ : ∀ v w', S [v] w' → wpList P l.toArray Q (l.drop n) (af.put o1.dst v) w') : (Code.region id l.toArray true).wp P Q a w := by
  have h1' : l.toArray[s1]? = some o1 := by simpa using h1
  have hI : ∀ i ∈ I, i < l.length := by
    simp only [newI, Bool.and_eq_true, Bool.or_eq_true, decide_eq_true_eq, List.all_eq_true, Bool.not_eq_true'] at hB
    obtain ⟨⟨⟨⟨⟨⟨_, hn⟩, _⟩, hI⟩, _⟩, _⟩, _⟩ := hB
    exact fun i hi => by have := (hI i hi).2; have : n ≤ l.length := by simpa using hn
                         omega
  have hli : I.map (fun i => l.toArray[i]?) = (I.filterMap fun i => l[i]?).map some := by
    clear hB ht
    induction I with
    | nil => rfl
    | cons k I ih =>
      have hk := hI k (by simp)
      rw [List.map_cons, List.filterMap_cons, ih (fun i hi => hI i (by simp [hi]))]
      simp [hk]
  refine wp_region_float I [s1] n S hm hB _ hli (fun g i oi w hg hoi hS => ?_) hS ht fun g w' hg hS => ?_
  · match g, hg, hS with
    | [], hg, hS =>
      obtain rfl : s1 = i := by simpa using hg
      obtain rfl : o1 = oi := by rw [h1'] at hoi; exact Option.some.inj hoi
      exact ⟨hg1, hA w hS⟩
    | _ :: _, hg, _ => simp at hg
  · obtain ⟨v, rfl⟩ : ∃ v, g = [v] := List.length_eq_one_iff.1 (by simpa using hg)
    simp only [putsI, h1']
    exact hQ v w' hS
/-- Two operations float. -/
theorem wp_region_float2 {id : Nat} {Q : Exit → Act → World → Prop} {a af : Act} {w : World} {l : List Oper} (I : List Nat) (s1 s2 n : Nat) (o1 o2 : Oper) (S : List Value → World → Prop) (hm : P.follows .mixedOrders = true) (hB : newI l.toArray I [s1, s2] n = true)
    (h1 : l[s1]? = some o1) (hg1 : o1.guard = none) (h2 : l[s2]? = some o2) (hg2 : o2.guard = none) (hA : ∀ w, S [] w → yield P o1 af w fun u w' => S [u] w') (hA2 : ∀ v w, S [v] w → yield P o2 (af.put o1.dst v) w fun u w' => S [v, u] w')
    (hS : S [] w.drew) (ht : wpTextG P S l.toArray (I.filterMap fun i => l[i]?) a af) (hQ : ∀ v u w', S [v, u] w' → wpList P l.toArray Q (l.drop n) ((af.put o1.dst v).put o2.dst u) w') : (Code.region id l.toArray true).wp P Q a w := by
  have h1' : l.toArray[s1]? = some o1 := by simpa using h1
  have h2' : l.toArray[s2]? = some o2 := by simpa using h2
  have hI : ∀ i ∈ I, i < l.length := by
    simp only [newI, Bool.and_eq_true, Bool.or_eq_true, decide_eq_true_eq, List.all_eq_true, Bool.not_eq_true'] at hB
    obtain ⟨⟨⟨⟨⟨⟨_, hn⟩, _⟩, hI⟩, _⟩, _⟩, _⟩ := hB
    exact fun i hi => by have := (hI i hi).2; have : n ≤ l.length := by simpa using hn
                         omega
  have hli : I.map (fun i => l.toArray[i]?) = (I.filterMap fun i => l[i]?).map some := by
    clear hB ht
    induction I with
    | nil => rfl
    | cons k I ih =>
      have hk := hI k (by simp)
      rw [List.map_cons, List.filterMap_cons, ih (fun i hi => hI i (by simp [hi]))]
      simp [hk]
  refine wp_region_float I [s1, s2] n S hm hB _ hli (fun g i oi w hg hoi hS => ?_) hS ht fun g w' hg hS => ?_
  · match g, hg, hS with
    | [], hg, hS =>
      obtain rfl : s1 = i := by simpa using hg
      obtain rfl : o1 = oi := by rw [h1'] at hoi; exact Option.some.inj hoi
      exact ⟨hg1, hA w hS⟩
    | [v], hg, hS =>
      obtain rfl : s2 = i := by simpa using hg
      obtain rfl : o2 = oi := by rw [h2'] at hoi; exact Option.some.inj hoi
      simp only [putsI, h1']
      exact ⟨hg2, hA2 v w hS⟩
    | _ :: _ :: _, hg, _ => simp at hg
  · obtain ⟨v, u, rfl⟩ : ∃ v u, g = [v, u] := by
      match g, hg with
      | [v, u], _ => exact ⟨v, u, rfl⟩
    simp only [putsI, h1', h2']
    exact hQ v u w' hS
/-- Three operations float. -/
theorem wp_region_float3 {id : Nat} {Q : Exit → Act → World → Prop} {a af : Act} {w : World} {l : List Oper} (I : List Nat) (s1 s2 s3 n : Nat) (o1 o2 o3 : Oper) (S : List Value → World → Prop) (hm : P.follows .mixedOrders = true) (hB : newI l.toArray I [s1, s2, s3] n = true)
    (h1 : l[s1]? = some o1) (hg1 : o1.guard = none) (h2 : l[s2]? = some o2) (hg2 : o2.guard = none) (h3 : l[s3]? = some o3) (hg3 : o3.guard = none) (hA : ∀ w, S [] w → yield P o1 af w fun u w' => S [u] w') (hA2 : ∀ v w, S [v] w → yield P o2 (af.put o1.dst v) w fun u w' => S [v, u] w')
    (hA3 : ∀ v u w, S [v, u] w → yield P o3 ((af.put o1.dst v).put o2.dst u) w fun x w' => S [v, u, x] w')
    (hS : S [] w.drew) (ht : wpTextG P S l.toArray (I.filterMap fun i => l[i]?) a af) (hQ : ∀ v u x w', S [v, u, x] w' → wpList P l.toArray Q (l.drop n) (((af.put o1.dst v).put o2.dst u).put o3.dst x) w') : (Code.region id l.toArray true).wp P Q a w := by
  have h1' : l.toArray[s1]? = some o1 := by simpa using h1
  have h2' : l.toArray[s2]? = some o2 := by simpa using h2
  have h3' : l.toArray[s3]? = some o3 := by simpa using h3
  have hI : ∀ i ∈ I, i < l.length := by
    simp only [newI, Bool.and_eq_true, Bool.or_eq_true, decide_eq_true_eq, List.all_eq_true, Bool.not_eq_true'] at hB
    obtain ⟨⟨⟨⟨⟨⟨_, hn⟩, _⟩, hI⟩, _⟩, _⟩, _⟩ := hB
    exact fun i hi => by have := (hI i hi).2; have : n ≤ l.length := by simpa using hn
                         omega
  have hli : I.map (fun i => l.toArray[i]?) = (I.filterMap fun i => l[i]?).map some := by
    clear hB ht
    induction I with
    | nil => rfl
    | cons k I ih =>
      have hk := hI k (by simp)
      rw [List.map_cons, List.filterMap_cons, ih (fun i hi => hI i (by simp [hi]))]
      simp [hk]
  refine wp_region_float I [s1, s2, s3] n S hm hB _ hli (fun g i oi w hg hoi hS => ?_) hS ht fun g w' hg hS => ?_
  · match g, hg, hS with
    | [], hg, hS =>
      obtain rfl : s1 = i := by simpa using hg
      obtain rfl : o1 = oi := by rw [h1'] at hoi; exact Option.some.inj hoi
      exact ⟨hg1, hA w hS⟩
    | [v], hg, hS =>
      obtain rfl : s2 = i := by simpa using hg
      obtain rfl : o2 = oi := by rw [h2'] at hoi; exact Option.some.inj hoi
      simp only [putsI, h1']
      exact ⟨hg2, hA2 v w hS⟩
    | [v, u], hg, hS =>
      obtain rfl : s3 = i := by simpa using hg
      obtain rfl : o3 = oi := by rw [h3'] at hoi; exact Option.some.inj hoi
      simp only [putsI, h1', h2']
      exact ⟨hg3, hA3 v u w hS⟩
    | _ :: _ :: _ :: _, hg, _ => simp at hg
  · obtain ⟨v, u, x, rfl⟩ : ∃ v u x, g = [v, u, x] := by
      match g, hg with
      | [v, u, x], _ => exact ⟨v, u, x, rfl⟩
    simp only [putsI, h1', h2', h3']
    exact hQ v u x w' hS
end
end Go.Proofs.Ytjdfjlgjpjgnhaa
