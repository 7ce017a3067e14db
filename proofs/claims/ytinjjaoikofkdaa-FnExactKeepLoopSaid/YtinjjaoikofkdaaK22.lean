/- A drawn region whose last two operations are a call and an assignment; all others come before them. -/
import Derived.Test.YtinjjaoikofkdaaK16
namespace Go.Proofs.Ytinjjaoikofkdaa
set_option linter.unusedSimpArgs false
set_option linter.unusedVariables false
open Go Go.RowKit

section
variable {P : Program}
/-- What the rule asks of a region: no guard; results in places of their own; forerunners stand ahead; what is read comes from a forerunner or was there. -/
def freeB2 (ops : Array Oper) (T : Nat) : Bool :=
  Region.noSelect ops && (List.range ops.size).all fun i => match ops[i]? with
    | none => true
    | some o => o.guard.isNone && (match o.dst with | some d => decide (d < T) && (List.range ops.size).all (fun j => match ops[j]? with | some o' => decide (j = i) || o'.dst != some d | none => true) | none => true) &&
        o.after.toList.all (fun e => !Region.binds .any e || decide (e.on < i))
structure FreeOp2 (ops : Array Oper) (T i : Nat) (o : Oper) : Prop where
  guard : o.guard = none
  lt : ∀ d, o.dst = some d → d < T
  own : ∀ d, o.dst = some d → ∀ j o', ops[j]? = some o' → j ≠ i → o'.dst ≠ some d
  ahead : ∀ e ∈ o.after, Region.binds .any e = true → e.on < i
theorem freeB_spec2 {ops : Array Oper} {T : Nat} (h : freeB2 ops T = true) {i : Nat} {o : Oper} (hi : ops[i]? = some o) : FreeOp2 ops T i o := by
  have hlt : ∀ {j o'}, ops[j]? = some o' → j < ops.size := fun h => (Array.getElem?_eq_some_iff.1 h).1
  simp only [freeB2, Bool.and_eq_true, List.all_eq_true, List.mem_range] at h
  have h1 := h.2 i (hlt hi)
  simp only [hi, Bool.and_eq_true, Option.isNone_iff_eq_none, List.all_eq_true, List.mem_range] at h1
  obtain ⟨⟨h2, h3⟩, h4⟩ := h1
  refine ⟨h2, fun d hd => ?_, fun d hd j o' hj hne => ?_, fun e he hb => ?_⟩
  · simp only [hd, Bool.and_eq_true, decide_eq_true_eq] at h3; exact h3.1
  · simp only [hd, Bool.and_eq_true, decide_eq_true_eq, List.all_eq_true, List.mem_range] at h3
    have := h3.2 j (hlt hj)
    simp only [hj, Bool.or_eq_true, decide_eq_true_eq] at this
    rcases this with h | h
    · exact absurd h hne
    · simpa using h
  · have := h4 e (by simpa using he)
    simp only [hb, Bool.not_true, Bool.false_or, decide_eq_true_eq] at this
    exact this


/-- What holds between the operations. -/
def FInv2 (ops : Array Oper) (a0 : Act) (S : (Nat → Bool) → (Nat → Value) → World → Prop) (listed : Array Bool) (a : Act) (w : World) : Prop :=
  ∃ g : Nat → Value, a.defers = a0.defers ∧ a.tmps.size = a0.tmps.size ∧ (∀ i o d, ops[i]? = some o → o.dst = some d → listed.getD i false = true → a.tmps.getD d undef = g i) ∧
    (∀ d, (∀ i o, ops[i]? = some o → listed.getD i false = true → o.dst ≠ some d) → a.tmps.getD d undef = a0.tmps.getD d undef) ∧ (∀ i o d, ops[i]? = some o → o.dst = some d → listed.getD i false = false → g i = a0.tmps.getD d undef) ∧ S (fun i => listed.getD i false) g w

theorem all_listed2 {ops : Array Oper} {T : Nat} (hB : freeB2 ops T = true) {listed : Array Bool} (hsz : listed.size = ops.size) (h : Region.ready .any ops listed = []) : ∀ i, i < ops.size → listed.getD i false = true := by
  intro i
  induction i using Nat.strongRecOn with
  | ind i ih =>
    intro hi
    cases hl : listed.getD i false with
    | true => rfl
    | false =>
      exfalso
      have hi' : ops[i]? = some ops[i] := Array.getElem?_eq_getElem hi
      have : i ∈ Region.ready .any ops listed := mem_ready.2 ⟨by
        have hlt : i < listed.size := by omega
        simpa [Array.getD_eq_getD_getElem?, hlt] using hl, ops[i], hi', fun e he hb => by
        have h1 := (freeB_spec2 hB hi').ahead e he hb
        exact ih e.on h1 (by omega)⟩
      rw [h] at this
      cases this

theorem full_congr2 {l : List Oper} {a0 : Act} {S : (Nat → Bool) → (Nat → Value) → World → Prop} (hB : freeB2 l.toArray a0.tmps.size = true) {listed : Array Bool} {a : Act} {g : Nat → Value} {i : Nat} {o : Oper} (ho : l.toArray[i]? = some o)
    (hset : ∀ i o d, l.toArray[i]? = some o → o.dst = some d → listed.getD i false = true → a.tmps.getD d undef = g i)
    (hold : ∀ d, (∀ i o, l.toArray[i]? = some o → listed.getD i false = true → o.dst ≠ some d) → a.tmps.getD d undef = a0.tmps.getD d undef)
    (hun : ∀ i o d, l.toArray[i]? = some o → o.dst = some d → listed.getD i false = false → g i = a0.tmps.getD d undef) : execOp a.eval o = execOp (fullAct l 0 a0 g).eval o := by
  have hf := freeB_spec2 hB ho
  have hsel : ∀ cs b, o.op ≠ .select cs b := fun cs b => by
    simp only [freeB2, Bool.and_eq_true] at hB
    exact Region.noSelect_spec hB.1 i o cs b ho
  refine execOp_congr o hsel fun x hx => ?_
  cases x with
  | tmp t =>
    have ht : t ∈ o.looksAt l.toArray := List.mem_append_left _ (List.mem_filterMap.2 ⟨.tmp t, by simpa using hx, rfl⟩)
    show a.tmps.getD t undef = (fullAct l 0 a0 g).tmps.getD t undef
    by_cases hw : ∃ (j : Nat) (o' : Oper), l.toArray[j]? = some o' ∧ o'.dst = some t
    · obtain ⟨j, o', hj, hd⟩ := hw
      have hfj := freeB_spec2 hB hj
      rw [full_new l 0 a0 g t j o' (by simpa using hj) hd (hfj.lt t hd) fun j' o'' h' hn => hfj.own t hd j' o'' (by simpa using h') hn, Nat.zero_add]
      cases hlj : listed.getD j false with
      | true => exact hset _ o' t hj hd hlj
      | false =>
        rw [hun j o' t hj hd hlj]
        exact hold t fun i o2 hi hli hd2 => by
          by_cases e : i = j
          · subst e; rw [hlj] at hli; cases hli
          · exact hfj.own t hd i o2 hi e hd2
    · rw [hold t fun j o' hj _ hd => hw ⟨j, o', hj, hd⟩, full_old l 0 a0 g t fun o' ho' hd => by
        obtain ⟨j, hj⟩ := List.getElem?_of_mem ho'
        exact hw ⟨j, o', by simpa using hj, hd⟩]
  | _ => rfl

/-- What the places hold before. -/
def g00 (l : List Oper) (a0 : Act) : Nat → Value := fun i => match l[i]? with | some o => (match o.dst with | some d => a0.tmps.getD d undef | none => undef) | none => undef
/-- THE RULE. -/
theorem wp_region_free2 {id : Nat} {Q : Exit → Act → World → Prop} {a0 : Act} {w : World} {l : List Oper} (S : (Nat → Bool) → (Nat → Value) → World → Prop) (hm : P.follows .mixedOrders = true) (hB : freeB2 l.toArray a0.tmps.size = true)
    (hS : S (fun _ => false) (g00 l a0) w.drew)
    (hstep : ∀ i o, l[i]? = some o → ∀ D g w, D i = false → (∀ e ∈ o.after, Region.binds .any e = true → D e.on = true) → S D g w → yield P o (fullAct l 0 a0 g) w fun u w' => S (fun j => if j = i then true else D j) (fun j => if j = i then u else g j) w')
    (hQ : ∀ D g w, (∀ i, i < l.length → D i = true) → S D g w → Q .normal (fullAct l 0 a0 g) w) : (Code.region id l.toArray true).wp P Q a0 w := by
  refine wp_region_any hm ?_
  have hend : ∀ listed a w, listed.size = l.toArray.size → FInv2 l.toArray a0 S listed a w → Region.ready .any l.toArray listed = [] → Q .normal a w := by
    intro listed a w hsz ⟨g, h1, h2, h3, h4, _, h5⟩ hr
    have hall := all_listed2 hB hsz hr
    have : a = fullAct l 0 a0 g := by
      obtain ⟨tm, df⟩ := a
      have e1 : tm = (fullAct l 0 a0 g).tmps := by
        apply Array.ext
        · rw [full_size]; exact h2
        · intro d hd hd'
          have e : tm.getD d undef = (fullAct l 0 a0 g).tmps.getD d undef := by
            by_cases hw : ∃ (j : Nat) (o' : Oper), l.toArray[j]? = some o' ∧ o'.dst = some d
            · obtain ⟨j, o', hj, hdd⟩ := hw
              have hfj := freeB_spec2 hB hj
              rw [show tm.getD d undef = g j from h3 j o' d hj hdd (hall j (Array.getElem?_eq_some_iff.1 hj).1), full_new l 0 a0 g d j o' (by simpa using hj) hdd (hfj.lt d hdd) fun j' o'' h' hn => hfj.own d hdd j' o'' (by simpa using h') hn, Nat.zero_add]
            · rw [show tm.getD d undef = a0.tmps.getD d undef from h4 d fun j o' hj _ hdd => hw ⟨j, o', hj, hdd⟩, full_old l 0 a0 g d fun o' ho' hdd => by
                obtain ⟨j, hj⟩ := List.getElem?_of_mem ho'
                exact hw ⟨j, o', by simpa using hj, hdd⟩]
          simpa [Array.getD_eq_getD_getElem?, hd, hd'] using e
      have e2 : df = (fullAct l 0 a0 g).defers := by rw [full_def]; exact h1
      rw [e1, e2]
    rw [this]
    exact hQ _ g w (fun i hi => hall i (by simpa using hi)) h5
  have main : ∀ (fuel : Nat) (listed : Array Bool) (a : Act) (w : World), listed.size = l.toArray.size → ((List.range l.toArray.size).filter fun i => !listed.getD i false).length ≤ fuel → FInv2 l.toArray a0 S listed a w → wpAny P .any l.toArray Q fuel listed a w := by
    intro fuel
    induction fuel with
    | zero =>
      intro listed a w hsz hc hI
      have hnil : Region.ready .any l.toArray listed = [] := by
        rw [List.eq_nil_iff_forall_not_mem]
        intro i hi
        obtain ⟨h0, o, ho, _⟩ := mem_ready.1 hi
        have hlt := (Array.getElem?_eq_some_iff.1 ho).1
        have : i ∈ (List.range l.toArray.size).filter fun i => !listed.getD i false := by
          rw [List.mem_filter]
          refine ⟨List.mem_range.2 hlt, ?_⟩
          have hlt' : i < listed.size := by omega
          simpa [Array.getD_eq_getD_getElem?, hlt'] using h0
        rw [List.eq_nil_of_length_eq_zero (Nat.le_zero.1 hc)] at this
        cases this
      exact ⟨hnil, hend listed a w hsz hI hnil⟩
    | succ fuel ih =>
      intro listed a w hsz hc hI
      refine ⟨hend listed a w hsz hI, fun i hi => ?_⟩
      obtain ⟨h0, o, ho, hpre⟩ := mem_ready.1 hi
      have hlt := (Array.getElem?_eq_some_iff.1 ho).1
      have hf := freeB_spec2 hB ho
      obtain ⟨g, h1, h2, h3, h4, h6, h5⟩ := hI
      have hlt' : i < listed.size := by omega
      have h0' : listed.getD i false = false := by simpa [Array.getD_eq_getD_getElem?, hlt'] using h0
      have hD : ∀ j, (listed.setIfInBounds i true).getD j false = if j = i then true else listed.getD j false := fun j => by
        by_cases hj : j = i
        · subst hj; simp [Array.getD_eq_getD_getElem?, hlt']
        · rw [if_neg hj, getD_set_ne false (Ne.symm hj)]
      refine wpOp_of_yield ho hf.guard (full_congr2 (S := S) hB ho h3 h4 h6) (hstep i o (by simpa using ho) _ g w h0' hpre h5) fun u w' hS' => ?_
      refine ih _ _ w' (by simpa using hsz) ?_ ⟨fun j => if j = i then u else g j, by rw [actput_def]; exact h1, by rw [actput_size]; exact h2, fun j o' d hj hd hl => ?_, fun d hd => ?_, fun j o' d hj hd hl => ?_, ?_⟩
      · have e : ((List.range l.toArray.size).filter fun j => !(listed.setIfInBounds i true).getD j false) = ((List.range l.toArray.size).filter fun j => !listed.getD j false).filter fun j => !decide (j = i) := by
          rw [List.filter_filter]
          congr 1
          funext j
          rw [hD j]
          by_cases hj : j = i <;> simp [hj]
        rw [e]
        have := (List.length_filter_lt_length_iff_exists (p := fun j => !decide (j = i)) (l := (List.range l.toArray.size).filter fun j => !listed.getD j false)).2 ⟨i, List.mem_filter.2 ⟨List.mem_range.2 hlt, by simp [h0']⟩, by simp⟩
        omega
      · rw [hD j] at hl
        by_cases hj' : j = i
        · subst hj'
          obtain rfl : o = o' := by rw [ho] at hj; exact Option.some.inj hj
          show _ = if j = j then u else g j
          rw [hd, if_pos rfl, actput_new _ (by rw [h2]; exact hf.lt d hd)]
        · rw [if_neg hj'] at hl
          show _ = if j = i then u else g j
          rw [if_neg hj', actput_old _ fun h => (freeB_spec2 hB hj).own d hd i o ho (Ne.symm hj') h]
          exact h3 j o' d hj hd hl
      · rw [actput_old _ (hd i o ho (by rw [hD i, if_pos rfl]))]
        exact h4 d fun j o' hj hl => hd j o' hj (by
          rw [hD j]
          by_cases hj' : j = i
          · rw [if_pos hj']
          · rw [if_neg hj']; exact hl)
      · rw [hD j] at hl
        by_cases hj' : j = i
        · rw [if_pos hj'] at hl; cases hl
        · rw [if_neg hj'] at hl
          show (if j = i then u else g j) = _
          rw [if_neg hj']; exact h6 j o' d hj hd hl
      · have e : (fun j => (listed.setIfInBounds i true).getD j false) = fun j => if j = i then true else listed.getD j false := funext hD
        rw [e]; exact hS'
  have e0 : ∀ i, (Array.replicate l.toArray.size false).getD i false = false := fun i => by
    simp only [Array.getD_eq_getD_getElem?, Array.getElem?_replicate]
    split <;> rfl
  refine main _ _ _ _ (by simp) (by
    refine Nat.le_trans (List.length_filter_le _ _) ?_
    simp) ⟨g00 l a0, rfl, rfl, fun i o d _ _ h => ?_, fun _ _ => rfl, fun i o d hi hd _ => by unfold g00; rw [show l[i]? = some o by simpa using hi]; simp only [hd], ?_⟩
  · rw [e0 i] at h; cases h
  · rw [show (fun i => (Array.replicate l.toArray.size false).getD i false) = fun _ => false from funext e0]
    exact hS
end
theorem readV_full2 {l : List Oper} {a0 : Act} (hB : freeB2 l.toArray a0.tmps.size = true) (g : Nat → Value) (t : Nat) : (fullAct l 0 a0 g).tmps.getD t undef = readV l a0 g t := by
  unfold readV
  split
  · rename_i j hj
    obtain ⟨hlt, h1, _⟩ := List.findIdx?_eq_some_iff_getElem.1 hj
    have hd : l[j].dst = some t := by simpa using h1
    have hf := freeB_spec2 hB (show l.toArray[j]? = some l[j] by simp [hlt])
    rw [full_new l 0 a0 g t j l[j] (List.getElem?_eq_getElem hlt) hd (hf.lt t hd) fun j' o' h' hn => hf.own t hd j' o' (by simpa using h') hn, Nat.zero_add]
  · rename_i hn
    rw [List.findIdx?_eq_none_iff] at hn
    exact full_old l 0 a0 g t fun o ho hd => by
      have := hn o ho
      simp [hd] at this
/-- THE RULE, each operation under an act of one's own that holds what the operation reads. -/
theorem wp_region_own2 {P : Program} {id : Nat} {Q : Exit → Act → World → Prop} {a0 : Act} {w : World} {l : List Oper} (S : (Nat → Bool) → (Nat → Value) → World → Prop) (hm : P.follows .mixedOrders = true) (hB : freeB2 l.toArray a0.tmps.size = true)
    (hS : S (fun _ => false) (g00 l a0) w.drew)
    (hstep : ∀ i o, l[i]? = some o → ∀ D g w, D i = false → (∀ e ∈ o.after, Region.binds .any e = true → D e.on = true) → S D g w →
      ∃ A : Act, (∀ t ∈ o.looksAt l.toArray, A.tmps.getD t undef = readV l a0 g t) ∧ yield P o A w fun u w' => S (updD D i) (updG g i u) w')
    (hQ : ∀ D g w, (∀ i, i < l.length → D i = true) → S D g w → Q .normal (fullAct l 0 a0 g) w) : (Code.region id l.toArray true).wp P Q a0 w := by
  refine wp_region_free2 S hm hB hS (fun i o hi D g w hi0 hpre hS => ?_) hQ
  obtain ⟨A, hA, hy⟩ := hstep i o hi D g w hi0 hpre hS
  have hsel : ∀ cs b, o.op ≠ .select cs b := fun cs b => by
    simp only [freeB2, Bool.and_eq_true] at hB
    exact Region.noSelect_spec hB.1 i o cs b (by simpa using hi)
  have he : execOp (fullAct l 0 a0 g).eval o = execOp A.eval o := execOp_congr o hsel fun x hx => by
    cases x with
    | tmp t =>
      have ht : t ∈ o.looksAt l.toArray := List.mem_append_left _ (List.mem_filterMap.2 ⟨.tmp t, by simpa using hx, rfl⟩)
      show (fullAct l 0 a0 g).tmps.getD t undef = A.tmps.getD t undef
      rw [hA t ht, readV_full2 hB]
    | _ => rfl
  unfold yield at hy ⊢
  rw [he]; exact hy

theorem yield_mono {P : Program} {o : Oper} {a : Act} {w : World} {R R' : Value → World → Prop} (h : yield P o a w R) (hR : ∀ u w', R u w' → R' u w') : yield P o a w R' := by
  unfold yield at *
  cases hx : (execOp a.eval o).run P w with
  | ok n w' =>
    rw [hx] at h
    cases n <;> simp only [yieldR] at * <;> first | exact hR _ _ h | exact Calls.mono h (fun e w2 ⟨u, he, hr⟩ => ⟨u, he, hR u w2 hr⟩) | exact Rows.mono h (fun u w2 he => hR u w2 he) | exact h
  | halt x w' => rw [hx] at h; exact h
theorem wp_region_ownL {P : Program} {id : Nat} {Q : Exit → Act → World → Prop} {a0 : Act} {w : World} {l : List Oper} (n : Nat) (S : (Nat → Bool) → (Nat → Value) → World → Prop) (Post : Value → World → Prop) (hm : P.follows .mixedOrders = true) (hB : freeB2 l.toArray a0.tmps.size = true) (hlen : l.length = n + 2)
    (hS : S (fun _ => false) (g00 l a0) w.drew)
    (hstep : ∀ i o, i < n → l[i]? = some o → ∀ D g w, D i = false → (∀ e ∈ o.after, Region.binds .any e = true → D e.on = true) → g (n + 1) = g00 l a0 (n + 1) → S D g w →
      ∃ A : Act, (∀ t ∈ o.looksAt l.toArray, A.tmps.getD t undef = readV l a0 g t) ∧ yield P o A w fun u w' => S (updD D i) (updG g i u) w')
    (hcall : ∀ o, l[n]? = some o → ∀ D g w, (∀ e ∈ o.after, Region.binds .any e = true → D e.on = true) → S D g w →
      (∀ i, i < n → D i = true) ∧ ∃ A : Act, (∀ t ∈ o.looksAt l.toArray, A.tmps.getD t undef = readV l a0 g t) ∧ yield P o A w Post)
    (hlate : ∀ o, l[n + 1]? = some o → (∃ e ∈ o.after, Region.binds .any e = true ∧ e.on = n))
    (hlast : ∀ o, l[n + 1]? = some o → ∀ g w, Post (g n) w → ∃ A : Act, (∀ t ∈ o.looksAt l.toArray, A.tmps.getD t undef = readV l a0 g t) ∧ yield P o A w fun u w' => u = g n ∧ Post (g n) w')
    (hQ : ∀ g w, g (n + 1) = g n → Post (g n) w → Q .normal (fullAct l 0 a0 g) w) : (Code.region id l.toArray true).wp P Q a0 w := by
  refine wp_region_own2 (fun D g w => (D n = false ∧ D (n + 1) = false ∧ g (n + 1) = g00 l a0 (n + 1) ∧ S D g w) ∨ ((∀ i, i < n → D i = true) ∧ D n = true ∧ Post (g n) w ∧ (D (n + 1) = true → g (n + 1) = g n))) hm hB (.inl ⟨rfl, rfl, rfl, hS⟩) (fun i o hi D g w hi0 hpre h => ?_) fun D g w hall h => ?_
  · have hil := (List.getElem?_eq_some_iff.1 hi).1
    rcases h with ⟨h1, h2, hg, hS⟩ | ⟨h1, h2, h3, h4⟩
    · rcases Nat.lt_trichotomy i n with hlt | heq | hgt
      · obtain ⟨A, hA, hy⟩ := hstep i o hlt hi D g w hi0 hpre hg hS
        refine ⟨A, hA, yield_mono hy fun u w' h => .inl ⟨?_, ?_, ?_, h⟩⟩
        · rw [updD_ne (by omega)]; exact h1
        · rw [updD_ne (by omega)]; exact h2
        · rw [updG_ne (by omega)]; exact hg
      · subst heq
        obtain ⟨hd, A, hA, hy⟩ := hcall o hi D g w hpre hS
        refine ⟨A, hA, yield_mono hy fun u w' h => .inr ⟨fun j hj => ?_, updD_at .., ?_, fun h5 => ?_⟩⟩
        · rw [updD_ne (by omega)]; exact hd j hj
        · rw [updG_at]; exact h
        · rw [updD_ne (by omega), h2] at h5; cases h5
      · obtain rfl : i = n + 1 := by omega
        obtain ⟨e, he, hb, hen⟩ := hlate o hi
        have := hpre e he hb
        rw [hen, h1] at this; cases this
    · rcases Nat.lt_trichotomy i n with hlt | heq | hgt
      · rw [h1 i hlt] at hi0; cases hi0
      · subst heq; rw [h2] at hi0; cases hi0
      · obtain rfl : i = n + 1 := by omega
        obtain ⟨A, hA, hy⟩ := hlast o hi g w h3
        refine ⟨A, hA, yield_mono hy fun u w' h => .inr ⟨fun j hj => ?_, ?_, ?_, fun _ => ?_⟩⟩
        · rw [updD_ne (by omega)]; exact h1 j hj
        · rw [updD_ne (by omega)]; exact h2
        · rw [updG_ne (by omega)]; exact h.2
        · rw [updG_at, updG_ne (by omega)]; exact h.1
  · rcases h with ⟨h1, _⟩ | ⟨_, _, h3, h4⟩
    · rw [hall n (by omega)] at h1; cases h1
    · exact hQ g w (h4 (hall (n + 1) (by omega))) h3
end Go.Proofs.Ytinjjaoikofkdaa

/- Drawn regions of which a last part comes behind all other operations, one by one. -/
namespace Go.Proofs.Ytinjjaoikofkdaa
set_option linter.unusedSimpArgs false
set_option linter.unusedVariables false
open Go Go.RowKit

/-- Every operation behind number n waits for the one ahead of it. -/
def lateB (l : List Oper) (n : Nat) : Bool :=
  (List.range l.length).all fun i => decide (i ≤ n) || match l[i]? with
    | some o => o.after.any fun e => Region.binds .any e && e.on == i - 1
    | none => true
theorem lateB_of {l : List Oper} {n : Nat} (h : lateB l n = true) {i : Nat} {o : Oper} (hi : l[i]? = some o) (hn : n < i) : ∃ e ∈ o.after, Region.binds .any e = true ∧ e.on = i - 1 := by
  have hlt := (List.getElem?_eq_some_iff.1 hi).1
  have h1 := List.all_eq_true.1 h i (List.mem_range.2 hlt)
  rw [hi] at h1
  simp only [Bool.or_eq_true, decide_eq_true_eq, Array.any_eq_true'] at h1
  rcases h1 with h1 | ⟨e, he, h2⟩
  · omega
  · simp only [Bool.and_eq_true, beq_iff_eq] at h2
    exact ⟨e, he, h2.1, h2.2⟩
theorem wp_region_ownN {P : Program} {id : Nat} {Q : Exit → Act → World → Prop} {a0 : Act} {w : World} {l : List Oper} (n : Nat) (S : (Nat → Bool) → (Nat → Value) → World → Prop) (T : Nat → (Nat → Value) → World → Prop) (hm : P.follows .mixedOrders = true) (hB : freeB2 l.toArray a0.tmps.size = true) (hL : lateB l n = true) (hn : n < l.length)
    (hS : S (fun _ => false) (g00 l a0) w.drew)
    (hstep : ∀ i o, i < n → l[i]? = some o → ∀ D g w, D i = false → (∀ e ∈ o.after, Region.binds .any e = true → D e.on = true) → S D g w →
      ∃ A : Act, (∀ t ∈ o.looksAt l.toArray, A.tmps.getD t undef = readV l a0 g t) ∧ yield P o A w fun u w' => S (updD D i) (updG g i u) w')
    (hfirst : ∀ o, l[n]? = some o → ∀ D g w, (∀ e ∈ o.after, Region.binds .any e = true → D e.on = true) → S D g w → (∀ i, i < n → D i = true) ∧ T n g w)
    (htail : ∀ k o, n ≤ k → l[k]? = some o → ∀ g w, T k g w → ∃ A : Act, (∀ t ∈ o.looksAt l.toArray, A.tmps.getD t undef = readV l a0 g t) ∧ yield P o A w fun u w' => T (k + 1) (updG g k u) w')
    (hQ : ∀ g w, T l.length g w → Q .normal (fullAct l 0 a0 g) w) : (Code.region id l.toArray true).wp P Q a0 w := by
  refine wp_region_own2 (fun D g w => ((∀ j, n ≤ j → D j = false) ∧ S D g w) ∨ ∃ k, n < k ∧ k ≤ l.length ∧ (∀ j, j < k → D j = true) ∧ (∀ j, k ≤ j → D j = false) ∧ T k g w) hm hB (.inl ⟨fun _ _ => rfl, hS⟩) (fun i o hi D g w hi0 hpre h => ?_) fun D g w hall h => ?_
  · have hil := (List.getElem?_eq_some_iff.1 hi).1
    rcases h with ⟨h1, hS⟩ | ⟨k, hk, hkl, h1, h2, hT⟩
    · rcases Nat.lt_trichotomy i n with hlt | heq | hgt
      · obtain ⟨A, hA, hy⟩ := hstep i o hlt hi D g w hi0 hpre hS
        exact ⟨A, hA, yield_mono hy fun u w' h => .inl ⟨fun j hj => by rw [updD_ne (by omega)]; exact h1 j hj, h⟩⟩
      · subst heq
        obtain ⟨hd, hT⟩ := hfirst o hi D g w hpre hS
        obtain ⟨A, hA, hy⟩ := htail i o (Nat.le_refl _) hi g w hT
        refine ⟨A, hA, yield_mono hy fun u w' h => .inr ⟨i + 1, by omega, by omega, fun j hj => ?_, fun j hj => ?_, h⟩⟩
        · by_cases e : j = i
          · rw [e]; exact updD_at ..
          · rw [updD_ne (by omega)]; exact hd j (by omega)
        · rw [updD_ne (by omega)]; exact h1 j (by omega)
      · obtain ⟨e, he, hb, hen⟩ := lateB_of hL hi hgt
        have := hpre e he hb
        rw [hen, h1 _ (by omega)] at this; cases this
    · rcases Nat.lt_trichotomy i k with hlt | heq | hgt
      · rw [h1 i hlt] at hi0; cases hi0
      · subst heq
        obtain ⟨A, hA, hy⟩ := htail i o (by omega) hi g w hT
        refine ⟨A, hA, yield_mono hy fun u w' h => .inr ⟨i + 1, by omega, by omega, fun j hj => ?_, fun j hj => ?_, h⟩⟩
        · by_cases e : j = i
          · rw [e]; exact updD_at ..
          · rw [updD_ne (by omega)]; exact h1 j (by omega)
        · rw [updD_ne (by omega)]; exact h2 j (by omega)
      · obtain ⟨e, he, hb, hen⟩ := lateB_of hL hi (by omega)
        have := hpre e he hb
        rw [hen, h2 _ (by omega)] at this; cases this
  · rcases h with ⟨h1, _⟩ | ⟨k, hk, hkl, h1, h2, hT⟩
    · have := h1 n (Nat.le_refl _)
      rw [hall n hn] at this; cases this
    · rcases Nat.lt_or_ge k l.length with h3 | h3
      · have := h2 k (Nat.le_refl _)
        rw [hall k h3] at this; cases this
      · obtain rfl : k = l.length := by omega
        exact hQ g w hT
end Go.Proofs.Ytinjjaoikofkdaa

