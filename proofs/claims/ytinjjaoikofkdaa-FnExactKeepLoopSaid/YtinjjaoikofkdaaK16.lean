/- A drawn region, each operation under an act of its own that holds what the operation reads. -/
import Derived.Test.YtinjjaoikofkdaaRT
import Derived.Test.YtinjjaoikofkdaaK12
import Derived.Test.YtinjjaoikofkdaaK9
namespace Go.Proofs.Ytinjjaoikofkdaa
set_option linter.unusedSimpArgs false
set_option linter.unusedVariables false
open Go Go.RowKit

def updD (D : Nat → Bool) (i : Nat) : Nat → Bool := fun j => if j = i then true else D j
def updG (g : Nat → Value) (i : Nat) (u : Value) : Nat → Value := fun j => if j = i then u else g j
/-- What a place holds: what the operation that writes it has given, or what was there. -/
def readV (l : List Oper) (a : Act) (g : Nat → Value) (t : Nat) : Value := match l.findIdx? (fun o => o.dst == some t) with | some j => g j | none => a.tmps.getD t undef
theorem readV_full {l : List Oper} {a0 : Act} (hB : freeB l.toArray a0.tmps.size = true) (g : Nat → Value) (t : Nat) : (fullAct l 0 a0 g).tmps.getD t undef = readV l a0 g t := by
  unfold readV
  split
  · rename_i j hj
    obtain ⟨hlt, h1, _⟩ := List.findIdx?_eq_some_iff_getElem.1 hj
    have hd : l[j].dst = some t := by simpa using h1
    have hf := freeB_spec hB (show l.toArray[j]? = some l[j] by simp [hlt])
    rw [full_new l 0 a0 g t j l[j] (List.getElem?_eq_getElem hlt) hd (hf.lt t hd) fun j' o' h' hn => hf.own t hd j' o' (by simpa using h') hn, Nat.zero_add]
  · rename_i hn
    rw [List.findIdx?_eq_none_iff] at hn
    exact full_old l 0 a0 g t fun o ho hd => by
      have := hn o ho
      simp [hd] at this
/-- THE RULE, each operation under an act of one's own that holds what the operation reads. -/
theorem wp_region_own {P : Program} {id : Nat} {Q : Exit → Act → World → Prop} {a0 : Act} {w : World} {l : List Oper} (S : (Nat → Bool) → (Nat → Value) → World → Prop) (hm : P.follows .mixedOrders = true) (hB : freeB l.toArray a0.tmps.size = true)
    (g0 : Nat → Value) (hS : S (fun _ => false) g0 w.drew)
    (hstep : ∀ i o, l[i]? = some o → ∀ D g w, D i = false → (∀ e ∈ o.after, Region.binds .any e = true → D e.on = true) → S D g w →
      ∃ A : Act, (∀ t ∈ o.looksAt l.toArray, A.tmps.getD t undef = readV l a0 g t) ∧ yield P o A w fun u w' => S (updD D i) (updG g i u) w')
    (hQ : ∀ D g w, (∀ i, i < l.length → D i = true) → S D g w → Q .normal (fullAct l 0 a0 g) w) : (Code.region id l.toArray true).wp P Q a0 w := by
  refine wp_region_free S hm hB g0 hS (fun i o hi D g w hi0 hpre hS => ?_) hQ
  obtain ⟨A, hA, hy⟩ := hstep i o hi D g w hi0 hpre hS
  have hsel : ∀ cs b, o.op ≠ .select cs b := fun cs b => by
    simp only [freeB, Bool.and_eq_true] at hB
    exact Region.noSelect_spec hB.1 i o cs b (by simpa using hi)
  have he : execOp (fullAct l 0 a0 g).eval o = execOp A.eval o := execOp_congr o hsel fun x hx => by
    cases x with
    | tmp t =>
      have ht : t ∈ o.looksAt l.toArray := List.mem_append_left _ (List.mem_filterMap.2 ⟨.tmp t, by simpa using hx, rfl⟩)
      show (fullAct l 0 a0 g).tmps.getD t undef = A.tmps.getD t undef
      rw [hA t ht, readV_full hB]
    | _ => rfl
  unfold yield at hy ⊢
  rw [he]; exact hy

theorem updD_at (D : Nat → Bool) (i : Nat) : updD D i i = true := if_pos rfl
theorem updD_ne {D : Nat → Bool} {i j : Nat} (h : j ≠ i) : updD D i j = D j := if_neg h
theorem updG_at (g : Nat → Value) (i : Nat) (u : Value) : updG g i u i = u := if_pos rfl
theorem updG_ne {g : Nat → Value} {i j : Nat} {u : Value} (h : j ≠ i) : updG g i u j = g j := if_neg h
end Go.Proofs.Ytinjjaoikofkdaa

/- A drawn region whose operations make new memory and hand on values, in any order: what is known of each operation that has been done. -/
namespace Go.Proofs.Ytinjjaoikofkdaa
set_option linter.unusedSimpArgs false
set_option linter.unusedVariables false
open Go Go.RowKit

def updE (E : Nat → List Ent) (i : Nat) (u : List Ent) : Nat → List Ent := fun j => if j = i then u else E j
theorem updE_at (E : Nat → List Ent) (i : Nat) (u : List Ent) : updE E i u i = u := if_pos rfl
theorem updE_ne {E : Nat → List Ent} {i j : Nat} {u : List Ent} (h : j ≠ i) : updE E i u j = E j := if_neg h
theorem flat_upd {E : Nat → List Ent} {i : Nat} {Ei : List Ent} : ∀ {l : List Nat}, l.Nodup → i ∈ l → E i = [] → (l.flatMap (updE E i Ei)).Perm (Ei ++ l.flatMap E)
  | [], _, h, _ => by cases h
  | a :: l, hn, hm, he => by
    simp only [List.flatMap_cons]
    by_cases ha : a = i
    · subst ha
      rw [updE_at, he, List.nil_append]
      have : (l.flatMap (updE E a Ei)) = l.flatMap E := by
        have hna := (List.nodup_cons.1 hn).1
        clear hm hn
        induction l with
        | nil => rfl
        | cons b l ih =>
          simp only [List.flatMap_cons]
          rw [updE_ne (fun e => hna (by rw [e]; exact List.mem_cons_self ..)), ih fun h => hna (List.mem_cons_of_mem _ h)]
      rw [this]
    · rw [updE_ne ha]
      have hm' : i ∈ l := by
        rcases List.mem_cons.1 hm with h | h
        · exact absurd h.symm ha
        · exact h
      have ih := flat_upd (E := E) (Ei := Ei) (List.nodup_cons.1 hn).2 hm' he
      have h1 : (E a ++ l.flatMap (updE E i Ei)).Perm (E a ++ (Ei ++ l.flatMap E)) := List.Perm.append_left _ ih
      have h2 : (E a ++ (Ei ++ l.flatMap E)).Perm (Ei ++ (E a ++ l.flatMap E)) := by
        rw [← List.append_assoc, ← List.append_assoc]
        exact List.Perm.append_right _ List.perm_append_comm
      exact h1.trans h2
theorem pull_list : ∀ {K l : List Nat}, K.Nodup → (∀ k ∈ K, k ∈ l) → ∃ X, l.Perm (K ++ X)
  | [], l, _, _ => ⟨l, List.Perm.refl _⟩
  | k :: K, l, hn, hm => by
    obtain ⟨X, hX⟩ := pull_list (K := K) (l := l) (List.nodup_cons.1 hn).2 fun j hj => hm j (List.mem_cons_of_mem _ hj)
    have hk : k ∈ K ++ X := hX.mem_iff.1 (hm k (List.mem_cons_self ..))
    have hk2 : k ∈ X := by
      rcases List.mem_append.1 hk with h | h
      · exact absurd h (List.nodup_cons.1 hn).1
      · exact h
    refine ⟨X.erase k, hX.trans ?_⟩
    have h1 : (K ++ X).Perm (K ++ (k :: X.erase k)) := List.Perm.append_left _ (List.perm_cons_erase hk2)
    exact h1.trans List.perm_middle
theorem flat_perm {E : Nat → List Ent} {l l' : List Nat} (h : l.Perm l') : (l.flatMap E).Perm (l'.flatMap E) := by
  induction h with
  | nil => exact .refl _
  | cons a _ ih => simp only [List.flatMap_cons]; exact List.Perm.append_left _ ih
  | swap a b l =>
    simp only [List.flatMap_cons]
    rw [← List.append_assoc, ← List.append_assoc]
    exact List.Perm.append_right _ List.perm_append_comm
  | trans _ _ h1 h2 => exact h1.trans h2

/-- n operations; post: what is known of one that has been done; R: those that must have been done ahead of it; W: those that write to what it has made. -/
structure GrS (n : Nat) (post : Nat → (Nat → Bool) → (Nat → Value) → List Ent → Prop) (R : Nat → List Nat) (w0 : World) (L : List Ent) (D : Nat → Bool) (g : Nat → Value) (w : World) : Prop where
  anc : ∀ i, D i = true → ∀ j ∈ R i, D j = true
  top : ∀ i, D i = true → i < n
  mem : ∃ E : Nat → List Ent, (∀ i, D i = true → post i D g (E i)) ∧ (∀ i, D i = false → E i = []) ∧ Mm no w0 w ((List.range n).flatMap E ++ L)
/-- What is known of an operation stays when another one is done, if it neither reads it nor is written by it. -/
def Stable (post : Nat → (Nat → Bool) → (Nat → Value) → List Ent → Prop) (R W : Nat → List Nat) : Prop := ∀ i k D g u E, k ≠ i → k ∉ R i → k ∉ W i → post i D g E → post i (updD D k) (updG g k u) E

section
variable {n : Nat} {post : Nat → (Nat → Bool) → (Nat → Value) → List Ent → Prop} {R W : Nat → List Nat} {w0 w w' : World} {L : List Ent} {D : Nat → Bool} {g : Nat → Value}
theorem GrS.start (M : Mm no w0 w L) (g : Nat → Value) : GrS n post R w0 L (fun _ => false) g w.drew :=
  ⟨(fun _ h => by cases h), (fun _ h => by cases h), fun _ => [], (fun _ h => by cases h), (fun _ _ => rfl), by
    have : (List.range n).flatMap (fun _ => ([] : List Ent)) = [] := by induction (List.range n) <;> simp_all
    rw [this]; exact M.drew⟩
theorem GrS.base (S : GrS n post R w0 L D g w) : Mm no w0 w L := by
  obtain ⟨E, _, _, M⟩ := S.mem
  exact Mm.suffix M
/-- What is known of some of those that have been done. -/
theorem GrS.get (S : GrS n post R w0 L D g w) (K : List Nat) (hK : K.Nodup) (h : ∀ k ∈ K, D k = true) : ∃ E : Nat → List Ent, (∀ k ∈ K, post k D g (E k)) ∧ Mm no w0 w (K.flatMap E ++ L) := by
  obtain ⟨E, h1, _, M⟩ := S.mem
  refine ⟨E, fun k hk => h1 k (h k hk), ?_⟩
  obtain ⟨X, hX⟩ := pull_list hK fun k hk => List.mem_range.2 (S.top k (h k hk))
  have hp := flat_perm (E := E) hX
  rw [List.flatMap_append] at hp
  have h2 : ((List.range n).flatMap E ++ L).Perm (X.flatMap E ++ (K.flatMap E ++ L)) := by
    refine (List.Perm.append_right L hp).trans ?_
    rw [← List.append_assoc]
    exact List.Perm.append_right L List.perm_append_comm
  exact Mm.suffix (M.perm h2)
theorem updD_anc (S : GrS n post R w0 L D g w) {i : Nat} (hR : ∀ j ∈ R i, D j = true) : ∀ k, updD D i k = true → ∀ j ∈ R k, updD D i j = true := fun k hk j hj => by
  by_cases e : j = i
  · subst e; exact updD_at ..
  · rw [updD_ne e]
    by_cases e2 : k = i
    · subst e2; exact hR j hj
    · rw [updD_ne e2] at hk; exact S.anc k hk j hj
theorem updD_top (S : GrS n post R w0 L D g w) {i : Nat} (hi : i < n) : ∀ k, updD D i k = true → k < n := fun k hk => by
  by_cases e : k = i
  · subst e; exact hi
  · rw [updD_ne e] at hk; exact S.top k hk
/-- An operation that makes new memory. -/
theorem GrS.add (S : GrS n post R w0 L D g w) (hst : Stable post R W) {i : Nat} {u : Value} {Ei : List Ent} (hi : i < n) (h0 : D i = false) (hR : ∀ j ∈ R i, D j = true) (hW : ∀ j, D j = true → i ∉ W j) (M' : Mm no w w' Ei) (hn : ∀ x ∈ Ei, ∀ b, x.place b → w.heap.size ≤ b) (hp : post i (updD D i) (updG g i u) Ei) :
    GrS n post R w0 L (updD D i) (updG g i u) w' := by
  obtain ⟨E, h1, h2, M⟩ := S.mem
  refine ⟨updD_anc S hR, updD_top S hi, updE E i Ei, fun k hk => ?_, fun k hk => ?_, ?_⟩
  · by_cases e : k = i
    · subst e; rw [updE_at]; exact hp
    · rw [updE_ne e]
      rw [updD_ne e] at hk
      exact hst k i D g u (E k) (fun h => e h.symm) (fun h => by have := S.anc k hk i h; rw [h0] at this; cases this) (hW k hk) (h1 k hk)
  · by_cases e : k = i
    · subst e; rw [updD_at] at hk; cases hk
    · rw [updE_ne e]; rw [updD_ne e] at hk; exact h2 k hk
  · refine (M.join M' hn).perm ?_
    rw [← List.append_assoc]
    exact (List.Perm.append_right L (flat_upd List.nodup_range (List.mem_range.2 hi) (h2 i h0))).symm
/-- An operation that makes nothing that is known. -/
theorem GrS.val (S : GrS n post R w0 L D g w) (hst : Stable post R W) {i : Nat} {u : Value} (hi : i < n) (h0 : D i = false) (hR : ∀ j ∈ R i, D j = true) (hW : ∀ j, D j = true → i ∉ W j) (hb : Below w.heap.size w w') (hp : post i (updD D i) (updG g i u) []) : GrS n post R w0 L (updD D i) (updG g i u) w' :=
  S.add hst hi h0 hR hW (Mm.after (Mm.start no w) (Kept.of_below hb no) fun _ _ h => h) (fun _ h => by cases h) hp
/-- All has been done. -/
theorem GrS.done (S : GrS n post R w0 L D g w) (h : ∀ i, i < n → D i = true) : ∃ E : Nat → List Ent, (∀ k, k < n → post k D g (E k)) ∧ Mm no w0 w ((List.range n).flatMap E ++ L) := by
  obtain ⟨E, h1, _, M⟩ := S.mem
  exact ⟨E, fun k hk => h1 k (h k hk), M⟩
/-- An operation i that writes to what t has made. -/
theorem GrS.write (S : GrS n post R w0 L D g w) (hst : Stable post R W) {i t : Nat} (hi : i < n) (h0 : D i = false) (hR : ∀ j ∈ R i, D j = true) (hW : ∀ j, D j = true → j ≠ t → i ∉ W j) (ht : D t = true) :
    ∃ (E X : List Ent), post t D g E ∧ Mm no w0 w (E ++ X) ∧ ∀ u w' Et, Mm no w0 w' (Et ++ X) → post t (updD D i) (updG g i u) Et → post i (updD D i) (updG g i u) [] → GrS n post R w0 L (updD D i) (updG g i u) w' := by
  obtain ⟨E, h1, h2, M⟩ := S.mem
  have htn := S.top t ht
  have hti : t ≠ i := fun e => by rw [e, h0] at ht; cases ht
  obtain ⟨X, hX⟩ := pull_list (K := [t]) (l := List.range n) (by simp) fun k hk => by simp at hk; subst hk; exact List.mem_range.2 htn
  have hnd : (t :: X).Nodup := (hX.nodup_iff).1 List.nodup_range
  have hXt : t ∉ X := (List.nodup_cons.1 hnd).1
  refine ⟨E t, X.flatMap E ++ L, h1 t ht, ?_, fun u w' Et M' hp1 hp2 => ?_⟩
  · have hp := flat_perm (E := E) hX
    have h3 : ((List.range n).flatMap E ++ L).Perm (E t ++ (X.flatMap E ++ L)) := by
      rw [← List.append_assoc]
      exact List.Perm.append_right L (by simpa [List.flatMap_cons] using hp)
    exact M.perm h3
  · refine ⟨updD_anc S hR, updD_top S hi, updE E t Et, fun k hk => ?_, fun k hk => ?_, ?_⟩
    · by_cases e : k = t
      · subst e; rw [updE_at]; exact hp1
      · rw [updE_ne e]
        by_cases e2 : k = i
        · subst e2; rw [h2 k h0]; exact hp2
        · rw [updD_ne e2] at hk
          exact hst k i D g u (E k) (fun h => e2 h.symm) (fun h => by have := S.anc k hk i h; rw [h0] at this; cases this) (hW k hk e) (h1 k hk)
    · by_cases e : k = t
      · subst e; rw [updD_ne hti, ht] at hk; cases hk
      · rw [updE_ne e]
        by_cases e2 : k = i
        · subst e2; exact h2 k h0
        · rw [updD_ne e2] at hk; exact h2 k hk
    · have hp := flat_perm (E := updE E t Et) hX
      have e : (X.flatMap (updE E t Et)) = X.flatMap E := by
        clear hp hX hnd M M'
        induction X with
        | nil => rfl
        | cons b X ih =>
          simp only [List.flatMap_cons]
          rw [updE_ne (fun e => hXt (by rw [e]; exact List.mem_cons_self ..)), ih fun h => hXt (List.mem_cons_of_mem _ h)]
      have hp2 : ((List.range n).flatMap (updE E t Et)).Perm (Et ++ X.flatMap E) := by
        refine hp.trans ?_
        rw [show [t] ++ X = t :: X from rfl, List.flatMap_cons, updE_at, e]
      refine M'.perm ?_
      rw [← List.append_assoc]
      exact (List.Perm.append_right L hp2).symm
end
end Go.Proofs.Ytinjjaoikofkdaa

/- A drawn region in which some operations write to what was there, or to what others have made. -/
namespace Go.Proofs.Ytinjjaoikofkdaa
set_option linter.unusedSimpArgs false
set_option linter.unusedVariables false
open Go Go.RowKit

/-- The place p stands for what was there: it counts as done. -/
def psD (p : Nat) (D : Nat → Bool) : Nat → Bool := fun j => (j == p) || D j
theorem psD_of {p : Nat} {D : Nat → Bool} {j : Nat} (h : D j = true) : psD p D j = true := by simp [psD, h]
theorem psD_at (p : Nat) (D : Nat → Bool) : psD p D p = true := by simp [psD]
theorem psD_ne {p : Nat} {D : Nat → Bool} {j : Nat} (h : j ≠ p) : psD p D j = D j := by simp [psD, h]
theorem psD_upd {p : Nat} {D : Nat → Bool} {i : Nat} : psD p (updD D i) = updD (psD p D) i := by
  funext j
  unfold psD updD
  by_cases h : j = i
  · simp [h]
  · simp [h]
section
variable {n : Nat} {post : Nat → (Nat → Bool) → (Nat → Value) → List Ent → Prop} {R W : Nat → List Nat} {w0 w w' : World} {L : List Ent} {D : Nat → Bool} {g : Nat → Value}
theorem GrS.start2 {p : Nat} {E0 : List Ent} (hp : p < n) (hR : R p = []) (M : Mm no w0 w (E0 ++ L)) (g : Nat → Value) (h : post p (psD p fun _ => false) g E0) : GrS n post R w0 L (psD p fun _ => false) g w.drew := by
  have hd : ∀ i, psD p (fun _ => false) i = true → i = p := fun i h => by simpa [psD] using h
  refine ⟨fun i hi j hj => ?_, fun i hi => by rw [hd i hi]; exact hp, updE (fun _ => []) p E0, fun i hi => ?_, fun i hi => ?_, ?_⟩
  · rw [hd i hi, hR] at hj; cases hj
  · obtain rfl := hd i hi
    rw [updE_at]; exact h
  · by_cases e : i = p
    · subst e; rw [psD_at] at hi; cases hi
    · rw [updE_ne e]
  · have h0 : (List.range n).flatMap (fun _ => ([] : List Ent)) = [] := by induction (List.range n) <;> simp_all
    have hp2 := flat_upd (E := fun _ => []) (Ei := E0) (List.nodup_range (n := n)) (List.mem_range.2 hp) rfl
    rw [h0, List.append_nil] at hp2
    exact (M.perm (List.Perm.append_right L hp2.symm)).drew
/-- An operation i that writes to what t has made and reads what those of K have made. -/
theorem GrS.writeK (S : GrS n post R w0 L D g w) (hst : Stable post R W) {i t : Nat} (hi : i < n) (h0 : D i = false) (hR : ∀ j ∈ R i, D j = true) (hW : ∀ j, D j = true → j ≠ t → i ∉ W j) (ht : D t = true) (K : List Nat) (hK : (t :: K).Nodup) (hKD : ∀ k ∈ K, D k = true) :
    ∃ (E : Nat → List Ent) (X : List Ent), (∀ k ∈ t :: K, post k D g (E k)) ∧ Mm no w0 w (E t ++ (K.flatMap E ++ (L ++ X))) ∧
      ∀ u w' Et, Mm no w0 w' (Et ++ (K.flatMap E ++ (L ++ X))) → post t (updD D i) (updG g i u) Et → post i (updD D i) (updG g i u) [] → GrS n post R w0 L (updD D i) (updG g i u) w' := by
  obtain ⟨E, h1, h2, M⟩ := S.mem
  have htn := S.top t ht
  have hti : t ≠ i := fun e => by rw [e, h0] at ht; cases ht
  have hall : ∀ k ∈ t :: K, D k = true := fun k hk => by
    rcases List.mem_cons.1 hk with rfl | hk
    · exact ht
    · exact hKD k hk
  obtain ⟨Y, hY⟩ := pull_list (K := t :: K) (l := List.range n) hK fun k hk => List.mem_range.2 (S.top k (hall k hk))
  have hnd : ((t :: K) ++ Y).Nodup := (hY.nodup_iff).1 List.nodup_range
  have hrest : ∀ E' : Nat → List Ent, ((List.range n).flatMap E').Perm (E' t ++ (K.flatMap E' ++ Y.flatMap E')) := fun E' => by
    have := flat_perm (E := E') hY
    rw [List.flatMap_append, List.flatMap_cons, List.append_assoc] at this
    exact this
  have hswap : ∀ A B : List Ent, (A ++ (K.flatMap E ++ B) ++ L).Perm (A ++ (K.flatMap E ++ (L ++ B))) := fun A B => by
    rw [List.append_assoc, List.append_assoc]
    exact List.Perm.append_left _ (List.Perm.append_left _ List.perm_append_comm)
  refine ⟨E, Y.flatMap E, fun k hk => h1 k (hall k hk), M.perm ((List.Perm.append_right L (hrest E)).trans (hswap _ _)), fun u w' Et M' hp1 hp2 => ?_⟩
  have htK : t ∉ K ++ Y := (List.nodup_cons.1 hnd).1
  have same : ∀ l : List Nat, t ∉ l → l.flatMap (updE E t Et) = l.flatMap E := fun l hl => by
    induction l with
    | nil => rfl
    | cons b l ih =>
      simp only [List.flatMap_cons]
      rw [updE_ne (fun e => hl (by rw [e]; exact List.mem_cons_self ..)), ih fun h => hl (List.mem_cons_of_mem _ h)]
  refine ⟨updD_anc S hR, updD_top S hi, updE E t Et, fun k hk => ?_, fun k hk => ?_, ?_⟩
  · by_cases e : k = t
    · subst e; rw [updE_at]; exact hp1
    · rw [updE_ne e]
      by_cases e2 : k = i
      · subst e2; rw [h2 k h0]; exact hp2
      · rw [updD_ne e2] at hk
        exact hst k i D g u (E k) (fun h => e2 h.symm) (fun h => by have := S.anc k hk i h; rw [h0] at this; cases this) (hW k hk e) (h1 k hk)
  · by_cases e : k = t
    · subst e; rw [updD_ne hti, ht] at hk; cases hk
    · rw [updE_ne e]
      by_cases e2 : k = i
      · subst e2; exact h2 k h0
      · rw [updD_ne e2] at hk; exact h2 k hk
  · have h3 := hrest (updE E t Et)
    rw [updE_at, same K fun h => htK (List.mem_append_left _ h), same Y fun h => htK (List.mem_append_right _ h)] at h3
    exact M'.perm ((List.Perm.append_right L h3).trans (hswap _ _)).symm
end
end Go.Proofs.Ytinjjaoikofkdaa

