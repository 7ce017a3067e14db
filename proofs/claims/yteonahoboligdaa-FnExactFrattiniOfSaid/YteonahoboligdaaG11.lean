/- The Frattini subloop, in plain Lean. -/
import Derived.Test.YteonahoboligdaaG8
namespace Go.Proofs.Yteonahoboligdaa
set_option linter.unusedSimpArgs false
set_option linter.unusedVariables false

/-- Whether a set is a greatest one but the whole. -/
def grt (L : List Nat) (A s : Nat) : Bool := (s != A) && L.all fun t => (t == s) || (t == A) || ((s &&& t) != s)
/-- What the first k sets leave. -/
def fraTo (L : List Nat) (A k : Nat) : Nat := (L.take k).foldl (fun o s => if grt L A s = true then o &&& s else o) A
theorem fraTo_succ {L : List Nat} {A k s : Nat} (h : L[k]? = some s) : fraTo L A (k + 1) = if grt L A s = true then fraTo L A k &&& s else fraTo L A k := by
  unfold fraTo
  rw [List.take_add_one, h, Option.toList_some, List.foldl_append]
  rfl
theorem and_lt {a b : Nat} (h : a < 1024) : a &&& b < 1024 := Nat.lt_of_le_of_lt Nat.and_le_left h
theorem fraTo_lt {L : List Nat} {A : Nat} (hA : A < 1024) : ∀ k, fraTo L A k < 1024
  | 0 => hA
  | k + 1 => by
    cases h : L[k]? with
    | none =>
      have : fraTo L A (k + 1) = fraTo L A k := by
        unfold fraTo
        rw [List.take_add_one, h]; simp
      rw [this]; exact fraTo_lt hA k
    | some s =>
      rw [fraTo_succ h]
      split
      · exact and_lt (fraTo_lt hA k)
      · exact fraTo_lt hA k
theorem subM_and {a b : Nat} : SubM a b ↔ a &&& b = a :=
  ⟨fun h => mask_ext fun i => by rw [Nat.testBit_and, Bool.and_eq_true]; exact ⟨fun h => h.1, fun h2 => ⟨h2, h i h2⟩⟩, fun h i hi => by rw [← h, Nat.testBit_and, Bool.and_eq_true] at hi; exact hi.2⟩
/-- All elements. -/
def allM (n : Nat) : Nat := 2 ^ n - 1
theorem allM_bit (n i : Nat) : (allM n).testBit i = true ↔ i < n := by unfold allM; rw [Nat.testBit_two_pow_sub_one, decide_eq_true_iff]
theorem allM_lt {n : Nat} (h : n ≤ 10) : allM n < 1024 := by
  have := Nat.pow_le_pow_right (n := 2) (by omega) h
  unfold allM; omega
section
variable {n : Nat} {t : Nat → Nat → Nat} (hs : IsSq (n : Int) t)
include hs
theorem allM_sub : SubL n t (allM n) := by
  have hn : n ≤ 10 := by have := hs.hi; omega
  refine ⟨allM_lt hn, ⟨?_, fun b x y hb hx hy => ?_⟩, fun i h => (allM_bit n i).1 h⟩
  · exact (allM_bit n 0).2 (clo_all hs).zero
  · exact (allM_bit n _).2 ((clo_all hs).op b x y hb ((allM_bit n x).1 hx) ((allM_bit n y).1 hy))
omit hs in
theorem subs_at {i : Nat} {s : Nat} (h : (subs n t)[i]? = some s) : (allL n t)[i]? = some (mL s) := by
  rw [← subs_lists, List.getElem?_map, h]; rfl
omit hs in
theorem subs_bef {i k : Nat} {s u : Nat} (h : (subs n t)[i]? = some s) (g : (subs n t)[k]? = some u) (hik : i < k) : befL (mL s) (mL u) = true := by
  have hi := List.getElem?_eq_some_iff.1 (subs_at h)
  have hk := List.getElem?_eq_some_iff.1 (subs_at g)
  obtain ⟨h1, h2⟩ := hi
  obtain ⟨h3, h4⟩ := hk
  have := List.pairwise_iff_getElem.1 (allL_srt n t) i k h1 h3 hik
  rw [h2, h4] at this; exact this
theorem subs_last {i : Nat} (h : (subs n t)[i]? = some (allM n)) : i + 1 = (subs n t).length := by
  have hi := (List.getElem?_eq_some_iff.1 h).1
  rcases Nat.lt_or_ge (i + 1) (subs n t).length with h1 | h1
  · have g := List.getElem?_eq_getElem h1
    have hb := subs_bef h g (Nat.lt_succ_self i)
    have hm := subs_mem.1 (List.mem_of_getElem? g)
    have hsub : SubM ((subs n t)[i + 1]) (allM n) := fun j hj => (allM_bit n j).2 (hm.2.2 j hj)
    by_cases e : (subs n t)[i + 1] = allM n
    · rw [e, befL_irr] at hb; cases hb
    · have h2 := befL_len (sub_len hm.1 (allM_sub hs).1 hsub e)
      rw [befL_asym hb] at h2; cases h2
  · omega
theorem subs_last_is {i : Nat} (h : i + 1 = (subs n t).length) : (subs n t)[i]? = some (allM n) := by
  obtain ⟨j, hj⟩ := List.getElem?_of_mem (subs_mem.2 (allM_sub hs))
  have := subs_last hs hj
  obtain rfl : i = j := by omega
  exact hj
/-- A greatest one, as the reference tests it. -/
theorem grt_spec {i s : Nat} (h : (subs n t)[i]? = some s) (hi : i + 1 < (subs n t).length) : grt (subs n t) (allM n) s = true ↔ ∀ k u, i < k → k + 1 < (subs n t).length → (subs n t)[k]? = some u → ¬ SubM s u := by
  have hsm := subs_mem.1 (List.mem_of_getElem? h)
  unfold grt
  rw [Bool.and_eq_true, List.all_eq_true]
  constructor
  · rintro ⟨_, hall⟩ k u hk hk2 hu hsub
    have h2 := hall u (List.mem_of_getElem? hu)
    simp only [Bool.or_eq_true, beq_iff_eq, bne_iff_ne, ne_eq] at h2
    rcases h2 with (h2 | h2) | h2
    · subst h2
      have := subs_bef h hu hk
      rw [befL_irr] at this; cases this
    · subst h2
      have := subs_last hs hu; omega
    · exact h2 (subM_and.1 hsub)
  · intro hall
    refine ⟨?_, fun u hu => ?_⟩
    · rw [bne_iff_ne]
      intro e
      subst e
      have := subs_last hs h; omega
    · obtain ⟨k, hk⟩ := List.getElem?_of_mem hu
      have hkl := (List.getElem?_eq_some_iff.1 hk).1
      simp only [Bool.or_eq_true, beq_iff_eq, bne_iff_ne, ne_eq]
      by_cases e : u = s
      · exact .inl (.inl e)
      · by_cases e2 : k + 1 = (subs n t).length
        · have := subs_last_is hs e2
          rw [hk] at this
          exact .inl (.inr (Option.some.inj this))
        · refine .inr fun hand => ?_
          have hsub := subM_and.2 hand
          have hum := subs_mem.1 hu
          rcases Nat.lt_trichotomy k i with h1 | h1 | h1
          · have hb := subs_bef hk h h1
            have h2 := befL_len (sub_len hsm.1 hum.1 hsub fun e3 => e e3.symm)
            rw [befL_asym hb] at h2; cases h2
          · subst h1
            rw [h] at hk
            exact e (Option.some.inj hk).symm
          · exact hall k u h1 (by omega) hk hsub
omit hs in
theorem grt_whole : grt (subs n t) (allM n) (allM n) = false := by unfold grt; simp
/-- The whole does not matter. -/
theorem fraTo_all : fraTo (subs n t) (allM n) (subs n t).length = fraTo (subs n t) (allM n) ((subs n t).length - 1) := by
  have hpos : 0 < (subs n t).length := List.length_pos_of_mem (subs_mem.2 (allM_sub hs))
  obtain ⟨m, hm⟩ : ∃ m, (subs n t).length = m + 1 := ⟨(subs n t).length - 1, by omega⟩
  rw [hm, fraTo_succ (subs_last_is hs hm.symm), grt_whole, if_neg (by decide)]; rfl
end
/-- The Frattini subloop. -/
noncomputable def fraM (n : Nat) (t : Nat → Nat → Nat) : Nat := fraTo (subs n t) (allM n) (subs n t).length
/-- A set of elements of a loop, handed back as a list with a code. -/
noncomputable def lsRes (n : Int) (t : Nat → Nat → Nat) (m : Nat → Nat) : List Int × Int := if isLp n t = true then ((mL (m n.toNat)).map fun x : Nat => (x : Int), 0) else ([], 1)
theorem ls_len (n : Int) (t : Nat → Nat → Nat) (m : Nat → Nat) : (lsRes n t m).1.length ≤ 100 := by
  unfold lsRes
  split
  · rw [List.length_map]; exact Nat.le_trans (mL_le _) (by decide)
  · exact Nat.zero_le _
noncomputable def frRes (n : Int) (t : Nat → Nat → Nat) : List Int × Int := lsRes n t fun N => fraM N t
end Go.Proofs.Yteonahoboligdaa
