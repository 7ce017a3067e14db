/- All isomorphisms that extend a part of one, in order. -/
import Derived.Test.YtjdfjlgjpjgnhaaM2
namespace Go.Proofs.Ytjdfjlgjpjgnhaa

theorem flatMap_congr' {α β : Type} {l : List α} {f g : α → List β} (h : ∀ a ∈ l, f a = g a) : l.flatMap f = l.flatMap g := by
  induction l with
  | nil => rfl
  | cons a l ih => rw [List.flatMap_cons, List.flatMap_cons, h a (by simp), ih fun b hb => h b (by simp [hb])]
theorem nodup_flatMap' {α β : Type} {f : α → List β} : ∀ {l : List α}, (∀ a ∈ l, (f a).Nodup) → l.Pairwise (fun a b => ∀ x ∈ f a, ∀ y ∈ f b, x ≠ y) → (l.flatMap f).Nodup
  | [], _, _ => by simp
  | a :: l, h1, h2 => by
    rw [List.flatMap_cons, List.nodup_append]
    refine ⟨h1 a (by simp), nodup_flatMap' (fun b hb => h1 b (by simp [hb])) (List.pairwise_cons.1 h2).2, fun x hx y hy => ?_⟩
    obtain ⟨b, hb, hyb⟩ := List.mem_flatMap.1 hy
    exact (List.pairwise_cons.1 h2).1 b hb x hx y hyb

/-- All words of k numbers below N, in order. -/
def words (N : Nat) : Nat → List (List Nat)
  | 0 => [[]]
  | k + 1 => (List.range N).flatMap fun y => (words N k).map (y :: ·)
theorem mem_words {N : Nat} : ∀ {k : Nat} {p : List Nat}, p ∈ words N k ↔ p.length = k ∧ ∀ v ∈ p, v < N
  | 0, p => by
    simp only [words, List.mem_singleton]
    constructor
    · rintro rfl; simp
    · rintro ⟨h, _⟩; exact List.eq_nil_of_length_eq_zero h
  | k + 1, p => by
    simp only [words, List.mem_flatMap, List.mem_range, List.mem_map]
    constructor
    · rintro ⟨y, hy, q, hq, rfl⟩
      obtain ⟨h1, h2⟩ := mem_words.1 hq
      refine ⟨by simp [h1], fun v hv => ?_⟩
      rcases List.mem_cons.1 hv with rfl | hv
      · exact hy
      · exact h2 v hv
    · rintro ⟨h1, h2⟩
      cases p with
      | nil => simp at h1
      | cons y q => exact ⟨y, h2 y (by simp), q, mem_words.2 ⟨by simpa using h1, fun v hv => h2 v (by simp [hv])⟩, rfl⟩

/-- A list that is put together of those parts whose key is 0, 1, .. : where the words that count agree ahead of the place x. -/
theorem words_split (N : Nat) : ∀ (k x : Nat) (a : Nat → Nat) (Q : List Nat → Bool), x < k → (∀ p, p ∈ words N k → Q p = true → ∀ i, i < x → p.getD i 0 = a i) →
    (words N k).filter Q = (List.range N).flatMap fun y => (words N k).filter fun p => Q p && decide (p.getD x 0 = y)
  | 0, _, _, _, h, _ => absurd h (by omega)
  | k + 1, 0, a, Q, _, _ => by
    have key : ∀ y, y < N → ((words N (k + 1)).filter fun p => Q p && decide (p.getD 0 0 = y)) = ((words N k).map (y :: ·)).filter Q := by
      intro y hy
      simp only [words, List.filter_flatMap]
      have h1 : ∀ z, (((words N k).map (z :: ·)).filter fun p => Q p && decide (p.getD 0 0 = y)) = if z = y then ((words N k).map (y :: ·)).filter Q else [] := by
        intro z
        split
        · rename_i h; subst h
          refine List.filter_congr fun p hp => ?_
          obtain ⟨q, _, rfl⟩ := List.mem_map.1 hp
          simp
        · rename_i h
          refine List.filter_eq_nil_iff.2 fun p hp => ?_
          obtain ⟨q, _, rfl⟩ := List.mem_map.1 hp
          simp [h]
      simp only [h1]
      have h2 : ∀ (l : List Nat) (c : List (List Nat)), l.Nodup → (l.flatMap fun z => if z = y then c else []) = if y ∈ l then c else [] := by
        intro l c
        induction l with
        | nil => intro _; simp
        | cons z l ih =>
          intro hn
          rw [List.flatMap_cons, ih (List.nodup_cons.1 hn).2]
          by_cases hz : z = y
          · subst hz
            have := (List.nodup_cons.1 hn).1
            simp [this]
          · have : ¬ y = z := fun h => hz h.symm
            simp [hz, this]
      rw [h2 _ _ List.nodup_range]
      simp [hy]
    have h3 : (words N (k + 1)).filter Q = (List.range N).flatMap fun y => ((words N k).map (y :: ·)).filter Q := by simp only [words, List.filter_flatMap]
    rw [h3]
    refine flatMap_congr' fun y hy => ?_
    exact (key y (List.mem_range.1 hy)).symm
  | k + 1, x + 1, a, Q, h, hQ => by
    have ih := fun z : Nat => words_split N k x (fun i => a (i + 1)) (fun p => Q (z :: p)) (by omega)
    have hz : ∀ z, z < N → ((words N k).map (z :: ·)).filter Q = (List.range N).flatMap fun y => ((words N k).map (z :: ·)).filter fun p => Q p && decide (p.getD (x + 1) 0 = y) := by
      intro z hz
      have := ih z fun p hp hq i hi => by
        have := hQ (z :: p) (mem_words.2 ⟨by simp [(mem_words.1 hp).1], fun v hv => by
          rcases List.mem_cons.1 hv with rfl | hv
          · exact hz
          · exact (mem_words.1 hp).2 v hv⟩) hq (i + 1) (by omega)
        simpa using this
      simp only [List.filter_map, Function.comp_def]
      rw [this, List.map_flatMap]
      refine flatMap_congr' fun y _ => ?_
      simp
    by_cases hany : ∃ p, p ∈ words N (k + 1) ∧ Q p = true
    · obtain ⟨p0, hp0, hq0⟩ := hany
      have ha : ∀ z, z ≠ a 0 → ∀ p ∈ words N k, z < N → Q (z :: p) = false := by
        intro z hz p hp hzN
        cases hq : Q (z :: p) with
        | false => rfl
        | true =>
          have := hQ (z :: p) (mem_words.2 ⟨by simp [(mem_words.1 hp).1], fun v hv => by
            rcases List.mem_cons.1 hv with rfl | hv
            · exact hzN
            · exact (mem_words.1 hp).2 v hv⟩) hq 0 (by omega)
          simp at this
          exact absurd this hz
      have ha0 : a 0 < N := by
        have h1 := hQ p0 hp0 hq0 0 (by omega)
        obtain ⟨h2, h3⟩ := mem_words.1 hp0
        cases p0 with
        | nil => simp at h2
        | cons v q => simp at h1; exact h1 ▸ h3 v (by simp)
      have only : ∀ (R : List Nat → Bool), (∀ p, R p = true → Q p = true) → (words N (k + 1)).filter R = ((words N k).map (a 0 :: ·)).filter R := by
        intro R hR
        simp only [words, List.filter_flatMap]
        have h1 : ∀ z ∈ List.range N, ((words N k).map (z :: ·)).filter R = if z = a 0 then ((words N k).map (a 0 :: ·)).filter R else [] := by
          intro z hzr
          split
          · rename_i h; rw [h]
          · rename_i h
            refine List.filter_eq_nil_iff.2 fun p hp => ?_
            obtain ⟨q, hq, rfl⟩ := List.mem_map.1 hp
            intro hr
            have := ha z h q hq (List.mem_range.1 hzr)
            rw [hR _ hr] at this
            cases this
        rw [flatMap_congr' h1]
        have h2 : ∀ (l : List Nat) (c : List (List Nat)), l.Nodup → (l.flatMap fun z => if z = a 0 then c else []) = if a 0 ∈ l then c else [] := by
          intro l c
          induction l with
          | nil => intro _; simp
          | cons z l ih =>
            intro hn
            rw [List.flatMap_cons, ih (List.nodup_cons.1 hn).2]
            by_cases hz : z = a 0
            · have := (List.nodup_cons.1 hn).1
              rw [hz] at this
              simp [hz, this]
            · have : ¬ a 0 = z := fun h => hz h.symm
              simp [hz, this]
        rw [h2 _ _ List.nodup_range]
        simp [ha0]
      rw [only Q fun _ h => h, hz (a 0) ha0]
      refine flatMap_congr' fun y _ => ?_
      rw [only _ fun p hp => by simp at hp; exact hp.1]
    · have h0 : ∀ (R : List Nat → Bool), (∀ p, R p = true → Q p = true) → (words N (k + 1)).filter R = [] := by
        intro R hR
        refine List.filter_eq_nil_iff.2 fun p hp hr => hany ⟨p, hp, hR p hr⟩
      rw [h0 Q fun _ h => h]
      symm
      rw [List.flatMap_eq_nil_iff]
      intro y _
      exact h0 _ fun p hp => by simp at hp; exact hp.1

/-- An isomorphism from t to u, as a word. -/
structure IsIso (N : Nat) (t u : Nat → Nat → Nat) (p : List Nat) : Prop where
  hom : ∀ x y, x < N → y < N → p.getD (t x y) 0 = u (p.getD x 0) (p.getD y 0)
  inj : ∀ x y, x < N → y < N → p.getD x 0 = p.getD y 0 → x = y
/-- A word has what a part of a map has. -/
def Ext (N : Nat) (m : Nat → Option Nat) (p : List Nat) : Prop := ∀ x y, x < N → m x = some y → p.getD x 0 = y
noncomputable def isoB (N : Nat) (t u : Nat → Nat → Nat) (m : Nat → Option Nat) (p : List Nat) : Bool := @decide (IsIso N t u p ∧ Ext N m p) (Classical.propDecidable _)
theorem isoB_true {N : Nat} {t u : Nat → Nat → Nat} {m : Nat → Option Nat} {p : List Nat} : isoB N t u m p = true ↔ IsIso N t u p ∧ Ext N m p := by simp [isoB]
/-- All isomorphisms that extend m, in order. -/
noncomputable def isos (N : Nat) (t u : Nat → Nat → Nat) (m : Nat → Option Nat) : List (List Nat) := (words N N).filter (isoB N t u m)
theorem mem_isos {N : Nat} {t u : Nat → Nat → Nat} {m : Nat → Option Nat} {p : List Nat} : p ∈ isos N t u m ↔ (p.length = N ∧ ∀ v ∈ p, v < N) ∧ IsIso N t u p ∧ Ext N m p := by
  simp [isos, mem_words, isoB_true]
/-- A map with one place more. -/
def upd (m : Nat → Option Nat) (x y : Nat) : Nat → Option Nat := fun i => if i = x then some y else m i

theorem isos_congr {N : Nat} {t u : Nat → Nat → Nat} {m m' : Nat → Option Nat} (h : ∀ p, p.length = N → (∀ v ∈ p, v < N) → IsIso N t u p → (Ext N m p ↔ Ext N m' p)) : isos N t u m = isos N t u m' := by
  unfold isos
  refine List.filter_congr fun p hp => ?_
  obtain ⟨h1, h2⟩ := mem_words.1 hp
  rw [Bool.eq_iff_iff, isoB_true, isoB_true]
  exact ⟨fun h3 => ⟨h3.1, (h p h1 h2 h3.1).1 h3.2⟩, fun h3 => ⟨h3.1, (h p h1 h2 h3.1).2 h3.2⟩⟩
theorem isos_nil {N : Nat} {t u : Nat → Nat → Nat} {m : Nat → Option Nat} (h : ∀ p, p.length = N → (∀ v ∈ p, v < N) → IsIso N t u p → ¬ Ext N m p) : isos N t u m = [] := by
  unfold isos
  refine List.filter_eq_nil_iff.2 fun p hp => ?_
  obtain ⟨h1, h2⟩ := mem_words.1 hp
  rw [isoB_true, not_and]
  exact fun hi => h p h1 h2 hi
theorem isos_split {N : Nat} {t u : Nat → Nat → Nat} {m : Nat → Option Nat} {x : Nat} (hx : x < N) (hm : ∀ i, i < x → m i ≠ none) (hx0 : m x = none) :
    isos N t u m = (List.range N).flatMap fun y => isos N t u (upd m x y) := by
  have h := words_split N N x (fun i => (m i).getD 0) (isoB N t u m) hx fun p _ hq i hi => by
    rw [isoB_true] at hq
    cases hmi : m i with
    | none => exact absurd hmi (hm i hi)
    | some v => exact hq.2 i v (by omega) hmi
  unfold isos
  rw [h]
  refine flatMap_congr' fun y _ => ?_
  refine List.filter_congr fun p _ => ?_
  rw [Bool.eq_iff_iff, isoB_true, Bool.and_eq_true, isoB_true, decide_eq_true_eq]
  constructor
  · rintro ⟨⟨h1, h2⟩, h3⟩
    refine ⟨h1, fun i v hi hv => ?_⟩
    unfold upd at hv
    split at hv
    · rename_i e; subst e; rw [← Option.some.inj hv]; exact h3
    · exact h2 i v hi hv
  · rintro ⟨h1, h2⟩
    refine ⟨⟨h1, fun i v hi hv => h2 i v hi ?_⟩, h2 x y hx (by simp [upd])⟩
    unfold upd
    rw [if_neg (fun e => by subst e; rw [hx0] at hv; cases hv)]
    exact hv

/-- The word of a map that has all. -/
def wordOf (N : Nat) (m : Nat → Option Nat) : List Nat := (List.range N).map fun i => (m i).getD 0
theorem words_nodup (N : Nat) : ∀ k, (words N k).Nodup
  | 0 => by simp [words]
  | k + 1 => by
    unfold words
    refine nodup_flatMap' (fun y _ => ?_) ?_
    · have := words_nodup N k
      rw [List.Nodup, List.pairwise_map]
      exact this.imp fun h e => h (by simpa using e)
    · refine List.nodup_range.imp fun {a b} hab p hp q hq => ?_
      obtain ⟨r, _, rfl⟩ := List.mem_map.1 hp
      obtain ⟨s, _, rfl⟩ := List.mem_map.1 hq
      intro e
      simp at e
      exact hab e.1
theorem isos_total {N : Nat} {t u : Nat → Nat → Nat} {m : Nat → Option Nat} (hall : ∀ i, i < N → ∃ v, m i = some v ∧ v < N) (ht : ∀ x y, x < N → y < N → t x y < N)
    (hhom : ∀ x y a b, x < N → y < N → m x = some a → m y = some b → m (t x y) = some (u a b)) (hinj : ∀ x y a, x < N → y < N → m x = some a → m y = some a → x = y) : isos N t u m = [wordOf N m] := by
  have hget : ∀ i, i < N → (wordOf N m).getD i 0 = (m i).getD 0 := fun i hi => by simp [wordOf, List.getD_eq_getElem?_getD, hi]
  have hmem : wordOf N m ∈ isos N t u m := by
    refine mem_isos.2 ⟨⟨by simp [wordOf], fun v hv => ?_⟩, ⟨fun x y hx hy => ?_, fun x y hx hy h => ?_⟩, fun x y hx h => by rw [hget x hx, h]; rfl⟩
    · simp only [wordOf, List.mem_map, List.mem_range] at hv
      obtain ⟨i, hi, rfl⟩ := hv
      obtain ⟨w, hw, hlt⟩ := hall i hi
      rw [hw]; exact hlt
    · rw [hget _ (ht x y hx hy), hget x hx, hget y hy]
      obtain ⟨a, ha, _⟩ := hall x hx
      obtain ⟨b, hb, _⟩ := hall y hy
      rw [hhom x y a b hx hy ha hb, ha, hb]; rfl
    · rw [hget x hx, hget y hy] at h
      obtain ⟨a, ha, _⟩ := hall x hx
      obtain ⟨b, hb, _⟩ := hall y hy
      rw [ha, hb] at h
      exact hinj x y a hx hy ha (by rw [hb]; exact congrArg some h.symm)
  have huniq : ∀ p ∈ isos N t u m, p = wordOf N m := by
    intro p hp
    obtain ⟨⟨h1, _⟩, _, h3⟩ := mem_isos.1 hp
    refine List.ext_getElem (by simp [wordOf, h1]) fun i hi1 hi2 => ?_
    have hi : i < N := by omega
    obtain ⟨a, ha, _⟩ := hall i hi
    have := h3 i a hi ha
    simp [List.getD_eq_getElem?_getD, hi1] at this
    simp [wordOf, ha, this]
  have hnd : (isos N t u m).Nodup := (words_nodup N N).filter _
  cases hl : isos N t u m with
  | nil => rw [hl] at hmem; cases hmem
  | cons a l =>
    have h1 := huniq a (by rw [hl]; simp)
    cases l with
    | nil => rw [h1]
    | cons b l =>
      have h2 := huniq b (by rw [hl]; simp)
      rw [hl] at hnd
      simp [h1, h2] at hnd
end Go.Proofs.Ytjdfjlgjpjgnhaa
