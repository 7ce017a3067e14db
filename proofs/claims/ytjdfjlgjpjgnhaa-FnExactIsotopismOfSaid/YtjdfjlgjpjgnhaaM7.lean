/- How many isomorphisms there are at most; loops at elements are squares. -/
import Derived.Test.YtjdfjlgjpjgnhaaM6
namespace Go.Proofs.Ytjdfjlgjpjgnhaa

/-- Rows and columns tell their places. -/
structure Lat (N : Nat) (t : Nat → Nat → Nat) : Prop where
  lt : ∀ x y, x < N → y < N → t x y < N
  left : ∀ x y z, x < N → y < N → z < N → t x y = t x z → y = z
  right : ∀ x y z, x < N → y < N → z < N → t y x = t z x → y = z
theorem pm_inj {n : Int} {p : Nat → Nat} (h : IsPm n p) {i j : Nat} (hi : (i : Int) < n) (hj : (j : Int) < n) (e : p i = p j) : i = j := by
  have := h.hi
  rcases Nat.lt_trichotomy i j with h2 | h2 | h2
  · exact absurd e.symm (h.inj j i (by omega) h2 hj)
  · exact h2
  · exact absurd e (h.inj i j (by omega) h2 hi)
theorem Lat.of_sq {N : Nat} {t : Nat → Nat → Nat} (h : IsSq (N : Int) t) : Lat N t where
  lt x y hx hy := by
    have := h.hi
    have := (h.rows.row x (by omega) (by omega)).lt y (by omega) (by omega)
    omega
  left x y z hx hy hz e := by
    have := h.hi
    exact pm_inj (h.rows.row x (by omega) (by omega)) (by omega) (by omega) e
  right x y z hx hy hz e := by
    have := h.hi
    exact pm_inj (h.cols.row x (by omega) (by omega)) (i := y) (j := z) (by omega) (by omega) e

/-- Where a part leads, and where it does not. -/
def dm (N : Nat) (f : Nat → Int) : List Nat := (List.range N).filter fun z => decide (0 ≤ f z)
def dn (N : Nat) (f : Nat → Int) : List Nat := (List.range N).filter fun z => decide (f z < 0)
theorem dm_len (f : Nat → Int) : ∀ N, (dm N f).length + um f N = N
  | 0 => by simp [dm, um]
  | N + 1 => by
    have ih := dm_len f N
    unfold dm at *
    rw [List.range_succ, List.filter_append, List.length_append]
    simp only [um, List.filter_cons, List.filter_nil]
    by_cases h : f N < 0
    · rw [if_pos h, if_neg (by simp; omega)]; simp; omega
    · rw [if_neg h, if_pos (by simp; omega)]; simp; omega
theorem dn_len (f : Nat → Int) : ∀ N, (dn N f).length = um f N
  | 0 => by simp [dn, um]
  | N + 1 => by
    have ih := dn_len f N
    unfold dn at *
    rw [List.range_succ, List.filter_append, List.length_append, ih]
    simp only [um, List.filter_cons, List.filter_nil]
    by_cases h : f N < 0
    · rw [if_pos h, if_pos (by simpa using h)]; simp
    · rw [if_neg h, if_neg (by simpa using h)]; simp
theorem nodup_map' {α β : Type} {f : α → β} : ∀ {l : List α}, l.Nodup → (∀ a ∈ l, ∀ b ∈ l, f a = f b → a = b) → (l.map f).Nodup
  | [], _, _ => by simp
  | a :: l, h, hi => by
    rw [List.map_cons, List.nodup_cons]
    obtain ⟨h1, h2⟩ := List.nodup_cons.1 h
    refine ⟨fun hm => ?_, nodup_map' h2 fun x hx y hy => hi x (by simp [hx]) y (by simp [hy])⟩
    obtain ⟨b, hb, e⟩ := List.mem_map.1 hm
    exact h1 (hi b (by simp [hb]) a (by simp) e ▸ hb)
/-- A part that is closed and does not lead all leads half of all at most. -/
theorem half {N : Nat} {t u : Nat → Nat → Nat} {m : PM} (hl : Lat N t) (hc : Cl N t u m) {x : Nat} (hx : x < N) (hx0 : m.to x < 0) : 2 * (N - um m.to N) ≤ N := by
  have hcl : ∀ a b, a < N → b < N → 0 ≤ m.to a → 0 ≤ m.to b → 0 ≤ m.to (t a b) := fun a b ha hb h1 h2 => by
    have := hc a b ha hb h1 h2
    unfold Cons at this; omega
  have hnew : ∀ z, z < N → 0 ≤ m.to z → m.to (t x z) < 0 := fun z hz hz0 => by
    rcases Int.lt_or_le (m.to (t x z)) 0 with h | h
    · exact h
    · exfalso
      obtain ⟨i, hi, he⟩ := surj_of_inj N (fun i => if 0 ≤ m.to i then t i z else i) (fun i hi => by
        split
        · exact hl.lt _ _ hi hz
        · exact hi) (fun i j hi hj e => by
        split at e <;> split at e
        · exact hl.right z i j hz hi hj e
        · rename_i h1 h2; exact absurd (e ▸ hcl i z hi hz h1 hz0) h2
        · rename_i h1 h2; exact absurd (e ▸ hcl j z hj hz h2 hz0) h1
        · exact e) (t x z) (hl.lt x z hx hz)
      split at he
      · rename_i h1
        have := hl.right z i x hz hi hx he
        subst this; omega
      · rename_i h1; exact h1 (he ▸ h)
  have h1 := dm_len m.to N
  have h2 := dn_len m.to N
  have h3 := List.Nodup.length_le_of_subset (l₁ := (dm N m.to).map (t x)) (l₂ := dn N m.to) (nodup_map' (List.Pairwise.filter _ List.nodup_range) fun a ha b hb e => by
    simp only [dm, List.mem_filter, List.mem_range] at ha hb
    exact hl.left x a b hx ha.1 hb.1 e) fun v hv => by
    obtain ⟨z, hz, rfl⟩ := List.mem_map.1 hv
    simp only [dm, List.mem_filter, List.mem_range, decide_eq_true_eq] at hz
    simp only [dn, List.mem_filter, List.mem_range, decide_eq_true_eq]
    exact ⟨hl.lt x z hx hz.1, hnew z hz.1 hz.2⟩
  rw [List.length_map] at h3
  omega

theorem flatMap_len {α : Type} {f : Nat → List α} {B : Nat} : ∀ {N : Nat}, (∀ y, y < N → (f y).length ≤ B) → ((List.range N).flatMap f).length ≤ N * B
  | 0, _ => by simp
  | N + 1, h => by
    rw [List.range_succ, List.flatMap_append, List.length_append, List.flatMap_singleton, Nat.succ_mul]
    exact Nat.add_le_add (flatMap_len fun y hy => h y (by omega)) (h N (by omega))
def gq (N d : Nat) : Nat := if d = N then 0 else N / 2 + 1 - d
theorem isos_bound {N : Nat} {t u : Nat → Nat → Nat} (hl : Lat N t) (hu : ∀ a b, a < N → b < N → u a b < N) : ∀ (K : Nat) (m : PM), Va N m → Cl N t u m → um m.to N < K → (isos N t u m.abs).length ≤ N ^ gq N (N - um m.to N)
  | 0, _, _, _, h => absurd h (by omega)
  | K + 1, m, hv, hc, hK => by
    by_cases h0 : um m.to N = 0
    · rw [isos_full hl.lt hv hc h0, h0, Nat.sub_zero, gq, if_pos rfl]; simp
    · obtain ⟨x, hx, hx0, hxm⟩ := um_pos h0
      have hul := um_le m.to N
      have hh := half hl hc hx hx0
      rw [isos_first hx hxm hx0]
      have hg : gq N (N - um m.to N) = (gq N (N - um m.to N) - 1) + 1 := by
        unfold gq; rw [if_neg (by omega)]; omega
      rw [hg, Nat.pow_succ, Nat.mul_comm]
      refine flatMap_len fun y hy => ?_
      have hC := closeF_closes hl.lt hu (um m.to N + 1) m x y hv hx hy (by omega)
      cases h2 : (closeF N t u (um m.to N + 1) m x y).2 with
      | false => rw [isos_failed hx hx0 hC h2]; exact Nat.zero_le _
      | true =>
        have hum := closed_um hx hx0 hC h2
        have hcl := closed_cl hl.lt hc hC h2
        rw [isos_closed hx hx0 hC h2]
        refine Nat.le_trans (isos_bound hl hu K _ (hC.va h2) hcl (by omega)) (Nat.pow_le_pow_right (by omega) ?_)
        generalize (closeF N t u (um m.to N + 1) m x y).1 = m' at hum hcl
        have hul' := um_le m'.to N
        by_cases h3 : um m'.to N = 0
        · rw [h3, Nat.sub_zero]; unfold gq; rw [if_pos rfl]; exact Nat.zero_le _
        · obtain ⟨x', hx', hx0', _⟩ := um_pos h3
          have := half hl hcl hx' hx0'
          unfold gq; rw [if_neg (by omega), if_neg (by omega)]; omega
theorem iso_most {N : Nat} {t u : Nat → Nat → Nat} (h1 : N ≤ 10) (hl : Lat N t) (hu : ∀ a b, a < N → b < N → u a b < N) : (isos N t u fun _ => none).length ≤ 1000000 := by
  have h := isos_bound hl hu (N + 1) ⟨fun _ => -1, fun _ => 0, 0⟩ (zero_va N) (zero_cl N t u) (by have := um_le (fun _ => (-1 : Int)) N; show um (fun _ => -1) N < N + 1; omega)
  rw [zero_abs] at h
  refine Nat.le_trans h ?_
  have hg : gq N (N - um (fun _ => (-1 : Int)) N) ≤ 6 := by
    unfold gq; split <;> omega
  have e1 : ∀ k, k ≤ 6 → N ^ k ≤ 10 ^ 6 := fun k hk => Nat.le_trans (Nat.pow_le_pow_left h1 k) (Nat.pow_le_pow_right (by omega) hk)
  exact e1 _ hg

/-! ### Isotopes of squares -/
structure Pm (N : Nat) (f : Nat → Nat) : Prop where
  lt : ∀ i, i < N → f i < N
  inj : ∀ i j, i < N → j < N → f i = f j → i = j
theorem Pm.surj {N : Nat} {f : Nat → Nat} (h : Pm N f) {v : Nat} (hv : v < N) : ∃ i, i < N ∧ f i = v := surj_of_inj N f h.lt h.inj v hv
theorem isoW_at {N : Nat} {t : Nat → Nat → Nat} {f g h : Nat → Nat} (hf : Pm N f) (hg : Pm N g) : ∀ m, m ≤ N * N → ∀ x y, x < N → y < N → isoW N t f g h m (f x) (g y) = if x * N + y < m then h (t x y) else 0
  | 0, _, x, y, _, _ => by simp [isoW]
  | m + 1, hm, x, y, hx, hy => by
    have hN : 0 < N := by omega
    have h1 : m / N < N := Nat.div_lt_of_lt_mul (by omega)
    have h2 : m % N < N := Nat.mod_lt _ hN
    have h3 := Nat.div_add_mod m N
    rw [Nat.mul_comm] at h3
    simp only [isoW]
    by_cases e : x = m / N ∧ y = m % N
    · obtain ⟨rfl, rfl⟩ := e
      rw [if_pos ⟨rfl, rfl⟩, if_pos (by omega)]
    · rw [if_neg (fun hc => e ⟨hf.inj _ _ hx h1 hc.1, hg.inj _ _ hy h2 hc.2⟩), isoW_at hf hg m (by omega) x y hx hy]
      have hne : x * N + y ≠ m := fun hc => e (by
        have e1 : (x * N + y) / N = x := by rw [Nat.mul_comm, Nat.mul_add_div hN, Nat.div_eq_of_lt hy]; rfl
        have e2 : (x * N + y) % N = y := by rw [Nat.mul_comm, Nat.mul_add_mod]; exact Nat.mod_eq_of_lt hy
        rw [hc] at e1 e2
        exact ⟨e1.symm, e2.symm⟩)
      by_cases c : x * N + y < m
      · rw [if_pos c, if_pos (by omega)]
      · rw [if_neg c, if_neg (by omega)]
theorem isoW_all {N : Nat} {t : Nat → Nat → Nat} {f g h : Nat → Nat} (hf : Pm N f) (hg : Pm N g) {x y : Nat} (hx : x < N) (hy : y < N) : isoW N t f g h (N * N) (f x) (g y) = h (t x y) := by
  rw [isoW_at hf hg _ (Nat.le_refl _) x y hx hy, if_pos]
  have : (x + 1) * N ≤ N * N := Nat.mul_le_mul_right _ hx
  rw [Nat.succ_mul] at this; omega
theorem lat_isoW {N : Nat} {t : Nat → Nat → Nat} {f g h : Nat → Nat} (hl : Lat N t) (hf : Pm N f) (hg : Pm N g) (hh : Pm N h) : Lat N (isoW N t f g h (N * N)) where
  lt i j hi hj := by
    obtain ⟨x, hx, rfl⟩ := hf.surj hi
    obtain ⟨y, hy, rfl⟩ := hg.surj hj
    rw [isoW_all hf hg hx hy]; exact hh.lt _ (hl.lt _ _ hx hy)
  left i j k hi hj hk e := by
    obtain ⟨x, hx, rfl⟩ := hf.surj hi
    obtain ⟨y, hy, rfl⟩ := hg.surj hj
    obtain ⟨z, hz, rfl⟩ := hg.surj hk
    rw [isoW_all hf hg hx hy, isoW_all hf hg hx hz] at e
    rw [hl.left x y z hx hy hz (hh.inj _ _ (hl.lt _ _ hx hy) (hl.lt _ _ hx hz) e)]
  right i j k hi hj hk e := by
    obtain ⟨x, hx, rfl⟩ := hg.surj hi
    obtain ⟨y, hy, rfl⟩ := hf.surj hj
    obtain ⟨z, hz, rfl⟩ := hf.surj hk
    rw [isoW_all hf hg hy hx, isoW_all hf hg hz hx] at e
    rw [hl.right x y z hx hy hz (hh.inj _ _ (hl.lt _ _ hy hx) (hl.lt _ _ hz hx) e)]
theorem pm_xch {N e : Nat} (he : e < N) : Pm N (xch N e) where
  lt i hi := by unfold xch idTo; split <;> (try split) <;> (try split) <;> omega
  inj i j hi hj h := by
    unfold xch idTo at h
    repeat' split at h
    all_goals omega
theorem pm_then {N : Nat} {p q : Nat → Nat} (hp : Pm N p) (hq : Pm N q) : Pm N (thTo p q N) where
  lt i hi := by unfold thTo; rw [if_pos hi]; exact hq.lt _ (hp.lt i hi)
  inj i j hi hj h := by unfold thTo at h; rw [if_pos hi, if_pos hj] at h; exact hp.inj i j hi hj (hq.inj _ _ (hp.lt i hi) (hp.lt j hj) h)
theorem Lat.row {N : Nat} {t : Nat → Nat → Nat} (h : Lat N t) {a : Nat} (ha : a < N) : Pm N (t a) := ⟨fun i hi => h.lt a i ha hi, fun i j hi hj e => h.left a i j ha hi hj e⟩
theorem Lat.col {N : Nat} {t : Nat → Nat → Nat} (h : Lat N t) {b : Nat} (hb : b < N) : Pm N (fun x => t x b) := ⟨fun i hi => h.lt i b hi hb, fun i j hi hj e => h.right b i j hb hi hj e⟩
/-- The maps that lead a square to its loop at two elements. -/
def toF (N : Nat) (t : Nat → Nat → Nat) (a b : Nat) : Nat → Nat := thTo (fun x => t x b) (xch N (t a b)) N
def toG (N : Nat) (t : Nat → Nat → Nat) (a b : Nat) : Nat → Nat := thTo (t a) (xch N (t a b)) N
def toH (N : Nat) (t : Nat → Nat → Nat) (a b : Nat) : Nat → Nat := xch N (t a b)
theorem pm_toF {N : Nat} {t : Nat → Nat → Nat} (h : Lat N t) {a b : Nat} (ha : a < N) (hb : b < N) : Pm N (toF N t a b) := pm_then (h.col hb) (pm_xch (h.lt a b ha hb))
theorem pm_toG {N : Nat} {t : Nat → Nat → Nat} (h : Lat N t) {a b : Nat} (ha : a < N) (hb : b < N) : Pm N (toG N t a b) := pm_then (h.row ha) (pm_xch (h.lt a b ha hb))
theorem pm_toH {N : Nat} {t : Nat → Nat → Nat} (h : Lat N t) {a b : Nat} (ha : a < N) (hb : b < N) : Pm N (toH N t a b) := pm_xch (h.lt a b ha hb)
/-- The loop of a square at two elements. -/
def loopAt (N : Nat) (t : Nat → Nat → Nat) (a b : Nat) : Nat → Nat → Nat := isoW N t (toF N t a b) (toG N t a b) (toH N t a b) (N * N)
theorem lat_loopAt {N : Nat} {t : Nat → Nat → Nat} (h : Lat N t) {a b : Nat} (ha : a < N) (hb : b < N) : Lat N (loopAt N t a b) := lat_isoW h (pm_toF h ha hb) (pm_toG h ha hb) (pm_toH h ha hb)
end Go.Proofs.Ytjdfjlgjpjgnhaa
