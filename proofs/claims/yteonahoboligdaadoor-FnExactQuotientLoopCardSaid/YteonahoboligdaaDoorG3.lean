/- The order of sets as lists, and the list of all subloops, in plain Lean. -/
import Derived.Test.YteonahoboligdaaDoorG1
import Derived.Test.YteonahoboligdaaDoorE6
namespace Go.Proofs.YteonahoboligdaaDoor
set_option linter.unusedSimpArgs false
set_option linter.unusedVariables false

/-! ### The order of lists -/
def lexC : List Nat → List Nat → Int
  | [], [] => 0
  | [], _ :: _ => -1
  | _ :: _, [] => 1
  | x :: a, y :: b => if x < y then -1 else if y < x then 1 else lexC a b
theorem lexC_self : ∀ a, lexC a a = 0
  | [] => rfl
  | x :: a => by rw [lexC, if_neg (Nat.lt_irrefl _), if_neg (Nat.lt_irrefl _), lexC_self a]
theorem lexC_eq : ∀ {a b : List Nat}, lexC a b = 0 → a = b
  | [], [], _ => rfl
  | [], _ :: _, h => by simp [lexC] at h
  | _ :: _, [], h => by simp [lexC] at h
  | x :: a, y :: b, h => by
    rw [lexC] at h
    split at h
    · cases h
    · split at h
      · cases h
      · rw [lexC_eq h, show x = y by omega]
theorem lexC_anti : ∀ a b : List Nat, lexC b a = - lexC a b
  | [], [] => rfl
  | [], _ :: _ => rfl
  | _ :: _, [] => rfl
  | x :: a, y :: b => by
    rw [lexC, lexC]
    have := lexC_anti a b
    repeat' split
    all_goals omega
theorem lexC_trans : ∀ {a b c : List Nat}, lexC a b < 0 → lexC b c < 0 → lexC a c < 0
  | [], [], _, h, _ => by simp [lexC] at h
  | [], _ :: _, [], _, h => by simp [lexC] at h
  | [], _ :: _, _ :: _, _, _ => by simp [lexC]
  | _ :: _, [], _, h, _ => by simp [lexC] at h
  | _ :: _, _ :: _, [], _, h => by simp [lexC] at h
  | x :: a, y :: b, z :: c, h, k => by
    rw [lexC] at h k ⊢
    have := @lexC_trans a b c
    repeat' split at h
    all_goals repeat' split at k
    all_goals repeat' split
    all_goals omega
theorem lexC_at : ∀ {i : Nat} {a b : List Nat} {x y : Nat}, (∀ j, j < i → a[j]? = b[j]?) → a[i]? = some x → b[i]? = some y → x ≠ y → lexC a b = if x < y then -1 else 1
  | 0, [], _, _, _, _, h, _, _ => by simp at h
  | 0, _ :: _, [], _, _, _, _, h, _ => by simp at h
  | 0, u :: a, v :: b, x, y, _, h, k, hne => by
    simp at h k
    subst h k
    rw [lexC]
    repeat' split
    all_goals omega
  | i + 1, [], _, _, _, _, h, _, _ => by simp at h
  | i + 1, _ :: _, [], _, _, _, _, h, _ => by simp at h
  | i + 1, u :: a, v :: b, x, y, hp, h, k, hne => by
    have h0 := hp 0 (by omega)
    simp at h0
    subst h0
    rw [lexC, if_neg (Nat.lt_irrefl _), if_neg (Nat.lt_irrefl _)]
    exact lexC_at (i := i) (fun j hj => by have := hp (j + 1) (by omega); simpa using this) (by simpa using h) (by simpa using k) hne
/-- The list that comes first: with fewer numbers, or as many and lexicographically less. -/
def befL (a b : List Nat) : Bool := if a.length = b.length then decide (lexC a b < 0) else decide (a.length < b.length)
theorem befL_irr (a : List Nat) : befL a a = false := by simp [befL, lexC_self]
theorem befL_trans {a b c : List Nat} (h : befL a b = true) (k : befL b c = true) : befL a c = true := by
  have := @lexC_trans a b c
  unfold befL at *
  split at h <;> split at k <;> split <;> simp only [decide_eq_true_eq] at * <;> first | omega | (exact this h k)
theorem befL_tot {a b : List Nat} (h : a ≠ b) : befL a b = true ∨ befL b a = true := by
  have h1 := lexC_anti a b
  have h2 : lexC a b ≠ 0 := fun e => h (lexC_eq e)
  unfold befL
  split <;> split <;> simp only [decide_eq_true_eq] <;> omega
theorem befL_asym {a b : List Nat} (h : befL a b = true) : befL b a = false := by
  cases hb : befL b a with
  | false => rfl
  | true => have := befL_trans h hb; rw [befL_irr] at this; cases this
theorem befL_len {a b : List Nat} (h : a.length < b.length) : befL a b = true := by
  unfold befL
  rw [if_neg (by omega)]
  exact decide_eq_true h

/-! ### Sorted lists of lists -/
def Srt (L : List (List Nat)) : Prop := L.Pairwise fun a b => befL a b = true
theorem srt_eq {L K : List (List Nat)} (hL : Srt L) (hK : Srt K) (h : ∀ x, x ∈ L ↔ x ∈ K) : L = K := by
  have key : ∀ {L K : List (List Nat)}, Srt L → Srt K → (∀ x, x ∈ L ↔ x ∈ K) → L = K := by
    intro L
    induction L with
    | nil =>
      intro K _ _ h
      cases K with
      | nil => rfl
      | cons y K => have := (h y).2 (List.mem_cons_self ..); cases this
    | cons x L ih =>
      intro K hL hK h
      cases K with
      | nil => have := (h x).1 (List.mem_cons_self ..); cases this
      | cons y K =>
        have hL' := List.pairwise_cons.1 hL
        have hK' := List.pairwise_cons.1 hK
        have hxy : x = y := by
          rcases List.mem_cons.1 ((h x).1 (List.mem_cons_self ..)) with e | hx
          · exact e
          · rcases List.mem_cons.1 ((h y).2 (List.mem_cons_self ..)) with e | hy
            · exact e.symm
            · have h1 := hK'.1 x hx
              have h2 := hL'.1 y hy
              rw [befL_asym h1] at h2; cases h2
        subst hxy
        congr 1
        refine ih hL'.2 hK'.2 fun z => ⟨fun hz => ?_, fun hz => ?_⟩
        · rcases List.mem_cons.1 ((h z).1 (List.mem_cons_of_mem _ hz)) with e | h2
          · subst e; have := hL'.1 z hz; rw [befL_irr] at this; cases this
          · exact h2
        · rcases List.mem_cons.1 ((h z).2 (List.mem_cons_of_mem _ hz)) with e | h2
          · subst e; have := hK'.1 z hz; rw [befL_irr] at this; cases this
          · exact h2
  exact key hL hK h
/-- A list put in its place, if it is not there. -/
def putL : List (List Nat) → List Nat → List (List Nat)
  | [], l => [l]
  | x :: L, l => if befL x l = true then x :: putL L l else if x = l then x :: L else l :: x :: L
theorem putL_mem {l x : List Nat} : ∀ {L : List (List Nat)}, x ∈ putL L l ↔ x ∈ L ∨ x = l
  | [] => by simp [putL]
  | y :: L => by
    rw [putL]
    split
    · rw [List.mem_cons, putL_mem, List.mem_cons, or_assoc]
    · split
      · rename_i e; subst e
        simp only [List.mem_cons]
        exact ⟨fun h => .inl h, fun h => h.elim id fun e => .inl e⟩
      · simp only [List.mem_cons]
        constructor
        · rintro (h | h | h)
          · exact .inr h
          · exact .inl (.inl h)
          · exact .inl (.inr h)
        · rintro ((h | h) | h)
          · exact .inr (.inl h)
          · exact .inr (.inr h)
          · exact .inl h
theorem putL_srt {l : List Nat} : ∀ {L : List (List Nat)}, Srt L → Srt (putL L l)
  | [], _ => by simp [putL, Srt]
  | y :: L, h => by
    have h' := List.pairwise_cons.1 h
    rw [putL]
    split
    · rename_i hb
      refine List.pairwise_cons.2 ⟨fun z hz => ?_, putL_srt h'.2⟩
      rcases putL_mem.1 hz with h2 | rfl
      · exact h'.1 z h2
      · exact hb
    · rename_i hb
      split
      · exact h
      · rename_i hne
        have hly : befL l y = true := (befL_tot (fun e => hne e.symm)).elim id fun h2 => absurd h2 hb
        refine List.pairwise_cons.2 ⟨fun z hz => ?_, h⟩
        rcases List.mem_cons.1 hz with rfl | h2
        · exact hly
        · exact befL_trans hly (h'.1 z h2)
theorem putL_at {l : List Nat} : ∀ {k : Nat} {L : List (List Nat)}, k ≤ L.length → (∀ j, j < k → befL (L.getD j []) l = true) → (∀ y, L[k]? = some y → befL y l = false) → putL L l = if L[k]? = some l then L else L.take k ++ l :: L.drop k
  | 0, [], _, _, _ => by simp [putL]
  | 0, y :: L, _, _, h => by
    have := h y (by simp)
    rw [putL, this, if_neg (by decide)]
    simp
  | k + 1, [], hk, _, _ => by simp at hk
  | k + 1, y :: L, hk, hj, h => by
    have h0 := hj 0 (by omega)
    simp at h0
    rw [putL, if_pos h0, putL_at (k := k) (by simpa using hk) (fun j hj2 => by have := hj (j + 1) (by omega); simpa using this) (fun z hz => h z (by simpa using hz))]
    simp only [List.getElem?_cons_succ, List.take_succ_cons, List.drop_succ_cons]
    split <;> simp
/-- What stands ahead stays. -/
theorem putL_keep {l y : List Nat} : ∀ {L : List (List Nat)} {k : Nat}, Srt L → L[k]? = some y → befL y l = true → ∀ j, j ≤ k → (putL L l)[j]? = L[j]?
  | [], k, _, h, _ => by simp at h
  | x :: L, 0, _, h, hb => fun j hj => by
    simp at h; subst h
    obtain rfl : j = 0 := by omega
    rw [putL, if_pos hb]; rfl
  | x :: L, k + 1, hs, h, hb => fun j hj => by
    have h' := List.pairwise_cons.1 hs
    have hy : y ∈ L := List.mem_of_getElem? (by simpa using h)
    have hx := befL_trans (h'.1 y hy) hb
    rw [putL, if_pos hx]
    cases j with
    | zero => rfl
    | succ j => simpa using putL_keep h'.2 (by simpa using h) hb j (by omega)
theorem putL_len (l : List Nat) : ∀ L : List (List Nat), (putL L l).length ≤ L.length + 1
  | [] => by simp [putL]
  | x :: L => by
    rw [putL]
    have := putL_len l L
    split
    · simp; omega
    · split <;> simp
theorem putL_ge (l : List Nat) : ∀ L : List (List Nat), L.length ≤ (putL L l).length
  | [] => by simp
  | x :: L => by
    rw [putL]
    have := putL_ge l L
    split
    · simp; omega
    · split <;> simp

/-! ### Sets as lists -/
def mL (m : Nat) : List Nat := tdL (fun y => m.testBit y) 10
theorem mL_mem {m x : Nat} (hm : m < 1024) : x ∈ mL m ↔ m.testBit x = true := by
  unfold mL; rw [tdL_mem]
  exact ⟨fun h => h.2, fun h => ⟨bit_lt hm h, h⟩⟩
theorem mL_len (m : Nat) : (mL m).length = cn 10 fun y => m.testBit y := tdL_len _ _
theorem mL_le (m : Nat) : (mL m).length ≤ 10 := by rw [mL_len]; exact cn_le _ _
theorem mL_inj {a b : Nat} (ha : a < 1024) (hb : b < 1024) (h : mL a = mL b) : a = b := mask_ext fun i => by rw [← mL_mem ha, ← mL_mem hb, h]
theorem mL_lt {m x : Nat} (h : x ∈ mL m) : x < 10 := (tdL_mem.1 h).1
/-- The bits of a list. -/
def lM : List Nat → Nat
  | [] => 0
  | x :: l => lM l ||| 2 ^ x
theorem lM_bit {y : Nat} : ∀ {l : List Nat}, (lM l).testBit y = true ↔ y ∈ l
  | [] => by simp [lM]
  | x :: l => by
    rw [lM, Nat.testBit_or, Bool.or_eq_true, lM_bit, Nat.testBit_two_pow, decide_eq_true_eq, List.mem_cons, or_comm]
    exact or_congr ⟨fun h => h.symm, fun h => h.symm⟩ Iff.rfl
theorem lM_lt : ∀ {l : List Nat}, (∀ x ∈ l, x < 10) → lM l < 1024
  | [], _ => by decide
  | x :: l, h => Nat.or_lt_two_pow (n := 10) (lM_lt fun y hy => h y (List.mem_cons_of_mem _ hy)) (Nat.pow_lt_pow_right (by omega) (h x (List.mem_cons_self ..)))
theorem lM_mL {m : Nat} (hm : m < 1024) : lM (mL m) = m := mask_ext fun i => by rw [lM_bit, mL_mem hm]
/-- A smaller set has fewer numbers. -/
theorem sub_len {a b : Nat} (ha : a < 1024) (hb : b < 1024) (h : SubM a b) (hne : a ≠ b) : (mL a).length < (mL b).length := by
  rw [mL_len, mL_len]
  have key : ∀ N, (cn N fun y => a.testBit y) ≤ (cn N fun y => b.testBit y) ∧ (∀ i, i < N → b.testBit i = true → a.testBit i = false → (cn N fun y => a.testBit y) < (cn N fun y => b.testBit y)) := fun N => by
    induction N with
    | zero => exact ⟨Nat.le_refl _, fun i hi => by omega⟩
    | succ N ih =>
      unfold cn
      have hN := h N
      refine ⟨?_, fun i hi h1 h2 => ?_⟩
      · have := ih.1
        cases ha : a.testBit N <;> cases hb : b.testBit N <;> simp_all <;> omega
      · rcases Nat.lt_or_ge i N with h3 | h3
        · have := ih.2 i h3 h1 h2
          cases ha : a.testBit N <;> cases hb : b.testBit N <;> simp_all <;> omega
        · obtain rfl : i = N := by omega
          have := ih.1
          show _ + (if a.testBit i = true then 1 else 0) < _ + (if b.testBit i = true then 1 else 0)
          rw [h1, h2]; simp; omega
  apply Classical.byContradiction
  intro hn
  refine hne (SubM.anti h fun i hi => ?_)
  cases hai : a.testBit i with
  | true => rfl
  | false => exact absurd ((key 10).2 i (bit_lt hb hi) hi hai) hn

/-! ### The search for all subloops -/
/-- The subloops of a loop, as bits. -/
def SubL (n : Nat) (t : Nat → Nat → Nat) (m : Nat) : Prop := m < 1024 ∧ CloM t m ∧ ∀ i, m.testBit i = true → i < n
structure Found (n : Nat) (t : Nat → Nat → Nat) (k : Nat) (L : List (List Nat)) : Prop where
  srt : Srt L
  sub : ∀ x ∈ L, ∃ m, SubL n t m ∧ x = mL m
  one : mL (genM t 0) ∈ L
  all : ∀ j m, j < k → L[j]? = some (mL m) → m < 1024 → ∀ x, x < n → m.testBit x = false → mL (genM t (m ||| 2 ^ x)) ∈ L
section
variable {n : Nat} {t : Nat → Nat → Nat} {k : Nat} {L : List (List Nat)}
theorem zero_bits (n : Nat) : ∀ i, (0 : Nat).testBit i = true → i < n := fun i h => by simp at h
theorem genM_subL (hs : IsSq (n : Int) t) {m : Nat} (hm : ∀ i, m.testBit i = true → i < n) : SubL n t (genM t m) := ⟨genM_lt t m, genM_clo hs hm, fun i hi => gen_lt hs hm ((genM_bit hs hm i).1 hi)⟩
theorem Found.start (hs : IsSq (n : Int) t) : Found n t 0 [mL (genM t 0)] :=
  ⟨by simp [Srt], fun x hx => ⟨genM t 0, genM_subL hs (zero_bits n), List.mem_singleton.1 hx⟩, List.mem_singleton.2 rfl, fun j m h => by omega⟩
/-- What has been found of the elements below x behind the k-th set. -/
structure Finds (n : Nat) (t : Nat → Nat → Nat) (k m x : Nat) (L : List (List Nat)) : Prop where
  found : Found n t k L
  own : L[k]? = some (mL m)
  here : ∀ y, y < x → y < n → m.testBit y = false → mL (genM t (m ||| 2 ^ y)) ∈ L
theorem Finds.start (F : Found n t k L) {m : Nat} (h : L[k]? = some (mL m)) : Finds n t k m 0 L := ⟨F, h, fun _ h => by omega⟩
theorem Finds.skip {m x : Nat} (F : Finds n t k m x L) (h : m.testBit x = true) : Finds n t k m (x + 1) L :=
  ⟨F.found, F.own, fun y hy hn hb => if e : y = x then by subst e; rw [h] at hb; cases hb else F.here y (by omega) hn hb⟩
theorem more_bits {m x : Nat} (hm : ∀ i, m.testBit i = true → i < n) (hx : x < n) : ∀ i, (m ||| 2 ^ x).testBit i = true → i < n := fun i hi => by
  rw [Nat.testBit_or, Bool.or_eq_true, Nat.testBit_two_pow, decide_eq_true_eq] at hi
  rcases hi with h | rfl
  · exact hm i h
  · exact hx
theorem Finds.put (hs : IsSq (n : Int) t) {m x : Nat} (hm : m < 1024) (F : Finds n t k m x L) (hx : x < n) (h : m.testBit x = false) : Finds n t k m (x + 1) (putL L (mL (genM t (m ||| 2 ^ x)))) := by
  obtain ⟨m', hm', e⟩ := F.found.sub _ (List.mem_of_getElem? F.own)
  have em : m = m' := mL_inj hm hm'.1 e
  subst em
  have hb := more_bits hm'.2.2 hx
  have hsub := genM_sub hs hb
  have hlt : (mL m).length < (mL (genM t (m ||| 2 ^ x))).length := sub_len hm (genM_lt _ _) ((SubM.or_left m _).trans hsub) fun e => by
    have h2 := hsub x (by rw [Nat.testBit_or, Nat.testBit_two_pow]; simp)
    rw [← e, h] at h2; cases h2
  have hbef := befL_len hlt
  have hkeep := putL_keep F.found.srt F.own hbef
  refine ⟨⟨putL_srt F.found.srt, fun y hy => ?_, putL_mem.2 (.inl F.found.one), fun j m2 hj hg hm2 y hy hyb => ?_⟩, by rw [hkeep k (Nat.le_refl _)]; exact F.own, fun y hy hn hyb => ?_⟩
  · rcases putL_mem.1 hy with h2 | rfl
    · exact F.found.sub y h2
    · exact ⟨_, genM_subL hs hb, rfl⟩
  · rw [hkeep j (by omega)] at hg
    exact putL_mem.2 (.inl (F.found.all j m2 hj hg hm2 y hy hyb))
  · by_cases e : y = x
    · subst e; exact putL_mem.2 (.inr rfl)
    · exact putL_mem.2 (.inl (F.here y (by omega) hn hyb))
theorem Finds.next {m : Nat} (hm : m < 1024) (F : Finds n t k m n L) : Found n t (k + 1) L :=
  ⟨F.found.srt, F.found.sub, F.found.one, fun j m2 hj hg hm2 y hy hyb => by
    by_cases e : j = k
    · subst e
      have e2 := F.own
      rw [hg] at e2
      have := mL_inj hm2 hm (Option.some.inj e2)
      subst this
      exact F.here y hy hy hyb
    · exact F.found.all j m2 (by omega) hg hm2 y hy hyb⟩
/-- At the end all have been found. -/
theorem Found.done (hs : IsSq (n : Int) t) (F : Found n t L.length L) {T : Nat} (hT : SubL n t T) : mL T ∈ L := by
  have key : ∀ d m, SubL n t m → SubM m T → mL m ∈ L → (mL T).length - (mL m).length ≤ d → mL T ∈ L := fun d => by
    induction d with
    | zero =>
      intro m hm hsub hin hd
      by_cases e : m = T
      · subst e; exact hin
      · have := sub_len hm.1 hT.1 hsub e; omega
    | succ d ih =>
      intro m hm hsub hin hd
      by_cases e : m = T
      · subst e; exact hin
      · have hx : ∃ x, T.testBit x = true ∧ m.testBit x = false := by
          apply Classical.byContradiction
          intro hno
          refine e (SubM.anti hsub fun i hi => ?_)
          cases hmi : m.testBit i with
          | true => rfl
          | false => exact absurd ⟨i, hi, hmi⟩ hno
        obtain ⟨x, hxT, hxm⟩ := hx
        have hxn := hT.2.2 x hxT
        obtain ⟨j, hj⟩ := List.getElem?_of_mem hin
        have hjl := (List.getElem?_eq_some_iff.1 hj).1
        have hb := more_bits hm.2.2 hxn
        have hin2 := F.all j m hjl hj hm.1 x hxn hxm
        have hsub2 : SubM (m ||| 2 ^ x) T := fun i hi => by
          rw [Nat.testBit_or, Bool.or_eq_true, Nat.testBit_two_pow, decide_eq_true_eq] at hi
          rcases hi with h | rfl
          · exact hsub i h
          · exact hxT
        have hg := genM_least hs hb hT.2.1 hsub2
        have h2 := genM_sub hs hb
        have hlt : (mL m).length < (mL (genM t (m ||| 2 ^ x))).length := sub_len hm.1 (genM_lt _ _) ((SubM.or_left m _).trans h2) fun e => by
          have h3 := h2 x (by rw [Nat.testBit_or, Nat.testBit_two_pow]; simp)
          rw [← e, hxm] at h3; cases h3
        exact ih _ (genM_subL hs hb) hg hin2 (by omega)
  exact key _ _ (genM_subL hs (zero_bits n)) (genM_least hs (zero_bits n) hT.2.1 fun i hi => by simp at hi) F.one (Nat.le_refl _)
/-- There are not too many. -/
theorem len_le {N : Nat} : ∀ {l : List Nat}, l.Pairwise (· ≠ ·) → (∀ x ∈ l, x < N) → l.length ≤ cn N (fun y => decide (y ∈ l))
  | [], _, _ => by simp
  | x :: l, h, hl => by
    have h' := List.pairwise_cons.1 h
    have ih := len_le (N := N) h'.2 fun y hy => hl y (List.mem_cons_of_mem _ hy)
    have e := cn_add (N := N) (p := fun y => decide (y ∈ l)) (q := fun y => y == x) fun i _ hi => beq_eq_false_iff_ne.2 fun e => by subst e; exact h'.1 i (of_decide_eq_true hi) rfl
    rw [cn_one (hl x (List.mem_cons_self ..))] at e
    have e2 : cn N (fun y => decide (y ∈ x :: l)) = cn N fun y => decide (y ∈ l) || y == x := cn_congr fun i _ => by
      rw [Bool.eq_iff_iff]; simp [or_comm]
    rw [e2, e, List.length_cons]; omega
theorem Found.len (F : Found n t k L) : L.length ≤ 1024 := by
  have h1 : (L.map lM).Pairwise (· ≠ ·) := by
    refine List.pairwise_map.2 (List.Pairwise.imp_of_mem (fun {a b} ha hb h e => ?_) F.srt)
    obtain ⟨m, hm, rfl⟩ := F.sub a ha
    obtain ⟨m', hm', rfl⟩ := F.sub b hb
    rw [lM_mL hm.1, lM_mL hm'.1] at e
    subst e
    rw [befL_irr] at h; cases h
  have h2 := len_le (N := 1024) h1 fun x hx => by
    obtain ⟨a, ha, rfl⟩ := List.mem_map.1 hx
    obtain ⟨m, hm, rfl⟩ := F.sub a ha
    rw [lM_mL hm.1]; exact hm.1
  rw [List.length_map] at h2
  exact Nat.le_trans h2 (cn_le _ _)
end
end Go.Proofs.YteonahoboligdaaDoor
