/- The program's closing of a part of an isomorphism, by a queue, as a plain function, and what it gives. -/
import Derived.Test.YtjdfjlgjpjgnhaaM5
namespace Go.Proofs.Ytjdfjlgjpjgnhaa

/-- What follows from x being led to y. -/
def news (N : Nat) (t u : Nat → Nat → Nat) (m : PM) (x y : Nat) : Nat → List (Nat × Nat)
  | 0 => []
  | k + 1 => news N t u m x y k ++ (if m.to k < 0 then [] else [(t x k, u y (m.to k).toNat), (t k x, u (m.to k).toNat y)])
def putF (N : Nat) (t u : Nat → Nat → Nat) : Nat → PM → List (Nat × Nat) → PM × Bool
  | 0, m, _ => (m, false)
  | _ + 1, m, [] => (m, true)
  | K + 1, m, (x, y) :: q =>
    if m.to x = y then putF N t u K m q else
    if 0 ≤ m.to x ∨ 0 < m.used y then (m, false) else
    putF N t u K (m.add x y) (q ++ news N t u (m.add x y) x y N)

theorem news_length (N : Nat) (t u : Nat → Nat → Nat) (m : PM) (x y : Nat) : ∀ k, (news N t u m x y k).length ≤ 2 * k
  | 0 => by simp [news]
  | k + 1 => by
    have := news_length N t u m x y k
    simp only [news, List.length_append]
    split <;> simp <;> omega
theorem mem_news {N : Nat} {t u : Nat → Nat → Nat} {m : PM} {x y : Nat} {p : Nat × Nat} : ∀ {k}, p ∈ news N t u m x y k ↔ ∃ z, z < k ∧ 0 ≤ m.to z ∧ (p = (t x z, u y (m.to z).toNat) ∨ p = (t z x, u (m.to z).toNat y))
  | 0 => by simp [news]
  | k + 1 => by
    simp only [news, List.mem_append, mem_news (k := k)]
    constructor
    · rintro (⟨z, h1, h2, h3⟩ | h)
      · exact ⟨z, by omega, h2, h3⟩
      · split at h
        · simp at h
        · rename_i h0
          refine ⟨k, by omega, by omega, ?_⟩
          simpa using h
    · rintro ⟨z, h1, h2, h3⟩
      by_cases e : z = k
      · subst e
        right
        rw [if_neg (by omega)]
        simpa using h3
      · exact .inl ⟨z, by omega, h2, h3⟩

theorem putF_closes {N : Nat} {t u : Nat → Nat → Nat} (ht : ∀ a b, a < N → b < N → t a b < N) (hu : ∀ a b, a < N → b < N → u a b < N) (m0 : PM) (x0 y0 : Nat) :
    ∀ (K : Nat) (m : PM) (Q : List (Nat × Nat)), Va N m → Sub N m0 m → (∀ p ∈ Q, p.1 < N ∧ p.2 < N) →
      (∀ z c, z < N → c < N → m0.to z < 0 → 0 ≤ m.to z → 0 ≤ m.to c → (Cons t u m z c ∨ (t z c, u (m.to z).toNat (m.to c).toNat) ∈ Q) ∧ (Cons t u m c z ∨ (t c z, u (m.to c).toNat (m.to z).toNat) ∈ Q)) →
      (m.to x0 = y0 ∨ (x0, y0) ∈ Q) → (∀ P, Hom N t u m0 P → P x0 = y0 → Hom N t u m P ∧ ∀ p ∈ Q, P p.1 = p.2) → Q.length + (2 * N + 1) * um m.to N < K →
      Closes N t u m0 x0 y0 (putF N t u K m Q)
  | 0, _, _, _, _, _, _, _, _, h => absurd h (by omega)
  | K + 1, m, [], hv, hs, _, hp, ha, hf, _ => by
    simp only [putF]
    refine ⟨fun _ => hv, fun _ => hs, fun _ => ?_, fun _ z c hz hc h1 h2 h3 => ?_, fun P hP hx => ⟨rfl, (hf P hP hx).1⟩⟩
    · rcases ha with h | h
      · exact h
      · simp at h
    · obtain ⟨g1, g2⟩ := hp z c hz hc h1 h2 h3
      exact ⟨g1.resolve_right (by simp), g2.resolve_right (by simp)⟩
  | K + 1, m, (x, y) :: q, hv, hs, hq, hp, ha, hf, hK => by
    obtain ⟨hx, hy⟩ := hq (x, y) (by simp)
    simp only at hx hy
    simp only [putF]
    simp only [List.length_cons] at hK
    by_cases h1 : m.to x = y
    · rw [if_pos h1]
      refine putF_closes ht hu m0 x0 y0 K m q hv hs (fun p h => hq p (by simp [h])) (fun z c hz hc a1 a2 a3 => ?_) ?_ (fun P hP hx => ⟨(hf P hP hx).1, fun p h => (hf P hP hx).2 p (by simp [h])⟩) (by omega)
      · obtain ⟨g1, g2⟩ := hp z c hz hc a1 a2 a3
        have key : ∀ i j, (i, j) ∈ (x, y) :: q → m.to i = j ∨ (i, j) ∈ q := fun i j h => by
          rcases List.mem_cons.1 h with h | h
          · cases h; exact .inl h1
          · exact .inr h
        exact ⟨g1.elim .inl fun h => key _ _ h, g2.elim .inl fun h => key _ _ h⟩
      · rcases ha with h | h
        · exact .inl h
        · rcases List.mem_cons.1 h with h | h
          · cases h; exact .inl h1
          · exact .inr h
    · rw [if_neg h1]
      by_cases h2 : 0 ≤ m.to x ∨ 0 < m.used y
      · rw [if_pos h2]
        refine ⟨fun h => (by cases h), fun h => (by cases h), fun h => (by cases h), fun h => (by cases h), fun P hP hx0 => ?_⟩
        exfalso
        obtain ⟨hH, hQ⟩ := hf P hP hx0
        have hPx := hQ (x, y) (by simp)
        simp only at hPx
        rcases h2 with h | h
        · have := hH.has x hx h; omega
        · obtain ⟨z, hz, hzy⟩ := (hv.used y hy).1 h
          have h3 := hH.has z hz (by omega)
          have e := hH.inj z x hz hx (by omega)
          subst e; exact h1 hzy
      · rw [if_neg h2]
        have hx0 : m.to x < 0 := by omega
        have hy0 : ¬ 0 < m.used y := fun h => h2 (.inr h)
        have hum := um_add (f := m.to) (x := x) (y := (y : Int)) hx0 (by omega) N
        rw [if_pos hx] at hum
        have hum' : um (m.add x y).to N + 1 = um m.to N := hum
        have hsub : Sub N m (m.add x y) := fun z hz h0 => by simp only [PM.add]; rw [if_neg (fun e => by subst e; omega)]
        have hxx : (m.add x y).to x = y := by simp [PM.add]
        have hother : ∀ z, z ≠ x → (m.add x y).to z = m.to z := fun z e => by simp [PM.add, e]
        have hva := hv.add hx hy hx0 hy0
        refine putF_closes ht hu m0 x0 y0 K (m.add x y) _ hva (hs.trans hsub) (fun p h => ?_) (fun z c hz hc a1 a2 a3 => ?_) ?_ (fun P hP hPx => ?_) ?_
        · rcases List.mem_append.1 h with h | h
          · exact hq p (by simp [h])
          · obtain ⟨z, hz, h0, h⟩ := mem_news.1 h
            have hlz := hva.lt z hz
            rcases h with h | h
            · subst h; exact ⟨ht _ _ hx hz, hu _ _ hy (by omega)⟩
            · subst h; exact ⟨ht _ _ hz hx, hu _ _ (by omega) hy⟩
        · by_cases ez : z = x
          · subst ez
            rw [hxx]
            refine ⟨.inr (List.mem_append.2 (.inr (mem_news.2 ⟨c, hc, a3, .inl (by simp)⟩))), .inr (List.mem_append.2 (.inr (mem_news.2 ⟨c, hc, a3, .inr (by simp)⟩)))⟩
          · by_cases ec : c = x
            · subst ec
              rw [hxx]
              exact ⟨.inr (List.mem_append.2 (.inr (mem_news.2 ⟨z, hz, a2, .inr (by simp)⟩))), .inr (List.mem_append.2 (.inr (mem_news.2 ⟨z, hz, a2, .inl (by simp)⟩)))⟩
            · rw [hother z ez] at a2 ⊢
              rw [hother c ec] at a3 ⊢
              obtain ⟨g1, g2⟩ := hp z c hz hc a1 a2 a3
              have key : ∀ i j, i < N → j < N → 0 ≤ m.to i → 0 ≤ m.to j → i ≠ x → j ≠ x → (Cons t u m i j ∨ (t i j, u (m.to i).toNat (m.to j).toNat) ∈ (x, y) :: q) → Cons t u (m.add x y) i j ∨ (t i j, u (m.to i).toNat (m.to j).toNat) ∈ q ++ news N t u (m.add x y) x y N := by
                intro i j hi hj i0 j0 ei ej h
                rcases h with h | h
                · exact .inl (h.sub hsub (ht _ _ hi hj) hi hj i0 j0)
                · rcases List.mem_cons.1 h with h | h
                  · left
                    unfold Cons
                    rw [hother i ei, hother j ej]
                    have e1 := congrArg Prod.fst h
                    have e2 := congrArg Prod.snd h
                    simp only at e1 e2
                    rw [e1, e2, hxx]
                  · exact .inr (List.mem_append.2 (.inl h))
              exact ⟨key z c hz hc a2 a3 ez ec g1, key c z hc hz a3 a2 ec ez g2⟩
        · rcases ha with h | h
          · by_cases e : x0 = x
            · subst e; omega
            · exact .inl (by rw [hother x0 e]; exact h)
          · rcases List.mem_cons.1 h with h | h
            · cases h; exact .inl hxx
            · exact .inr (List.mem_append.2 (.inl h))
        · obtain ⟨hH, hQ⟩ := hf P hP hPx
          have hPxy := hQ (x, y) (by simp)
          simp only at hPxy
          have hH' : Hom N t u (m.add x y) P := ⟨hH.hom, hH.inj, fun z hz h0 => by
            by_cases e : z = x
            · subst e; rw [hxx, hPxy]
            · rw [hother z e] at h0 ⊢; exact hH.has z hz h0⟩
          refine ⟨hH', fun p h => ?_⟩
          rcases List.mem_append.1 h with h | h
          · exact hQ p (by simp [h])
          · obtain ⟨z, hz, h0, h⟩ := mem_news.1 h
            have hPz := hH'.has z hz h0
            rcases h with h | h
            · subst h; simp only; rw [hH.hom x z hx hz, hPxy]; congr 1; omega
            · subst h; simp only; rw [hH.hom z x hz hx, hPxy]; congr 1; omega
        · have := news_length N t u (m.add x y) x y N
          rw [← hum', Nat.mul_add] at hK
          rw [List.length_append]
          omega

/-- THE LAW OF THE QUEUE: closing with one pair. -/
theorem put_closes {N : Nat} {t u : Nat → Nat → Nat} (ht : ∀ a b, a < N → b < N → t a b < N) (hu : ∀ a b, a < N → b < N → u a b < N) {K : Nat} {m : PM} {x y : Nat} (hv : Va N m) (hx : x < N) (hy : y < N)
    (hK : 1 + (2 * N + 1) * um m.to N < K) : Closes N t u m x y (putF N t u K m [(x, y)]) :=
  putF_closes ht hu m x y K m [(x, y)] hv (Sub.refl N m) (fun p h => by simp at h; subst h; exact ⟨hx, hy⟩) (fun z c _ _ h1 h2 _ => by omega) (.inr (by simp)) (fun P hP hPx => ⟨hP, fun p h => by simp at h; subst h; exact hPx⟩) (by simpa using hK)
end Go.Proofs.Ytjdfjlgjpjgnhaa
