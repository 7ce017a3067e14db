/- The list of what is marked, for the reference: a contract. -/
import Derived.Test.YteonahoboligdaaDoorE2
namespace Go.Proofs.YteonahoboligdaaDoor
set_option linter.unusedSimpArgs false
set_option linter.unusedVariables false
open Go Go.RowKit

/-- The numbers below k that are marked. -/
def tdL (p : Nat → Bool) : Nat → List Nat
  | 0 => []
  | k + 1 => if p k = true then tdL p k ++ [k] else tdL p k
theorem tdL_len (p : Nat → Bool) : ∀ k, (tdL p k).length = cn k p
  | 0 => rfl
  | k + 1 => by
    rw [tdL, cn_succ, ← tdL_len p k]
    split
    · rw [List.length_append, List.length_singleton]
    · rfl
theorem tdL_mem {p : Nat → Bool} {x : Nat} : ∀ {k : Nat}, x ∈ tdL p k ↔ x < k ∧ p x = true
  | 0 => by simp [tdL]
  | k + 1 => by
    rw [tdL]
    by_cases h : p k = true
    · rw [if_pos h, List.mem_append, tdL_mem, List.mem_singleton]
      exact ⟨fun h2 => h2.elim (fun h2 => ⟨by omega, h2.2⟩) fun h2 => ⟨by omega, h2 ▸ h⟩, fun ⟨h1, h2⟩ => by
        rcases Nat.lt_or_ge x k with h3 | h3
        · exact .inl ⟨h3, h2⟩
        · exact .inr (by omega)⟩
    · rw [if_neg h, tdL_mem]
      exact ⟨fun h2 => ⟨by omega, h2.2⟩, fun ⟨h1, h2⟩ => ⟨by
        rcases Nat.lt_or_ge x k with h3 | h3
        · exact h3
        · obtain rfl : x = k := by omega
          exact absurd h2 h, h2⟩⟩

set_option maxRecDepth 100000 in
set_option maxHeartbeats 2000000 in
theorem l05Told_any (p : Nat → Bool) (w : World) :
    Calls Tryd.prog 37 #[.agg (bls p)] w fun e w' => ∃ v, e = .returned v ∧ Mm no w w' [.row w.heap.size v (tdL p 10).length (i64N (tdL p 10)) 2 1] := by
  have M := Mm.start no w
  go_enter Tryd.func37, Tryd.ntmps37
  go_wp2_with (first | ((with_reducible apply wpM_box' M 60 (bls p)); rfl; exact ⟨rfl, rfl⟩; clear M; (try clear C); intro bm w9 h_bm M; have C := M.ruleAll; simp only [Go.Proofs.YteonahoboligdaaDoor.ruleAll] at C) | ((with_reducible apply wpM_bsl' M 26 0 2 ([]) (#[])); rfl; rfl; rfl; exact bsl_n0; clear M; (try clear C); intro bo w9 h_bo M; have C := M.ruleAll; simp only [Go.Proofs.YteonahoboligdaaDoor.ruleAll] at C))
  have M9 := M.asRow 0 rfl w.heap.size 0 1 h_bo rfl (Nat.zero_le _)
  simp only [List.set_cons_zero, List.set_cons_succ] at M9
  clear M; (try clear C)
  go_loopw [3, 4] (fun o i wr => ∃ (k : Nat) (v : Value), k ≤ 10 ∧ i = .int .i64 (k : Int) ∧ o = v ∧ Mm no w wr [.row w.heap.size v (tdL p k).length (i64N (tdL p k)) 2 1, .box bm (bls p) 60]) (fun _ i _ => 10 - (intOf i).toNat)
  case atStart => exact ⟨0, _, by omega, rfl, rfl, M9⟩
  case round =>
    clear M9
    obtain ⟨k, v, hk, rfl, rfl, M9⟩ := hrel
    obtain ⟨pp, cc, rfl⟩ := own_form (M9.row 0 rfl)
    have M := M9
    clear M9
    have C := M.ruleAll; simp only [Go.Proofs.YteonahoboligdaaDoor.ruleAll] at C
    by_cases hlt : k < 10
    · have hlt' : (k : Int) < 10 := by omega
      have q1 := bls_get (f := p) hlt
      have hle : (tdL p k).length ≤ k := by rw [tdL_len]; exact cn_le k p
      have HN := Hid2.mk (show tdL p (k + 1) = if p k = true then tdL p k ++ [k] else tdL p k from rfl)
      generalize tdL p k = out at *
      cases hb : p k with
      | true =>
        rw [hb] at q1 HN
        clear hb
        go_wp2_with (first | ((with_reducible apply wpM_bsl' M 26 1 2 ([(0, .int .i64 (k : Int))]) (#[.int .i64 (k : Int)])); rfl; rfl; rfl; exact bsl_n1 _; clear M; (try clear C); intro bb w9 h_bb M; have C := M.ruleAll; simp only [Go.Proofs.YteonahoboligdaaDoor.ruleAll] at C) | ((with_reducible apply wpM_app' M 26 1 0 (w.heap.size) (.slice pp out.length cc) (out.length) (i64N out) 2 1 8); rfl; rfl; rfl; rfl; rfl; rfl; rfl; (first | exact .inl (Nat.le_refl _) | exact .inl (by assumption) | exact .inr (by assumption) | exact .inr HDv.out); (first | exact M.size | (have hq := M.size; omega)); exact und_sln; exact inf_eln; rfl; decide; decide; rfl; exact rfl; exact flat_n1 _; omega; clear M; (try clear C); intro v2 w9 far_v2 M; simp only [List.set_cons_zero, List.set_cons_succ, entBlk, entT, List.getElem?_cons_zero, List.getElem?_cons_succ] at M; obtain ⟨pp_v2, cap_v2, rfl⟩ := own_form (M.row 1 rfl); have C := M.ruleAll; simp only [Go.Proofs.YteonahoboligdaaDoor.ruleAll] at C))
        go_roundw
        case rel => exact ⟨k + 1, _, by omega, by go_num, rfl, by rw [HN.out, if_pos rfl]; exact (M.sub [1, 2] (by decide)).eq (by rw [i64N_app]; simp only [List.length_append, List.length_singleton]; rfl)⟩
        case measure => simp [intOf]; omega
      | false =>
        rw [hb] at q1 HN
        clear hb
        go_wp2
        go_roundw
        case rel => exact ⟨k + 1, _, by omega, by go_num, rfl, by rw [HN.out, if_neg (by decide)]; exact M⟩
        case measure => simp [intOf]; omega
    · obtain rfl : k = 10 := by omega
      go_wp2
      go_ret
      exact ⟨_, rfl, M.sub [0] (by decide)⟩
end Go.Proofs.YteonahoboligdaaDoor
