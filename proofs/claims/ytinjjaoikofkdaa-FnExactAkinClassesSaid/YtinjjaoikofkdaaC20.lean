/- The program's list of all isomorphisms: a contract. -/
import Derived.Test.YtinjjaoikofkdaaC19
import Derived.Shelf.Abstract
namespace Go.Proofs.Ytinjjaoikofkdaa
set_option linter.unusedSimpArgs false
set_option linter.unusedVariables false
open Go Go.RowKit

/-- A variable holds a slice with what has been visited. -/
def AllV (bo B : Nat) (l : List (List Nat)) (D : Nat → Prop) (w : World) : Prop :=
  ∃ v, blk w bo #[v] 125 ∧ w.ownsRow B 70 10 v l.length (plCells l) ∧ v.ownBlock ≠ some bo ∧ B ≤ w.heap.size ∧ ∀ k, D k ↔ (bo = k ∨ v.ownBlock = some k)
theorem AllV.mk {bo B : Nat} {l : List (List Nat)} {w : World} {v : Value} (h1 : blk w bo #[v] 125) (h2 : w.ownsRow B 70 10 v l.length (plCells l)) (h3 : v.ownBlock ≠ some bo) (hB : B ≤ w.heap.size) :
    (Ent.res (fun k => bo = k ∨ v.ownBlock = some k) (AllV bo B l fun k => bo = k ∨ v.ownBlock = some k)).holds w :=
  ⟨fun k hk => by
    rcases hk with rfl | hk
    · exact h1.lt
    · exact (h2.lt k hk).2,
   fun E w' hk hd => by
    have a1 : (Ent.box bo #[v] 125).holds w := h1
    have a2 : (Ent.row B v l.length (plCells l) 70 10).holds w := h2
    have b1 := Ent.holds_of a1 hk fun b hb => hd b (.inl hb)
    have b2 := Ent.holds_of a2 hk fun b hb => hd b (.inr hb)
    exact ⟨v, b1, b2, h3, Nat.le_trans hB hk.size, fun _ => Iff.rfl⟩⟩

set_option maxRecDepth 100000 in
set_option maxHeartbeats 200000 in
theorem allVisit_any (bo B : Nat) : Visits false 116 #[.pointer (some ⟨bo, 0, none⟩)] (AllV bo B) 1000000 := by
  refine ⟨enters_of (P := Try.prog) (f := 116) (by exact Try.func116) (by kernel_rfl) rfl, fun l p D w hV hl => ?_⟩
  obtain ⟨v, h1, h2, h3, hB, h4⟩ := Ent.res_now hV
  have M := ((Mm.start D w).add (x := .row B v l.length (plCells l) 70 10) h2 fun _ h => by cases h).add (x := .box bo #[v] 125) h1 (fun y hy => by
    simp only [List.mem_singleton] at hy; subst hy
    exact fun b hb hb' => h3 (by cases hb; exact hb'))
  have hDv : ∀ k, v.ownBlock = some k → D k := fun k hk => (h4 k).2 (.inr hk)
  have hDo : D bo := (h4 bo).2 (.inl rfl)
  have HDv := Hid2.mk hDv
  have H3 := Hid2.mk h3
  have H4 := Hid2.mk h4
  have HL := Hid2.mk hl
  clear h1 h2 h3 h4 hl hV hDv
  have C := M.ruleAll; simp only [Go.Proofs.Ytinjjaoikofkdaa.ruleAll] at C
  show Calls Try.prog 116 #[.agg (bys fun i => p.getD i 0), .pointer (some ⟨bo, 0, none⟩)] w _
  go_enter Try.func116, Try.ntmps116
  go_wp2_with (first | ((with_reducible apply wpM_box' M 70 (bys fun i => p.getD i 0)); rfl; exact ⟨rfl, rfl⟩; clear M; (try clear C); intro bp w9 h_bp M; have C := M.ruleAll; simp only [Go.Proofs.Ytinjjaoikofkdaa.ruleAll] at C) | ((with_reducible apply wpM_lda' M 0 70 0 (bys fun i => p.getD i 0)); rfl; rfl; rfl; exact ⟨rfl, inf_plc.trans (congrArg some (bys_size ..).symm), _, und_plc, rfl⟩; exact whole_of rfl) | ((with_reducible apply wpM_bsl' M 125 1 70 ([(0, .agg (bys fun i => p.getD i 0))]) (bys fun i => p.getD i 0)); rfl; rfl; rfl; exact bsl_plc _; clear M; (try clear C); intro bs w9 h_bs M; have C := M.ruleAll; simp only [Go.Proofs.Ytinjjaoikofkdaa.ruleAll] at C) | ((with_reducible apply wpM_app' M 125 3 0 (B) (v) (l.length) (plCells l) 70 10 10); rfl; rfl; rfl; rfl; rfl; rfl; rfl; (first | exact .inl (Nat.le_refl _) | exact .inl (by assumption) | exact .inr (by assumption) | exact .inr HDv.out); (first | exact M.size | (have hq := M.size; omega)); exact und_slp; exact inf_elp; rfl; decide; decide; rfl; exact bys_size _; exact flat_bys _; (have := HL.out; omega); clear M; (try clear C); intro v2 w9 far_v2 M; simp only [List.set_cons_zero, List.set_cons_succ, entBlk, entT, List.getElem?_cons_zero, List.getElem?_cons_succ] at M; obtain ⟨pp_v2, cap_v2, rfl⟩ := own_form (M.row 3 rfl); have C := M.ruleAll; simp only [Go.Proofs.Ytinjjaoikofkdaa.ruleAll] at C) | ((with_reducible apply wpM_st' M 2 125 (0) (#[.slice pp_v2 (l.length + 1) cap_v2])); rfl; rfl; rfl; (first | exact .inl (by assumption) | exact .inr rfl | exact .inr (by assumption)); exact ⟨rfl, rfl, by kernel_rfl⟩; exact Nat.zero_lt_one; exact rfl; clear M; (try clear C); intro w9 M; simp only [List.set_cons_zero, List.set_cons_succ, entBlk, entT, List.getElem?_cons_zero, List.getElem?_cons_succ] at M; have C := M.ruleAll; simp only [Go.Proofs.Ytinjjaoikofkdaa.ruleAll] at C))
  go_ret
  have hne : (Value.slice pp_v2 (l.length + 1) cap_v2).ownBlock ≠ some bo := fun e => M.dist 2 3 _ _ rfl rfl (by decide) bo rfl e
  refine ⟨rfl, _, AllV.mk (M.box 2 rfl) (by rw [plCells_snoc, List.length_append]; exact M.row 3 rfl) hne (Nat.le_trans hB M.size), fun k hk => ?_, M.kept⟩
  rcases hk with rfl | hk
  · exact .inl hDo
  · exact far_v2.own HDv.out k hk

theorem zero_slp (w : World) : (zeroValue 125).run Try.prog w = .ok (.slice none 0 0) w := by kernel_rfl
theorem bsl_plc0 (w : World) : (Instr.buildSlice 125 0 [].toArray).run Try.prog w = .ok (.slice (some ⟨w.heap.size, 0, none⟩) 0 0) (w.alloc (.cells #[] 70)) := by kernel_rfl

/-- What the list of all isomorphisms is. -/
def AllList (l : List (List Nat)) (w : World) (e : Ending) (w' : World) : Prop :=
  ∃ v', e = .returned v' ∧ w'.ownsRow w.heap.size 70 10 v' l.length (plCells l) ∧ Below w.heap.size w w'

set_option maxRecDepth 100000 in
set_option maxHeartbeats 1000000 in
theorem allIsomorphisms_any (N K : Nat) (t u : Nat → Nat → Nat) (w : World) (h0 : 1 ≤ N) (h1 : N ≤ 10) (ht : ∀ x y : Nat, x < N → y < N → t x y < N) (hu : ∀ x y : Nat, x < K → y < K → u x y < K) (hmost : (isoAll N K t u).length ≤ 1000000) :
    Calls Try.prog 97 #[.agg (sqs (N : Int) t), .agg (sqs (K : Int) u)] w (AllList (isoAll N K t u) w) := by
  have M := Mm.start no w
  have hI := fun w1 bo D hD => isomorphisms_any N K t u false 116 #[.pointer (some ⟨bo, 0, none⟩)] (AllV bo w.heap.size) 1000000 D w1 (allVisit_any bo w.heap.size) h0 h1 ht hu hD hmost
  have HI := Hid2.mk hI
  have hmf : ∀ (fn : Fn) (first cap : Array Value) (w : World), (Instr.makeFunc fn first cap).run Try.prog w = .ok (.func fn first cap) w := fun _ _ _ _ => rfl
  clear hI ht hu hmost
  go_enter Try.func97, Try.ntmps97
  go_wp2_with (first | ((with_reducible apply wpM_box' M 43 (sqs (N : Int) t)); rfl; exact ⟨rfl, rfl⟩; clear M; (try clear C); intro bq w9 h_bq M; have C := M.ruleAll; simp only [Go.Proofs.Ytinjjaoikofkdaa.ruleAll] at C) | ((with_reducible apply wpM_box' M 43 (sqs (K : Int) u)); rfl; exact ⟨rfl, rfl⟩; clear M; (try clear C); intro br w9 h_br M; have C := M.ruleAll; simp only [Go.Proofs.Ytinjjaoikofkdaa.ruleAll] at C) | ((with_reducible apply wpM_bsl' M 125 0 70 ([]) (#[])); rfl; rfl; rfl; exact bsl_plc0; clear M; (try clear C); intro bs w9 h_bs M; have C := M.ruleAll; simp only [Go.Proofs.Ytinjjaoikofkdaa.ruleAll] at C) | ((with_reducible apply wpM_alloc' M 125 (#[.slice none 0 0])); rfl; exact ⟨rfl, _, zero_slp _, rfl⟩; clear M; (try clear C); intro bo w9 h_bo M; have C := M.ruleAll; simp only [Go.Proofs.Ytinjjaoikofkdaa.ruleAll] at C) | ((with_reducible apply wpM_st' M 0 125 (0) (#[.slice (some ⟨bs, 0, none⟩) 0 0])); rfl; rfl; rfl; (first | exact .inl (by assumption) | exact .inr rfl | exact .inr (by assumption)); exact ⟨rfl, rfl, by kernel_rfl⟩; exact Nat.zero_lt_one; exact rfl; clear M; (try clear C); intro w9 M; simp only [List.set_cons_zero, List.set_cons_succ, entBlk, entT, List.getElem?_cons_zero, List.getElem?_cons_succ] at M; have C := M.ruleAll; simp only [Go.Proofs.Ytinjjaoikofkdaa.ruleAll] at C) | ((with_reducible apply wpM_lda' M 3 43 0 (sqs (N : Int) t)); rfl; rfl; rfl; exact ⟨rfl, inf_sqs.trans (congrArg some (sqs_size ..).symm), _, und_sqs, rfl⟩; exact whole_of rfl) | ((with_reducible apply wpM_lda' M 2 43 0 (sqs (K : Int) u)); rfl; rfl; rfl; exact ⟨rfl, inf_sqs.trans (congrArg some (sqs_size ..).symm), _, und_sqs, rfl⟩; exact whole_of rfl))
  have hne : (Value.slice (some ⟨bs, 0, none⟩) 0 0).ownBlock ≠ some bo := fun e => M.dist 0 1 _ _ rfl rfl (by decide) bo rfl (by cases e; rfl)
  refine (HI.out _ bo _ (AllV.mk (l := []) (M.box 0 rfl) (own_of_blk (n := 0) (M.box 1 rfl) (by assumption) rfl (Nat.zero_le _)) hne M.size)).mono ?_
  rintro e w1 ⟨rfl, D', hD1, hD2, hK⟩
  obtain ⟨v, g1, g2, g3, g4, g5⟩ := Ent.res_now hD1
  have M1 := (M.after hK (fun k hk h => by
    rcases h with rfl | h
    · omega
    · cases h; exact absurd hk (Nat.not_lt.2 h_bs))).add (x := .box bo #[v] 125) g1 (fun _ h => by cases h)
  clear M; (try clear C)
  have M := M1
  clear M1 hD1 hD2 hK g1 g3 g5
  have G2 := Hid2.mk g2
  clear g2
  have C := M.ruleAll; simp only [Go.Proofs.Ytinjjaoikofkdaa.ruleAll] at C
  go_wp2
  go_ret
  exact ⟨v, rfl, G2.out, M.below⟩
end Go.Proofs.Ytinjjaoikofkdaa
