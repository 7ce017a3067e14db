/- Classes of loops, for the program: contracts of the search for a class. -/
import Derived.Test.YtinjjaoikofkdaaB1
import Derived.Test.YtinjjaoikofkdaaK12
import Derived.Test.YtinjjaoikofkdaaC18
namespace Go.Proofs.Ytinjjaoikofkdaa
set_option linter.unusedSimpArgs false
set_option linter.unusedVariables false
open Go Go.RowKit

set_option maxRecDepth 100000 in
set_option maxHeartbeats 1000000 in
theorem idxSlices_any {α : Type} (l : List α) (vs : List Value) (hvl : vs.length = l.length) (hlen : l.length ≤ 10000000) (w : World) (pp : Option Addr) (cap : Nat) (hr : rdq w pp l.length (fun j => vs.getD j undef)) (f : Nat) (cp : Array Value) (p : α → Bool)
    (hen : ∀ (args : Array Value) (w : World), (callFunc f args).run Try.prog w = .ok (.enter f args) w)
    (hf : ∀ k (h : k < l.length), ∀ w1, Below w.heap.size w w1 → Calls Try.prog f (#[vs[k]'(by omega)] ++ cp) w1 fun e w' => e = .returned (.bool (p l[k])) ∧ Below w1.heap.size w1 w') :
    Calls Try.prog 79 #[.slice pp l.length cap, .func (.func f) #[] cp] w fun e w' => e = .returned (.int .i64 (placeOf p l)) ∧ Below w.heap.size w w' := by
  have M := (Mm.start no w).add (x := Ent.own l.length pp (fun j => vs.getD j undef)) hr.ent fun _ h => by cases h
  have HF := Hid2.mk hf
  clear hr hf
  go_enter Try.func79, Try.ntmps79
  go_wp2
  go_loopw [8, 5] (fun i _ wr => ∃ k : Nat, k ≤ l.length ∧ i = .int .i64 (k : Int) ∧ (∀ j (h : j < l.length), j < k → p l[j] = false) ∧ Mm no w wr [Ent.own l.length pp (fun j => vs.getD j undef)]) (fun i _ _ => l.length - (intOf i).toNat)
  case atStart => exact ⟨0, by omega, rfl, fun j _ h => by omega, M⟩
  case round =>
    obtain ⟨k, hk, rfl, hl, M9⟩ := hrel
    clear M
    have M := M9
    clear M9
    have HL := Hid2.mk hl
    clear hl
    by_cases hlt : k < l.length
    · have hlt' : (k : Int) < (l.length : Int) := by omega
      have hfound := fun h => @placeOf_some _ p l k hlt (fun j hj => HL.out j (Nat.lt_trans hj hlt) hj) h
      have hnext : p l[k] = false → ∀ j (h : j < l.length), j < k + 1 → p l[j] = false := fun h j hj h1 => by
        rcases Nat.lt_or_eq_of_le (Nat.lt_succ_iff.1 h1) with h2 | rfl
        · exact HL.out j hj h2
        · exact h
      have hF := HF.out k hlt
      obtain ⟨g, hpp, hrr⟩ := rdq_in M 0 rfl (by omega)
      have hcell := hrr.at_ k hlt
      have hvk : vs.getD k undef = vs[k] := getD_at (by omega)
      rw [hvk] at hcell
      generalize vs[k] = vk at hF hcell
      clear hvk hrr
      subst hpp
      cases hv : p l[k] with
      | false =>
        simp only [hv] at hF
        have HST := Hid2.mk (hnext hv)
        clear hfound hnext hv
        go_wp2
        refine (hF _ M.below).mono ?_
        rintro e w1 ⟨rfl, hb⟩
        have M9 := M.later hb
        clear M hcell
        have M := M9
        clear M9
        go_wp2
        go_roundw
        case rel => exact ⟨k + 1, by omega, by go_num, HST.out, M⟩
        case measure => simp [intOf]; omega
      | true =>
        simp only [hv] at hF
        have HST := Hid2.mk (hfound hv)
        clear hfound hnext hv
        go_wp2
        refine (hF _ M.below).mono ?_
        rintro e w1 ⟨rfl, hb⟩
        have M9 := M.later hb
        clear M hcell
        have M := M9
        clear M9
        go_wp2
        go_ret
        exact ⟨by rw [HST.out]; rfl, M.below⟩
    · obtain rfl : k = l.length := by omega
      have hge : ¬ ((l.length : Int) < (l.length : Int)) := by omega
      go_wp2
      go_ret
      exact ⟨by rw [placeOf_none fun j hj => HL.out j hj hj]; rfl, M.below⟩

set_option maxRecDepth 100000 in
set_option maxHeartbeats 1000000 in
/-- The closure of the search: whether a loop goes to a class. -/
theorem classFn_any (ls : List Sqr) (hlen : ls.length ≤ 10000000) (i j : Nat) (hi : i < ls.length) (hj : j < ls.length) (S : Sqr → Sqr → Bool) (w : World) (g cap b1 b2 b3 f gk n c : Nat)
    (hen : ∀ (args : Array Value) (w : World), (callFunc f args).run Try.prog w = .ok (.enter f args) w)
    (hf : ∀ q ∈ ls, ∀ r ∈ ls, ∀ w1, Calls Try.prog f #[.agg (sqs q.n q.t), .agg (sqs r.n r.t)] w1 fun e w' => e = .returned (.bool (S q r)) ∧ Below w1.heap.size w1 w')
    (hr : rds w g (ls.length * 101) (fun j => (slC ls).getD j undef)) (h1 : rds w b1 1 (fun _ => .func (.func f) #[] #[])) (h2 : rds w b2 1 (fun _ => .slice (some ⟨g, 0, none⟩) ls.length cap)) (h3 : rds w b3 101 (fun j => (sqC ls[i]).getD j undef))
    (hk : w.cell? ⟨gk, 0, none⟩ = some (.int .i64 (j : Int))) (hn : 0 < n) :
    Calls Try.prog 80 #[.slice (some ⟨gk, 0, none⟩) n c, .pointer (some ⟨b1, 0, none⟩), .pointer (some ⟨b2, 0, none⟩), .pointer (some ⟨b3, 0, none⟩)] w fun e w' => e = .returned (.bool (S ls[j] ls[i])) ∧ Below w.heap.size w w' := by
  have M := Mm.start no w
  have hF := hf _ (List.getElem_mem hj) _ (List.getElem_mem hi)
  have hj' : (j : Int) < (ls.length : Int) := by omega
  have hn' : (0 : Int) < (n : Int) := by omega
  have hfa : ∀ w2, Below w.heap.size w w2 → (w2.cell? ⟨b1, 0, none⟩ = some (.func (.func f) #[] #[])) ∧ (w2.cell? ⟨b2, 0, none⟩ = some (.slice (some ⟨g, 0, none⟩) ls.length cap)) ∧ (w2.cell? ⟨gk, 0, none⟩ = some (.int .i64 (j : Int))) ∧
      (∀ j' v, (sqs ls[j].n ls[j].t)[j']? = some v → w2.cell? ⟨g, j * 101 + j', none⟩ = some v) ∧ (∀ j' v, (sqs ls[i].n ls[i].t)[j']? = some v → w2.cell? ⟨b3, 0 + j', none⟩ = some v) := fun w2 hb =>
    ⟨(h1.later hb).at_ 0 (by omega), (h2.later hb).at_ 0 (by omega), by rw [hb.cell (p := ⟨gk, 0, none⟩) (World.block_lt_of_cell? w _ hk)]; exact hk, sq_cells (hr.later hb) hj, fun j' v hv => by
      have hlt : j' < 101 := by have := (Array.getElem?_eq_some_iff.1 hv).1; rwa [sqs_size] at this
      rw [Nat.zero_add, (h3.later hb).at_ j' hlt]
      show some ((sqs ls[i].n ls[i].t).getD j' undef) = some v
      rw [Array.getD_eq_getD_getElem?, hv]; rfl⟩
  generalize S ls[j] ls[i] = res at hF ⊢
  generalize ls[i] = q at hfa hF
  generalize ls[j] = r at hfa hF
  have FA := Hid2.mk hfa
  clear hf hr h1 h2 h3 hk hfa
  go_enter Try.func80, Try.ntmps80
  go_wp2
  apply wp_region_mm M 8 (by kernel_rfl) (by kernel_rfl)
  · simp only [List.take_succ_cons, List.take_zero]
    repeat (first | exact wpText_nil | (apply wpText_cons; (intro w2 M; have hc1 := (FA.out _ M.below).1; have hc2 := (FA.out _ M.below).2.1; have hc3 := (FA.out _ M.below).2.2.1; go_wp2_with (first | (refine wpList_load_part rfl 43 _ rfl (g) (j * 101) rfl (sqs r.n r.t) _ und_sqs rfl inf_sqs ((FA.out _ M.below).2.2.2.1) ?_) | (refine wpList_load_part rfl 43 _ rfl (b3) (0) rfl (sqs q.n q.t) _ und_sqs rfl inf_sqs ((FA.out _ M.below).2.2.2.2) ?_)); exact ⟨rfl, rfl, M⟩); rfl))
  clear M
  intro w2 M
  simp only [List.drop_succ_cons, List.drop_zero]
  go_wp2
  refine (hF _).mono ?_
  rintro e w1 ⟨rfl, hb⟩
  have M9 := M.later hb
  clear M
  have M := M9
  clear M9
  go_wp2
  go_ret
  exact ⟨rfl, M.below⟩
end Go.Proofs.Ytinjjaoikofkdaa

/- Classes of loops, for the program: the contract. -/
namespace Go.Proofs.Ytinjjaoikofkdaa
set_option linter.unusedSimpArgs false
set_option linter.unusedVariables false
open Go Go.RowKit

theorem bsl_cls0 (w : World) : (Instr.buildSlice 50 0 [].toArray).run Try.prog w = .ok (.slice (some ⟨w.heap.size, 0, none⟩) 0 0) (w.alloc (.cells #[] 85)) := by kernel_rfl
theorem bsl_clsN (w : World) : (Instr.buildSlice 50 1 [(0, Value.slice none 0 0)].toArray).run Try.prog w = .ok (.slice (some ⟨w.heap.size, 0, none⟩) 1 1) (w.alloc (.cells #[.slice none 0 0] 85)) := by kernel_rfl
theorem bsl_cls1 (b : Nat) (w : World) : (Instr.buildSlice 50 1 [(0, Value.slice (some ⟨b, 0, none⟩) 1 1)].toArray).run Try.prog w = .ok (.slice (some ⟨w.heap.size, 0, none⟩) 1 1) (w.alloc (.cells #[.slice (some ⟨b, 0, none⟩) 1 1] 85)) := by kernel_rfl
theorem bsl_i64 (i : Int) (w : World) : (Instr.buildSlice 85 1 [(0, Value.int .i64 i)].toArray).run Try.prog w = .ok (.slice (some ⟨w.heap.size, 0, none⟩) 1 1) (w.alloc (.cells #[.int .i64 i] 2)) := by kernel_rfl
theorem und_slc : Try.prog.underlying 50 = some (.slice 85) := by kernel_rfl
theorem inf_elc : (Try.prog.info? 85).map (fun i => (i.zero, i.size, i.bytes)) = some (some (.slice none 0 0), 1, 24) := by kernel_rfl
theorem und_sli : Try.prog.underlying 85 = some (.slice 2) := by kernel_rfl
theorem inf_eli : (Try.prog.info? 2).map (fun i => (i.zero, i.size, i.bytes)) = some (some (.int .i64 0), 1, 8) := by kernel_rfl
theorem inf_slc : (Try.prog.info? 85).map (·.size) = some 1 := by kernel_rfl
theorem flat_c1 {v : Value} (h : oneV v = true) : flat #[v] := fun u hu => by
  simp only [List.mem_singleton] at hu; subst hu
  cases u <;> simp_all [oneV]

/-- Every class has a number, and none that is too great. -/
theorem clsTo_good {same : Nat → Nat → Bool} : ∀ m, ∀ c ∈ clsTo same m, c ≠ [] ∧ ∀ x ∈ c, x < m
  | 0, c, h => by cases h
  | m + 1, c, h => by
    have ih := clsTo_good (same := same) m
    have h' : c ∈ clsStep same (clsTo same m) m := h
    unfold clsStep at h'
    split at h'
    · rename_i k hk
      obtain ⟨j, hj⟩ := List.getElem?_of_mem h'
      rw [List.getElem?_modify] at hj
      cases he : (clsTo same m)[j]? with
      | none => simp [he] at hj
      | some d =>
        have hd := ih d (List.mem_of_getElem? he)
        rw [he] at hj
        simp only [Option.map_eq_map, Option.map_some, Option.some.injEq] at hj
        split at hj
        · subst hj
          refine ⟨by simp, fun x hx => ?_⟩
          rcases List.mem_append.1 hx with h1 | h1
          · have := hd.2 x h1; omega
          · simp only [List.mem_singleton] at h1; omega
        · subst hj
          exact ⟨hd.1, fun x hx => by have := hd.2 x hx; omega⟩
    · rcases List.mem_append.1 h' with h1 | h1
      · have hd := ih c h1
        exact ⟨hd.1, fun x hx => by have := hd.2 x hx; omega⟩
      · simp only [List.mem_singleton] at h1
        subst h1
        exact ⟨by simp, fun x hx => by simp only [List.mem_singleton] at hx; omega⟩
theorem clsTo_size {same : Nat → Nat → Bool} (m : Nat) (c : List Nat) (h : c ∈ clsTo same m) : c.length ≤ m := by
  have key : ∀ m, ∀ c ∈ clsTo same m, c.length ≤ m := by
    intro m
    induction m with
    | zero => intro c h; cases h
    | succ m ih =>
      intro c h
      have h' : c ∈ clsStep same (clsTo same m) m := h
      unfold clsStep at h'
      split at h'
      · obtain ⟨j, hj⟩ := List.getElem?_of_mem h'
        rw [List.getElem?_modify] at hj
        cases he : (clsTo same m)[j]? with
        | none => simp [he] at hj
        | some d =>
          have hd := ih d (List.mem_of_getElem? he)
          rw [he] at hj
          simp only [Option.map_eq_map, Option.map_some, Option.some.injEq] at hj
          split at hj <;> subst hj
          · rw [List.length_append]; simpa using hd
          · omega
      · rcases List.mem_append.1 h' with h1 | h1
        · have := ih c h1; omega
        · simp only [List.mem_singleton] at h1; subst h1; simp
  exact key m c h

theorem own_one {w : World} {base e size n : Nat} {v : Value} {xs : List Value} (h : w.ownsRow base e size v n xs) : oneV v = true := by
  obtain ⟨pp, cap, rfl⟩ := own_form h
  rfl
theorem rds_one {w : World} {b t : Nat} {v : Value} (h : blk w b #[v] t) : rds w b 1 (fun _ => v) := h.rds fun j hj => by
  obtain rfl : j = 0 := by omega
  rfl
theorem rds_sq {w : World} {b t : Nat} {q : Sqr} (h : blk w b (sqs q.n q.t) t) : rds w b 101 (fun j => (sqC q).getD j undef) := h.rds fun j hj => by
  show (sqs q.n q.t)[j]? = some ((sqs q.n q.t).getD j undef)
  rw [Array.getD_eq_getD_getElem?, Array.getElem?_eq_getElem (show j < (sqs q.n q.t).size by rw [sqs_size]; exact hj)]; rfl

set_option maxRecDepth 100000 in
set_option maxHeartbeats 4000000 in
theorem classesOf_any (ls : List Sqr) (hlen : ls.length ≤ 1048576) (S : Sqr → Sqr → Bool) (w : World) (g cap f : Nat) (hen : ∀ (args : Array Value) (w : World), (callFunc f args).run Try.prog w = .ok (.enter f args) w)
    (hf : ∀ q ∈ ls, ∀ r ∈ ls, ∀ w1, Calls Try.prog f #[.agg (sqs q.n q.t), .agg (sqs r.n r.t)] w1 fun e w' => e = .returned (.bool (S q r)) ∧ Below w1.heap.size w1 w')
    (hr : rds w g (ls.length * 101) (fun j => (slC ls).getD j undef)) :
    Calls Try.prog 60 #[.slice (some ⟨g, 0, none⟩) ls.length cap, .func (.func f) #[] #[]] w fun e w' => ∃ v, e = .returned v ∧ ClsRes w.heap.size w w' v (clsTo (fun j i => S (ls.getD j sq00) (ls.getD i sq00)) ls.length) 85 2 := by
  have M := (Mm.start no w).add (x := .rd g (ls.length * 101) (fun j => (slC ls).getD j undef)) hr fun _ h => by cases h
  have HF := Hid2.mk hf
  have hmf : ∀ (fn : Fn) (first cap : Array Value) (w : World), (Instr.makeFunc fn first cap).run Try.prog w = .ok (.func fn first cap) w := fun _ _ _ _ => rfl
  clear hr hf
  generalize hsame : (fun j i => S (ls.getD j sq00) (ls.getD i sq00)) = same
  have C := M.ruleAll; simp only [Go.Proofs.Ytinjjaoikofkdaa.ruleAll] at C
  go_enter Try.func60, Try.ntmps60
  go_wp2_with (first | ((with_reducible apply wpM_box' M 27 (#[.slice (some ⟨g, 0, none⟩) ls.length cap])); rfl; exact ⟨rfl, rfl⟩; clear M; (try clear C); intro bl w9 h_bl M; have C := M.ruleAll; simp only [Go.Proofs.Ytinjjaoikofkdaa.ruleAll] at C) | ((with_reducible apply wpM_box' M 78 (#[.func (.func f) #[] #[]])); rfl; exact ⟨rfl, rfl⟩; clear M; (try clear C); intro bs w9 h_bs M; have C := M.ruleAll; simp only [Go.Proofs.Ytinjjaoikofkdaa.ruleAll] at C) | ((with_reducible apply wpM_bsl' M 50 0 85 ([]) (#[])); rfl; rfl; rfl; exact bsl_cls0; clear M; (try clear C); intro bo w9 h_bo M; have C := M.ruleAll; simp only [Go.Proofs.Ytinjjaoikofkdaa.ruleAll] at C))
  have M9 := M.asRow 0 rfl w.heap.size 0 1 h_bo rfl (Nat.zero_le _)
  clear M; (try clear C)
  have M : Mm no w w9 (.box bs #[.func (.func f) #[] #[]] 78 :: .box bl #[.slice (some ⟨g, 0, none⟩) ls.length cap] 27 :: .rd g (ls.length * 101) (fun j => (slC ls).getD j undef) :: .row w.heap.size (.slice (some ⟨bo, 0, none⟩) 0 0) 0 [] 85 1 :: clsE w.heap.size 2 [] []) := M9.sub [1, 2, 3, 0] (by decide)
  clear M9
  have C := M.ruleAll; simp only [Go.Proofs.Ytinjjaoikofkdaa.ruleAll] at C
  go_wp2
  go_loopw [12, 5] (fun i v wr => ∃ k : Nat, k ≤ ls.length ∧ i = .int .i64 (k : Int) ∧ ∃ pp cv vs, v = .slice pp (clsTo same k).length cv ∧ vs.length = (clsTo same k).length ∧ Mm no w wr (.box bs #[.func (.func f) #[] #[]] 78 :: .box bl #[.slice (some ⟨g, 0, none⟩) ls.length cap] 27 :: .rd g (ls.length * 101) (fun j => (slC ls).getD j undef) :: .row w.heap.size (.slice pp (clsTo same k).length cv) (clsTo same k).length vs 85 1 :: clsE w.heap.size 2 vs (clsTo same k))) (fun i _ _ => ls.length - (intOf i).toNat)
  case atStart => exact ⟨0, by omega, rfl, _, _, [], rfl, rfl, M⟩
  case round =>
    obtain ⟨k, hk, rfl, pp, cv, vs, rfl, hvl, M9⟩ := hrel
    clear M; (try clear C)
    have M := M9
    clear M9
    have C := M.ruleAll; simp only [Go.Proofs.Ytinjjaoikofkdaa.ruleAll] at C
    by_cases hlt : k < ls.length
    · have hlt' : (k : Int) < (ls.length : Int) := by omega
      have hgood := clsTo_good (same := same) k
      have hle := clsTo_le (same := same) k
      have hsz := clsTo_size (same := same) k
      have hstep : clsTo same (k + 1) = clsStep same (clsTo same k) k := rfl
      generalize clsTo same k = cls at hgood hle hsz hstep hvl M ⊢
      obtain ⟨q, hq⟩ : ∃ q, q = ls[k] := ⟨_, rfl⟩
      have hcells : ∀ {w3}, rds w3 g (ls.length * 101) (fun j => (slC ls).getD j undef) → ∀ j v, (sqs q.n q.t)[j]? = some v → w3.cell? ⟨g, k * 101 + j, none⟩ = some v := fun h => by rw [hq]; exact sq_cells h hlt
      have HCE := Hid2.mk @hcells
      have HI : ∀ bq w1, Mm no w w1 (.box bq (sqs q.n q.t) 43 :: .box bs #[.func (.func f) #[] #[]] 78 :: .box bl #[.slice (some ⟨g, 0, none⟩) ls.length cap] 27 :: .rd g (ls.length * 101) (fun j => (slC ls).getD j undef) :: .row w.heap.size (.slice pp cls.length cv) cls.length vs 85 1 :: clsE w.heap.size 2 vs cls) →
          Calls Try.prog 79 #[.slice pp cls.length cv, .func (.func 80) #[] #[.pointer (some ⟨bs, 0, none⟩), .pointer (some ⟨bl, 0, none⟩), .pointer (some ⟨bq, 0, none⟩)]] w1 fun e w' => e = .returned (.int .i64 (placeOf (fun c => same (c.headD 0) k) cls)) ∧ Below w1.heap.size w1 w' := fun bq w1 M => by
        have hown := M.row 4 rfl
        have hrq := rdq_of_own hown
        rw [Nat.mul_one] at hrq
        refine idxSlices_any cls vs hvl (by omega) w1 pp cv hrq 80 _ (fun c => same (c.headD 0) k) (enters_of (P := Try.prog) (f := 80) (by exact Try.func80) (by kernel_rfl) rfl) fun j hj w2 hb => ?_
        have hent := M.ents (5 + j) _ (show _ = some (.row w.heap.size (vs[j]'(by omega)) cls[j].length (ints cls[j]) 2 1) by rw [Nat.add_comm]; exact clsE_get (by omega) hj)
        obtain ⟨hne, hxs⟩ := hgood cls[j] (List.getElem_mem hj)
        obtain ⟨x, c', hc⟩ : ∃ x c', cls[j] = x :: c' := by
          cases h : cls[j] with
          | nil => exact absurd h hne
          | cons x c' => exact ⟨x, c', rfl⟩
        have hx : x < k := hxs x (by rw [hc]; simp)
        have hown2 : w1.ownsRow w.heap.size 2 1 (vs[j]'(by omega)) cls[j].length (ints cls[j]) := hent
        obtain ⟨gk, ck, hvj, hcell, hgl⟩ := own_head hown2 (by rw [hc]; simp)
        rw [hvj]
        have h9 := classFn_any ls (by omega) k x hlt (by omega) S w2 g cap bs bl bq f gk cls[j].length ck hen HF.out ((M.rd 3 rfl).later hb) (rds_one ((M.box 1 rfl).later hb)) (rds_one ((M.box 2 rfl).later hb)) (by rw [← hq]; exact rds_sq ((M.box 0 rfl).later hb)) (by rw [hb.cell (p := ⟨gk, 0, none⟩) hgl, hcell, hc]; rfl) (by rw [hc]; simp)
        have e1 : same (cls[j].headD 0) k = S ls[x] ls[k] := by
          rw [hc, ← hsame]
          show S (ls.getD x sq00) (ls.getD k sq00) = _
          rw [getD_at (by omega), getD_at hlt]
        rw [e1]
        exact h9
      have hK := HI
      clear HI hq hcells
      cases hfi : cls.findIdx? (fun c => same (c.headD 0) k) with
      | some j =>
        obtain ⟨hjl, _, _⟩ := List.findIdx?_eq_some_iff_getElem.1 hfi
        have hpl : placeOf (fun c => same (c.headD 0) k) cls = (j : Int) := by unfold placeOf; rw [hfi]
        have hst : clsTo same (k + 1) = cls.modify j (· ++ [k]) := by rw [hstep]; unfold clsStep; rw [hfi]
        have HST := Hid2.mk hst
        rw [hpl] at hK
        obtain ⟨go, cv', he, _, _, _⟩ := own_rds (M.row 3 rfl) (by omega)
        cases he
        have hown : wr.ownsRow w.heap.size 2 1 (vs[j]'(by omega)) cls[j].length (ints cls[j]) := show Ent.holds wr (.row w.heap.size (vs[j]'(by omega)) cls[j].length (ints cls[j]) 2 1) from M.ents (4 + j) _ (by rw [Nat.add_comm]; exact clsE_get (by omega) hjl)
        obtain ⟨ppj, cj, hvj⟩ := own_form hown
        have HG := Hid2.mk (show (clsE w.heap.size 2 vs cls)[j]? = some (.row w.heap.size (.slice ppj cls[j].length cj) cls[j].length (ints cls[j]) 2 1) by rw [← hvj]; exact clsE_get (by omega) hjl)
        have HV := Hid2.mk (show vs[j]? = some (.slice ppj cls[j].length cj) by rw [← hvj]; exact List.getElem?_eq_getElem _)
        have hj0 : ¬ ((j : Int) < 0) := by omega
        have hjl' : (j : Int) < (cls.length : Int) := by omega
        have HLE := Hid2.mk (hsz cls[j] (List.getElem_mem hjl))
        clear hown hvj hpl hst hfi hstep hgood hsz
        go_wp2_with (first | (refine wpList_load_part rfl 43 _ rfl (g) (k * 101) rfl (sqs q.n q.t) _ und_sqs rfl inf_sqs (HCE.out (by first | exact M.rd 2 rfl | exact M.rd 3 rfl)) ?_) | ((with_reducible apply wpM_alloc' M 43 (sqs 0 fun _ _ => 0)); rfl; exact ⟨rfl, _, zero_sqs _, rfl⟩; clear M; (try clear C); intro bq w9 h_bq M; have C := M.ruleAll; simp only [Go.Proofs.Ytinjjaoikofkdaa.ruleAll] at C) | ((with_reducible apply wpM_sta' M 0 43 (sqs q.n q.t)); rfl; rfl; rfl; rfl; (first | exact .inl (by assumption) | exact .inr rfl | exact .inr (by assumption)); exact ⟨rfl, inf_sqs.trans (congrArg some (sqs_size ..).symm), flat_sqs _ _⟩; (simp only [entCells, List.getElem?_cons_zero, List.getElem?_cons_succ, sqs_size, sqs_size]); clear M; (try clear C); intro w9 M; simp only [List.set_cons_zero, List.set_cons_succ, entBlk, entT, List.getElem?_cons_zero, List.getElem?_cons_succ] at M; have C := M.ruleAll; simp only [Go.Proofs.Ytinjjaoikofkdaa.ruleAll] at C) | (go_at_call 79; ((with_reducible refine (hK _ _ M).mono ?_); rintro e w1 ⟨rfl, hb⟩; have M9 := M.later hb; clear M; (try clear C); have M := M9; clear M9; have C := M.ruleAll; simp only [Go.Proofs.Ytinjjaoikofkdaa.ruleAll] at C; have hcj : w1.cell? ⟨go, j, none⟩ = some (.slice ppj cls[j].length cj) := by rw [World.ownsRow.cellAt (M.row 4 rfl) j (by omega)]; exact HV.out)) | ((with_reducible apply wpM_bsl' M 85 1 2 ([(0, .int .i64 (k : Int))]) (#[.int .i64 (k : Int)])); rfl; rfl; rfl; exact bsl_i64 _; clear M; (try clear C); intro bi w9 h_bi M; have C := M.ruleAll; simp only [Go.Proofs.Ytinjjaoikofkdaa.ruleAll] at C) | ((with_reducible apply wpM_app' M 85 (j + 6) 0 w.heap.size (.slice ppj cls[j].length cj) (cls[j].length) (ints cls[j]) 2 1 8); rfl; exact HG.out; rfl; rfl; rfl; rfl; rfl; exact .inl (Nat.le_refl _); exact M.size; exact und_sli; exact inf_eli; rfl; decide; decide; rfl; rfl; exact flat_c1 rfl; (have := HLE.out; omega); clear M; (try clear C); intro v2 w9 far_v2 M; obtain ⟨pp_v2, cap_v2, rfl⟩ := own_set (i := j + 6) M (show _ = some _ from HG.out); simp only [List.set_cons_zero, List.set_cons_succ, entCells, List.getElem?_cons_zero] at M; have C := M.ruleAll; simp only [Go.Proofs.Ytinjjaoikofkdaa.ruleAll] at C) | ((with_reducible apply wpM_rst' M 5 85 w.heap.size go (cls.length) cv 85 (vs) (j) (.slice pp_v2 (cls[j].length + 1) cap_v2)); rfl; rfl; rfl; rfl; exact ⟨rfl, rfl, inf_slc⟩; exact .inl (Nat.le_refl _); omega; clear M; (try clear C); intro w9 M; simp only [List.set_cons_zero, List.set_cons_succ] at M; have C := M.ruleAll; simp only [Go.Proofs.Ytinjjaoikofkdaa.ruleAll] at C))
        have M8 : Mm no w w9 (.box bs #[.func (.func f) #[] #[]] 78 :: .box bl #[.slice (some ⟨g, 0, none⟩) ls.length cap] 27 :: .rd g (ls.length * 101) (fun j => (slC ls).getD j undef) :: .row w.heap.size (.slice (some ⟨go, 0, none⟩) cls.length cv) cls.length (vs.set j (.slice pp_v2 (cls[j].length + 1) cap_v2)) 85 1 :: clsE w.heap.size 2 (vs.set j (.slice pp_v2 (cls[j].length + 1) cap_v2)) (cls.modify j (· ++ [k]))) := by
          have h := (M.drop 0).drop 0
          rw [← clsE_set _ hjl]
          exact h
        clear M; (try clear C)
        go_roundw
        case rel =>
          refine ⟨k + 1, by omega, by go_num, some ⟨go, 0, none⟩, cv, vs.set j (.slice pp_v2 (cls[j].length + 1) cap_v2), ?_, ?_, ?_⟩
          · rw [HST.out, List.length_modify]
          · rw [HST.out, List.length_modify, List.length_set]; exact hvl
          · rw [HST.out, List.length_modify]; exact M8
        case measure => simp [intOf]; omega
      | none =>
        have hpl : placeOf (fun c => same (c.headD 0) k) cls = -1 := by unfold placeOf; rw [hfi]
        have hst : clsTo same (k + 1) = cls ++ [[k]] := by rw [hstep]; unfold clsStep; rw [hfi]
        have HST := Hid2.mk hst
        rw [hpl] at hK
        have HG := Hid2.mk (show (clsE w.heap.size 2 (vs ++ [.slice none 0 0]) (cls ++ [[]]))[cls.length]? = some (.row w.heap.size (.slice none 0 0) 0 [] 2 1) by rw [clsE_new hvl, List.getElem?_append_right (by rw [clsE_len hvl]; omega), clsE_len hvl, Nat.sub_self]; rfl)
        have HV := Hid2.mk (show (vs ++ [.slice none 0 0])[cls.length]? = some (.slice none 0 0) by rw [← hvl, List.getElem?_append_right (Nat.le_refl _), Nat.sub_self]; rfl)
        have HE := Hid2.mk (clsE_new (B := w.heap.size) (e := 2) hvl (.slice none 0 0) [])
        have hbound : (cls.length : Int) < ((cls.length + 1 : Nat) : Int) := by omega
        have HLE := Hid2.mk hle
        clear hpl hst hfi hstep hgood hsz
        go_wp2_with (first | (refine wpList_load_part rfl 43 _ rfl (g) (k * 101) rfl (sqs q.n q.t) _ und_sqs rfl inf_sqs (HCE.out (by first | exact M.rd 2 rfl | exact M.rd 3 rfl)) ?_) | ((with_reducible apply wpM_alloc' M 43 (sqs 0 fun _ _ => 0)); rfl; exact ⟨rfl, _, zero_sqs _, rfl⟩; clear M; (try clear C); intro bq w9 h_bq M; have C := M.ruleAll; simp only [Go.Proofs.Ytinjjaoikofkdaa.ruleAll] at C) | ((with_reducible apply wpM_sta' M 0 43 (sqs q.n q.t)); rfl; rfl; rfl; rfl; (first | exact .inl (by assumption) | exact .inr rfl | exact .inr (by assumption)); exact ⟨rfl, inf_sqs.trans (congrArg some (sqs_size ..).symm), flat_sqs _ _⟩; (simp only [entCells, List.getElem?_cons_zero, List.getElem?_cons_succ, sqs_size, sqs_size]); clear M; (try clear C); intro w9 M; simp only [List.set_cons_zero, List.set_cons_succ, entBlk, entT, List.getElem?_cons_zero, List.getElem?_cons_succ] at M; have C := M.ruleAll; simp only [Go.Proofs.Ytinjjaoikofkdaa.ruleAll] at C) | (go_at_call 79; ((with_reducible refine (hK _ _ M).mono ?_); rintro e w1 ⟨rfl, hb⟩; have M9 := M.later hb; clear M; (try clear C); have M := M9; clear M9; have C := M.ruleAll; simp only [Go.Proofs.Ytinjjaoikofkdaa.ruleAll] at C)) | ((with_reducible apply wpM_bsl' M 85 1 2 ([(0, .int .i64 (k : Int))]) (#[.int .i64 (k : Int)])); rfl; rfl; rfl; exact bsl_i64 _; clear M; (try clear C); intro bi w9 h_bi M; have C := M.ruleAll; simp only [Go.Proofs.Ytinjjaoikofkdaa.ruleAll] at C) | ((with_reducible apply wpM_bsl' M 50 1 85 ([(0, .slice none 0 0)]) (#[.slice none 0 0])); rfl; rfl; rfl; exact bsl_clsN; clear M; (try clear C); intro bn w9 h_bn M; have C := M.ruleAll; simp only [Go.Proofs.Ytinjjaoikofkdaa.ruleAll] at C) | (((with_reducible apply wpM_app' M 50 5 0 (w.heap.size) (.slice pp cls.length cv) (cls.length) (vs) 85 1 24); rfl; rfl; rfl; rfl; rfl; rfl; rfl; (first | exact .inl (Nat.le_refl _) | exact .inl (by assumption) | exact .inr (by assumption) | exact .inr HDv.out); (first | exact M.size | (have hq := M.size; omega)); exact und_slc; exact inf_elc; rfl; decide; decide; rfl; exact rfl; exact flat_c1 rfl; omega; clear M; (try clear C); intro v2 w9 far_v2 M; simp only [List.set_cons_zero, List.set_cons_succ, entBlk, entT, List.getElem?_cons_zero, List.getElem?_cons_succ] at M; obtain ⟨pp_v2, cap_v2, rfl⟩ := own_form (M.row 5 rfl); have C := M.ruleAll; simp only [Go.Proofs.Ytinjjaoikofkdaa.ruleAll] at C); obtain ⟨go, cq, he9, _, _, _⟩ := own_rds (M.row 5 rfl) (by omega); cases he9; have M7 := ((M.drop 0).nilRow w.heap.size 2 1).perm (show List.Perm _ (.box bq (sqs q.n q.t) 43 :: .box bs #[.func (.func f) #[] #[]] 78 :: .box bl #[.slice (some ⟨g, 0, none⟩) ls.length cap] 27 :: .rd g (ls.length * 101) (fun j => (slC ls).getD j undef) :: .row w.heap.size (.slice (some ⟨go, 0, none⟩) (cls.length + 1) cap_v2) (cls.length + 1) (vs ++ [.slice none 0 0]) 85 1 :: clsE w.heap.size 2 (vs ++ [.slice none 0 0]) (cls ++ [[]])) by rw [HE.out]; exact (List.perm_append_singleton _ (.box bq (sqs q.n q.t) 43 :: .box bs #[.func (.func f) #[] #[]] 78 :: .box bl #[.slice (some ⟨g, 0, none⟩) ls.length cap] 27 :: .rd g (ls.length * 101) (fun j => (slC ls).getD j undef) :: .row w.heap.size (.slice (some ⟨go, 0, none⟩) (cls.length + 1) cap_v2) (cls.length + 1) (vs ++ [.slice none 0 0]) 85 1 :: clsE w.heap.size 2 vs cls)).symm); clear M; (try clear C); have M := M7; clear M7; have hcj : w9.cell? ⟨go, cls.length, none⟩ = some (.slice none 0 0) := by rw [World.ownsRow.cellAt (M.row 4 rfl) cls.length (by omega)]; exact HV.out) | ((with_reducible apply wpM_app' M 85 (cls.length + 6) 0 w.heap.size (.slice none 0 0) (0) ([]) 2 1 8); rfl; exact HG.out; rfl; rfl; rfl; rfl; rfl; exact .inl (Nat.le_refl _); exact M.size; exact und_sli; exact inf_eli; rfl; decide; decide; rfl; rfl; exact flat_c1 rfl; omega; clear M; (try clear C); intro v3 w9 far_v3 M; obtain ⟨pp_v3, cap_v3, rfl⟩ := own_set (i := cls.length + 6) M (show _ = some _ from HG.out); simp only [List.set_cons_zero, List.set_cons_succ, entCells, List.getElem?_cons_zero] at M; have C := M.ruleAll; simp only [Go.Proofs.Ytinjjaoikofkdaa.ruleAll] at C) | ((with_reducible apply wpM_rst' M 5 85 w.heap.size go (cls.length + 1) cap_v2 85 (vs ++ [.slice none 0 0]) (cls.length) (.slice pp_v3 1 cap_v3)); rfl; rfl; rfl; rfl; exact ⟨rfl, rfl, inf_slc⟩; exact .inl (Nat.le_refl _); omega; clear M; (try clear C); intro w9 M; simp only [List.set_cons_zero, List.set_cons_succ] at M; have C := M.ruleAll; simp only [Go.Proofs.Ytinjjaoikofkdaa.ruleAll] at C))
        have M8 : Mm no w w9 (.box bs #[.func (.func f) #[] #[]] 78 :: .box bl #[.slice (some ⟨g, 0, none⟩) ls.length cap] 27 :: .rd g (ls.length * 101) (fun j => (slC ls).getD j undef) :: .row w.heap.size (.slice (some ⟨go, 0, none⟩) (cls.length + 1) cap_v2) (cls.length + 1) (vs ++ [.slice pp_v3 1 cap_v3]) 85 1 :: clsE w.heap.size 2 (vs ++ [.slice pp_v3 1 cap_v3]) (cls ++ [[k]])) := by
          have h := (M.drop 0).drop 0
          rw [← clsE_set_new hvl (.slice none 0 0), ← set_last hvl.symm (.slice none 0 0)]
          exact h
        clear M; (try clear C)
        go_roundw
        case rel =>
          refine ⟨k + 1, by omega, by go_num, some ⟨go, 0, none⟩, cap_v2, vs ++ [.slice pp_v3 1 cap_v3], ?_, ?_, ?_⟩
          · rw [HST.out, List.length_append]; rfl
          · rw [HST.out, List.length_append, List.length_append, hvl]; rfl
          · rw [HST.out, List.length_append]; exact M8
        case measure => simp [intOf]; omega
    · obtain rfl : k = ls.length := by omega
      have hge : ¬ ((ls.length : Int) < (ls.length : Int)) := by omega
      go_wp2
      go_ret
      exact ⟨_, rfl, vs, hvl, ((M.drop 0).drop 0).drop 0⟩
end Go.Proofs.Ytinjjaoikofkdaa

