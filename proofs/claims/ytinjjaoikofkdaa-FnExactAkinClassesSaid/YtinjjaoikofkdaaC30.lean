/- The first isomorphism, for the program and for the reference: contracts. -/
import Derived.Test.YtinjjaoikofkdaaC16
import Derived.Test.YtinjjaoikofkdaaC20
import Derived.Test.YtinjjaoikofkdaaK10
import Derived.Test.YtinjjaoikofkdaaM
import Derived.Test.YtinjjaoikofkdaaC7
import Derived.Test.YtinjjaoikofkdaaC4
import Derived.Test.YtinjjaoikofkdaaC9
import Derived.Test.YtinjjaoikofkdaaK9
namespace Go.Proofs.Ytinjjaoikofkdaa
set_option linter.unusedSimpArgs false
set_option linter.unusedVariables false
open Go Go.RowKit

set_option maxRecDepth 100000 in
set_option maxHeartbeats 1000000 in
theorem l02Both_any (n k : Int) (t u : Nat → Nat → Nat) (w : World) (ht : Byt2 t) (hu : Byt2 u) :
    Calls Try.prog 102 #[.agg (sqs n t), .agg (sqs k u)] w fun e w' => e = .returned (.int .i64 (if isSq n t = true ∧ isSq k u = true then 0 else 1)) ∧ Below w.heap.size w w' := by
  have M := Mm.start no w
  have H1 := fun w1 => l01Is_any n t w1 ht
  have H2 := fun w1 => l01Is_any k u w1 hu
  cases e1 : isSq n t with
  | false =>
    simp only [e1] at H1
    rw [if_neg (by simp)]
    go_enter Try.func102, Try.ntmps102
    go_wp2_with (first | ((with_reducible apply wpM_box' M 43 (sqs n t)); rfl; exact ⟨rfl, rfl⟩; clear M; (try clear C); intro bq w9 h_bq M; have C := M.ruleAll; simp only [Go.Proofs.Ytinjjaoikofkdaa.ruleAll] at C) | ((with_reducible apply wpM_box' M 43 (sqs k u)); rfl; exact ⟨rfl, rfl⟩; clear M; (try clear C); intro br w9 h_br M; have C := M.ruleAll; simp only [Go.Proofs.Ytinjjaoikofkdaa.ruleAll] at C) | ((with_reducible apply wpM_lda' M 1 43 0 (sqs n t)); rfl; rfl; rfl; exact ⟨rfl, inf_sqs.trans (congrArg some (sqs_size ..).symm), _, und_sqs, rfl⟩; exact whole_of rfl) | (go_at_call 68; ((with_reducible refine (H1 _).mono ?_); rintro e w1 ⟨rfl, hb⟩; have hsz := M.size; (try (have G9 := G.later hb; clear G; have G := G9; clear G9)); have M9 := M.later hb; clear M; (try clear C); have M := M9; clear M9; have C := M.ruleAll; simp only [Go.Proofs.Ytinjjaoikofkdaa.ruleAll] at C)))
    go_ret
    exact ⟨rfl, M.below⟩
  | true =>
    cases e2 : isSq k u with
    | false =>
      simp only [e1] at H1
      simp only [e2] at H2
      rw [if_neg (by simp)]
      go_enter Try.func102, Try.ntmps102
      go_wp2_with (first | ((with_reducible apply wpM_box' M 43 (sqs n t)); rfl; exact ⟨rfl, rfl⟩; clear M; (try clear C); intro bq w9 h_bq M; have C := M.ruleAll; simp only [Go.Proofs.Ytinjjaoikofkdaa.ruleAll] at C) | ((with_reducible apply wpM_box' M 43 (sqs k u)); rfl; exact ⟨rfl, rfl⟩; clear M; (try clear C); intro br w9 h_br M; have C := M.ruleAll; simp only [Go.Proofs.Ytinjjaoikofkdaa.ruleAll] at C) | ((with_reducible apply wpM_lda' M 1 43 0 (sqs n t)); rfl; rfl; rfl; exact ⟨rfl, inf_sqs.trans (congrArg some (sqs_size ..).symm), _, und_sqs, rfl⟩; exact whole_of rfl) | ((with_reducible apply wpM_lda' M 0 43 0 (sqs k u)); rfl; rfl; rfl; exact ⟨rfl, inf_sqs.trans (congrArg some (sqs_size ..).symm), _, und_sqs, rfl⟩; exact whole_of rfl) | (go_at_call 68; ((with_reducible refine (H1 _).mono ?_); rintro e w1 ⟨rfl, hb⟩; have hsz := M.size; (try (have G9 := G.later hb; clear G; have G := G9; clear G9)); have M9 := M.later hb; clear M; (try clear C); have M := M9; clear M9; have C := M.ruleAll; simp only [Go.Proofs.Ytinjjaoikofkdaa.ruleAll] at C)) | (go_at_call 68; ((with_reducible refine (H2 _).mono ?_); rintro e w1 ⟨rfl, hb⟩; have hsz := M.size; (try (have G9 := G.later hb; clear G; have G := G9; clear G9)); have M9 := M.later hb; clear M; (try clear C); have M := M9; clear M9; have C := M.ruleAll; simp only [Go.Proofs.Ytinjjaoikofkdaa.ruleAll] at C)))
      go_ret
      exact ⟨rfl, M.below⟩
    | true =>
      simp only [e1] at H1
      simp only [e2] at H2
      rw [if_pos ⟨rfl, rfl⟩]
      go_enter Try.func102, Try.ntmps102
      go_wp2_with (first | ((with_reducible apply wpM_box' M 43 (sqs n t)); rfl; exact ⟨rfl, rfl⟩; clear M; (try clear C); intro bq w9 h_bq M; have C := M.ruleAll; simp only [Go.Proofs.Ytinjjaoikofkdaa.ruleAll] at C) | ((with_reducible apply wpM_box' M 43 (sqs k u)); rfl; exact ⟨rfl, rfl⟩; clear M; (try clear C); intro br w9 h_br M; have C := M.ruleAll; simp only [Go.Proofs.Ytinjjaoikofkdaa.ruleAll] at C) | ((with_reducible apply wpM_lda' M 1 43 0 (sqs n t)); rfl; rfl; rfl; exact ⟨rfl, inf_sqs.trans (congrArg some (sqs_size ..).symm), _, und_sqs, rfl⟩; exact whole_of rfl) | ((with_reducible apply wpM_lda' M 0 43 0 (sqs k u)); rfl; rfl; rfl; exact ⟨rfl, inf_sqs.trans (congrArg some (sqs_size ..).symm), _, und_sqs, rfl⟩; exact whole_of rfl) | (go_at_call 68; ((with_reducible refine (H1 _).mono ?_); rintro e w1 ⟨rfl, hb⟩; have hsz := M.size; (try (have G9 := G.later hb; clear G; have G := G9; clear G9)); have M9 := M.later hb; clear M; (try clear C); have M := M9; clear M9; have C := M.ruleAll; simp only [Go.Proofs.Ytinjjaoikofkdaa.ruleAll] at C)) | (go_at_call 68; ((with_reducible refine (H2 _).mono ?_); rintro e w1 ⟨rfl, hb⟩; have hsz := M.size; (try (have G9 := G.later hb; clear G; have G := G9; clear G9)); have M9 := M.later hb; clear M; (try clear C); have M := M9; clear M9; have C := M.ruleAll; simp only [Go.Proofs.Ytinjjaoikofkdaa.ruleAll] at C)))
      go_ret
      exact ⟨rfl, M.below⟩

/-- The first word of a list, and a code. -/
def isoRes : List (List Nat) → (Nat → Nat) × Int
  | [] => (fun _ => 0, 4)
  | p :: _ => (wf p, 0)
/-- A permutation and a code that are handed back. -/
def PlcCode (c : (Nat → Nat) × Int) (w : World) (e : Ending) (w' : World) : Prop := e = .returned (.tuple #[.agg (bys c.1), .int .i64 c.2]) ∧ Below w.heap.size w w'
theorem isoRes_take (l : List (List Nat)) : isoRes (l.take 1) = isoRes l := by cases l <;> rfl
theorem isoRes_none {l : List (List Nat)} (h : l.length = 0) : isoRes l = (fun _ => 0, 4) := by cases l <;> first | rfl | simp at h
theorem isoRes_some {l : List (List Nat)} (h : 0 < l.length) : isoRes l = (wf l[0], 0) := by cases l <;> first | rfl | simp at h
theorem results_plc {P : Program} {fn : Func} {p q : Tmp} {ty : TypeId} (h : fn.results = #[.cell p ty, .tmp q]) (tmps : Array Value) (w : World) (b off : Nat) (part : Array Value) (d : TypeDesc)
    (hp : tmps.getD p undef = .pointer (some ⟨b, off, none⟩)) (hu : P.underlying ty = some d) (hd : (match d with | .struct _ | .array _ _ => true | _ => false) = true) (hi : (P.info? ty).map (·.size) = some part.size)
    (hc : ∀ j v, part[j]? = some v → w.cell? ⟨b, off + j, none⟩ = some v) (v : Value) (hv : tmps.getD q undef = v) :
    (results fn tmps).run P w = .ok (.tuple #[.agg part, v]) w := results_part2 h tmps w b off part d hp hu hd hi hc v hv
theorem zero_i64 (w : World) : (zeroValue 2).run Try.prog w = .ok (.int .i64 0) w := by kernel_rfl

/-- ONE OPERATION FLOATS, and it writes what is known. -/
theorem wp_region_mmg1 {P : Program} {D : Nat → Prop} {w0 w : World} {L : List Ent} {a af : Act} {Q : Exit → Act → World → Prop} {id : Nat} {l : List Oper} (Lg0 : List Ent) (M : Mm D w0 w (Lg0 ++ L)) (I : List Nat) (s1 n : Nat) (o1 : Oper) (St : List Value → List Ent → Prop) (hm : P.follows .mixedOrders = true) (hB : newI l.toArray I [s1] n = true) (h1 : l[s1]? = some o1) (hg1 : o1.guard = none) (h0 : St [] Lg0)
    (ht : wpTextG P (Stg St D w0 L) l.toArray (I.filterMap fun i => l[i]?) a af) (hA : ∀ Lg w, St [] Lg → Mm D w0 w (Lg ++ L) → yield P o1 af w fun u w' => Stg St D w0 L [u] w')
    (hQ : ∀ v Lg w', St [v] Lg → Mm D w0 w' (Lg ++ L) → wpList P l.toArray Q (l.drop n) (af.put o1.dst v) w') : (Code.region id l.toArray true).wp P Q a w :=
  wp_region_float1 I s1 n o1 (Stg St D w0 L) hm hB h1 hg1 (fun w ⟨Lg, h, M⟩ => hA Lg w h M) ⟨Lg0, h0, M.drew⟩ ht fun v w' ⟨Lg, h, M⟩ => hQ v Lg w' h M

/-- Two variables hold the first that has been visited. -/
def OneV (bo bc : Nat) (l : List (List Nat)) (D : Nat → Prop) (w : World) : Prop :=
  blk w bo (bys (isoRes l).1) 70 ∧ blk w bc #[.int .i64 (isoRes l).2] 2 ∧ bo ≠ bc ∧ ∀ k, D k ↔ (bo = k ∨ bc = k)
theorem OneV.mk {bo bc : Nat} {l : List (List Nat)} {w : World} (h1 : blk w bo (bys (isoRes l).1) 70) (h2 : blk w bc #[.int .i64 (isoRes l).2] 2) (h3 : bo ≠ bc) :
    (Ent.res (fun k => bo = k ∨ bc = k) (OneV bo bc l fun k => bo = k ∨ bc = k)).holds w :=
  ⟨fun k hk => by
    rcases hk with rfl | rfl
    · exact h1.lt
    · exact h2.lt,
   fun E w' hk hd => by
    have a1 : (Ent.box bo (bys (isoRes l).1) 70).holds w := h1
    have a2 : (Ent.box bc #[.int .i64 (isoRes l).2] 2).holds w := h2
    exact ⟨Ent.holds_of a1 hk fun b hb => hd b (.inl hb), Ent.holds_of a2 hk fun b hb => hd b (.inr hb), h3, fun _ => Iff.rfl⟩⟩

set_option maxRecDepth 100000 in
set_option maxHeartbeats 200000 in
theorem oneVisit_any (bo bc : Nat) : Visits true 90 #[.pointer (some ⟨bo, 0, none⟩), .pointer (some ⟨bc, 0, none⟩)] (OneV bo bc) 1 := by
  refine ⟨enters_of (P := Try.prog) (f := 90) (by exact Try.func90) (by kernel_rfl) rfl, fun l p D w hV hl => ?_⟩
  obtain rfl : l = [] := by cases l <;> first | rfl | simp at hl
  obtain ⟨h1, h2, h3, h4⟩ := Ent.res_now hV
  have h1' : blk w bo (bys fun _ => 0) 70 := h1
  have h2' : blk w bc #[.int .i64 4] 2 := h2
  have M := ((Mm.start D w).add (x := .box bc #[.int .i64 4] 2) h2' fun _ h => by cases h).add (x := .box bo (bys fun _ => 0) 70) h1' (fun y hy => by
    simp only [List.mem_singleton] at hy; subst hy
    exact fun b hb hb' => h3 (by cases hb; cases hb'; rfl))
  have hDo : D bo := (h4 bo).2 (.inl rfl)
  have hDc : D bc := (h4 bc).2 (.inr rfl)
  have H3 := Hid2.mk h3
  clear h1 h2 h1' h2' h3 h4 hl hV
  have C := M.ruleAll; simp only [Go.Proofs.Ytinjjaoikofkdaa.ruleAll] at C
  show Calls Try.prog 90 #[.agg (bys (wf p)), .pointer (some ⟨bo, 0, none⟩), .pointer (some ⟨bc, 0, none⟩)] w _
  go_enter Try.func90, Try.ntmps90
  go_wp2_with (first | ((with_reducible apply wpM_box' M 70 (bys (wf p))); rfl; exact ⟨rfl, rfl⟩; clear M; (try clear C); intro bp w9 h_bp M; have C := M.ruleAll; simp only [Go.Proofs.Ytinjjaoikofkdaa.ruleAll] at C) | ((with_reducible apply wpM_lda' M 0 70 0 (bys (wf p))); rfl; rfl; rfl; exact ⟨rfl, inf_plc.trans (congrArg some (bys_size ..).symm), _, und_plc, rfl⟩; exact whole_of rfl) | ((with_reducible apply wpM_sta' M 1 70 (bys (wf p))); rfl; rfl; rfl; rfl; (first | exact .inl (by assumption) | exact .inr rfl | exact .inr (by assumption)); exact ⟨rfl, inf_plc.trans (congrArg some (bys_size ..).symm), flat_bys _⟩; (simp only [entCells, List.getElem?_cons_zero, List.getElem?_cons_succ, bys_size, bys_size]); clear M; (try clear C); intro w9 M; simp only [List.set_cons_zero, List.set_cons_succ, entBlk, entT, List.getElem?_cons_zero, List.getElem?_cons_succ] at M; have C := M.ruleAll; simp only [Go.Proofs.Ytinjjaoikofkdaa.ruleAll] at C) | ((with_reducible apply wpM_st' M 2 2 (0) (#[.int .i64 0])); rfl; rfl; rfl; (first | exact .inl (by assumption) | exact .inr rfl | exact .inr (by assumption)); exact ⟨rfl, rfl, by kernel_rfl⟩; exact Nat.zero_lt_one; exact rfl; clear M; (try clear C); intro w9 M; simp only [List.set_cons_zero, List.set_cons_succ, entBlk, entT, List.getElem?_cons_zero, List.getElem?_cons_succ] at M; have C := M.ruleAll; simp only [Go.Proofs.Ytinjjaoikofkdaa.ruleAll] at C))
  go_ret
  refine ⟨rfl, _, OneV.mk (l := [p]) (M.box 1 rfl) (M.box 2 rfl) H3.out, fun k hk => .inl ?_, M.kept⟩
  rcases hk with rfl | rfl
  · exact hDo
  · exact hDc

/-- A variable that is written. -/
def StO (b4 : Nat) (f : Nat → Nat) : List Value → List Ent → Prop
  | [], Lg => Lg = [.box b4 (bys fun _ => 0) 70]
  | u :: _, Lg => Lg = [.box b4 (bys f) 70] ∧ u = undef

set_option maxRecDepth 100000 in
set_option maxHeartbeats 1000000 in
theorem implIso_any (N K : Nat) (t u : Nat → Nat → Nat) (w : World) (ht : Byt2 t) (hu : Byt2 u) (e1 : isSq (N : Int) t = true) (e2 : isSq (K : Int) u = true) :
    Calls Try.prog 74 #[.agg (sqs (N : Int) t), .agg (sqs (K : Int) u)] w (PlcCode (isoRes (isoAll N K t u)) w) := by
  have M := Mm.start no w
  have H1 := fun w1 => isSquare_any (N : Int) t w1 ht
  have H2 := fun w1 => isSquare_any (K : Int) u w1 hu
  simp only [e1] at H1
  simp only [e2] at H2
  have sq1 := isSq_true.1 e1
  have sq2 := isSq_true.1 e2
  have h0 : 1 ≤ N := by have := sq1.lo; omega
  have h1 : N ≤ 10 := by have := sq1.hi; omega
  have hI := fun w1 bo bc D hD => isomorphisms_any N K t u true 90 #[.pointer (some ⟨bo, 0, none⟩), .pointer (some ⟨bc, 0, none⟩)] (OneV bo bc) 1 D w1 (oneVisit_any bo bc) h0 h1 (Lat.of_sq sq1).lt (Lat.of_sq sq2).lt hD (by show (List.take 1 _).length ≤ 1; rw [List.length_take]; omega)
  have HI := Hid2.mk hI
  have hmf : ∀ (fn : Fn) (first cap : Array Value) (w : World), (Instr.makeFunc fn first cap).run Try.prog w = .ok (.func fn first cap) w := fun _ _ _ _ => rfl
  clear hI ht hu e1 e2 sq1 sq2 h0 h1
  have hbd := build_plc
  go_enter Try.func74, Try.ntmps74
  go_wp2_with (first | ((with_reducible apply wpM_box' M 43 (sqs (N : Int) t)); rfl; exact ⟨rfl, rfl⟩; clear M; (try clear C); intro bq w9 h_bq M; have C := M.ruleAll; simp only [Go.Proofs.Ytinjjaoikofkdaa.ruleAll] at C) | ((with_reducible apply wpM_box' M 43 (sqs (K : Int) u)); rfl; exact ⟨rfl, rfl⟩; clear M; (try clear C); intro br w9 h_br M; have C := M.ruleAll; simp only [Go.Proofs.Ytinjjaoikofkdaa.ruleAll] at C) | (have hq := h_b4; clear hq; ((with_reducible apply wpM_alloc' M 70 (bys fun _ => 0)); rfl; exact ⟨rfl, _, zero_plc _, rfl⟩; clear M; (try clear C); intro bo w9 h_bo M; have C := M.ruleAll; simp only [Go.Proofs.Ytinjjaoikofkdaa.ruleAll] at C)) | ((with_reducible apply wpM_alloc' M 70 (bys fun _ => 0)); rfl; exact ⟨rfl, _, zero_plc _, rfl⟩; clear M; (try clear C); intro b4 w9 h_b4 M; have C := M.ruleAll; simp only [Go.Proofs.Ytinjjaoikofkdaa.ruleAll] at C) | ((with_reducible apply wpM_alloc' M 2 (#[.int .i64 0])); rfl; exact ⟨rfl, _, zero_i64 _, rfl⟩; clear M; (try clear C); intro bc w9 h_bc M; have C := M.ruleAll; simp only [Go.Proofs.Ytinjjaoikofkdaa.ruleAll] at C) | ((with_reducible apply wpM_lda' M 2 43 0 (sqs (N : Int) t)); rfl; rfl; rfl; exact ⟨rfl, inf_sqs.trans (congrArg some (sqs_size ..).symm), _, und_sqs, rfl⟩; exact whole_of rfl) | ((with_reducible apply wpM_lda' M 1 43 0 (sqs (K : Int) u)); rfl; rfl; rfl; exact ⟨rfl, inf_sqs.trans (congrArg some (sqs_size ..).symm), _, und_sqs, rfl⟩; exact whole_of rfl) | (go_at_call 71; ((with_reducible refine (H1 _).mono ?_); rintro e w1 ⟨rfl, hb⟩; have hsz := M.size; (try (have G9 := G.later hb; clear G; have G := G9; clear G9)); have M9 := M.later hb; clear M; (try clear C); have M := M9; clear M9; have C := M.ruleAll; simp only [Go.Proofs.Ytinjjaoikofkdaa.ruleAll] at C)) | (go_at_call 71; ((with_reducible refine (H2 _).mono ?_); rintro e w1 ⟨rfl, hb⟩; have hsz := M.size; (try (have G9 := G.later hb; clear G; have G := G9; clear G9)); have M9 := M.later hb; clear M; (try clear C); have M := M9; clear M9; have C := M.ruleAll; simp only [Go.Proofs.Ytinjjaoikofkdaa.ruleAll] at C)) | (refine wpList_build 70 _ rfl rfl [] rfl _ (build_plc _) ?_) | ((with_reducible apply wpM_sta' M 1 70 (bys fun _ => 0)); rfl; rfl; rfl; rfl; (first | exact .inl (by assumption) | exact .inr rfl | exact .inr (by assumption)); exact ⟨rfl, inf_plc.trans (congrArg some (bys_size ..).symm), flat_bys _⟩; (simp only [entCells, List.getElem?_cons_zero, List.getElem?_cons_succ, bys_size, bys_size]); clear M; (try clear C); intro w9 M; simp only [List.set_cons_zero, List.set_cons_succ, entBlk, entT, List.getElem?_cons_zero, List.getElem?_cons_succ] at M; have C := M.ruleAll; simp only [Go.Proofs.Ytinjjaoikofkdaa.ruleAll] at C) | ((with_reducible apply wpM_st' M 0 2 (0) (#[.int .i64 4])); rfl; rfl; rfl; (first | exact .inl (by assumption) | exact .inr rfl | exact .inr (by assumption)); exact ⟨rfl, rfl, by kernel_rfl⟩; exact Nat.zero_lt_one; exact rfl; clear M; (try clear C); intro w9 M; simp only [List.set_cons_zero, List.set_cons_succ, entBlk, entT, List.getElem?_cons_zero, List.getElem?_cons_succ] at M; have C := M.ruleAll; simp only [Go.Proofs.Ytinjjaoikofkdaa.ruleAll] at C) | ((with_reducible apply wpM_lda' M 4 43 0 (sqs (N : Int) t)); rfl; rfl; rfl; exact ⟨rfl, inf_sqs.trans (congrArg some (sqs_size ..).symm), _, und_sqs, rfl⟩; exact whole_of rfl) | ((with_reducible apply wpM_lda' M 3 43 0 (sqs (K : Int) u)); rfl; rfl; rfl; exact ⟨rfl, inf_sqs.trans (congrArg some (sqs_size ..).symm), _, und_sqs, rfl⟩; exact whole_of rfl))
  have hne : bo ≠ bc := fun e => M.dist 0 1 _ _ rfl rfl (by decide) bo (by subst e; rfl) rfl
  have hn4 : b4 ≠ bc := fun e => M.dist 0 2 _ _ rfl rfl (by decide) b4 (by subst e; rfl) rfl
  have hn5 : b4 ≠ bo := fun e => M.dist 1 2 _ _ rfl rfl (by decide) b4 (by subst e; rfl) rfl
  refine (HI.out _ bo bc _ (OneV.mk (l := []) (M.box 1 rfl) (M.box 0 rfl) hne)).mono ?_
  rintro e w1 ⟨rfl, D', hD1, hD2, hK⟩
  obtain ⟨g1, g2, g3, g4⟩ := Ent.res_now hD1
  have hr : isoRes (res true (isoAll N K t u)) = isoRes (isoAll N K t u) := isoRes_take _
  rw [hr] at g1 g2
  have M1 := (((M.sub [2] (by decide)).go hK (fun k hk h => by rcases h with rfl | rfl <;> omega) (fun x hx b hb h => by
    simp only [List.filterMap_cons, List.filterMap_nil, List.getElem?_cons_succ, List.getElem?_cons_zero, List.mem_singleton] at hx
    subst hx
    cases hb
    rcases h with h | h
    · exact hn5 h.symm
    · exact hn4 h.symm)).add (x := .box bc #[.int .i64 (isoRes (isoAll N K t u)).2] 2) g2 (fun y hy => by
      simp only [List.filterMap_cons, List.filterMap_nil, List.getElem?_cons_succ, List.getElem?_cons_zero, List.mem_singleton] at hy; subst hy
      exact fun b hb hb' => hn4 (by cases hb; cases hb'; rfl))).add (x := .box bo (bys (isoRes (isoAll N K t u)).1) 70) g1 (fun y hy => by
      simp only [List.filterMap_cons, List.filterMap_nil, List.getElem?_cons_succ, List.getElem?_cons_zero, List.mem_cons, List.not_mem_nil, or_false] at hy
      rcases hy with rfl | rfl
      · exact fun b hb hb' => hne (by cases hb; cases hb'; rfl)
      · exact fun b hb hb' => hn5 (by cases hb; cases hb'; rfl))
  have M2 := M1.sub [2, 0, 1] (by decide)
  simp only [List.filterMap_cons, List.filterMap_nil, List.getElem?_cons_succ, List.getElem?_cons_zero] at M2
  clear M; (try clear C)
  have M := M2
  clear M2 M1 hD1 hD2 hK g1 g2 g3 g4 hr HI H1 H2
  obtain ⟨⟨f, d⟩, hc⟩ : ∃ c, c = isoRes (isoAll N K t u) := ⟨_, rfl⟩
  rw [← hc] at M
  have HC := Hid2.mk hc
  clear hc
  have C := M.ruleAll; simp only [Go.Proofs.Ytinjjaoikofkdaa.ruleAll] at C
  go_wp2
  apply wp_region_mmg1 [.box b4 (bys fun _ => 0) 70] (L := [.box bo (bys f) 70, .box bc #[.int .i64 d] 2]) M [0, 1] 2 3 _ (StO b4 f) (by kernel_rfl) (by kernel_rfl) rfl rfl rfl
  case ht => (repeat (first | exact wpTextG_nil | (apply wpTextG_cons; (intro g9 w2 hG; obtain ⟨Lg9, hSt9, G⟩ := hG; have M := G.suffix; have C := M.ruleAll; simp only [Go.Proofs.Ytinjjaoikofkdaa.ruleAll] at C; go_wp2_with (first | ((with_reducible apply wpM_lda' M 0 70 0 (bys f)); rfl; rfl; rfl; exact ⟨rfl, inf_plc.trans (congrArg some (bys_size ..).symm), _, und_plc, rfl⟩; exact whole_of rfl)); exact ⟨rfl, rfl, Lg9, hSt9, G⟩); rfl)))
  case hA =>
    intro Lg w2 h M
    obtain rfl := h
    refine yield_store (ops := #[]) (by exact rfl) (by exact rfl) ?_
    simp only [List.cons_append, List.nil_append] at M
    have C := M.ruleAll; simp only [Go.Proofs.Ytinjjaoikofkdaa.ruleAll] at C
    go_wp2_with (first | ((with_reducible apply wpM_sta' M 0 70 (bys f)); rfl; rfl; rfl; rfl; (first | exact .inl (by assumption) | exact .inr rfl | exact .inr (by assumption)); exact ⟨rfl, inf_plc.trans (congrArg some (bys_size ..).symm), flat_bys _⟩; (simp only [entCells, List.getElem?_cons_zero, List.getElem?_cons_succ, bys_size, bys_size]); clear M; (try clear C); intro w9 M; simp only [List.set_cons_zero, List.set_cons_succ, entBlk, entT, List.getElem?_cons_zero, List.getElem?_cons_succ] at M; have C := M.ruleAll; simp only [Go.Proofs.Ytinjjaoikofkdaa.ruleAll] at C))
    exact ⟨_, ⟨rfl, rfl⟩, M⟩
  clear M; (try clear C)
  intro v Lg w2 h M
  obtain ⟨rfl, rfl⟩ := h
  simp only [List.drop_succ_cons, List.drop_zero, List.cons_append, List.nil_append] at M ⊢
  have C := M.ruleAll; simp only [Go.Proofs.Ytinjjaoikofkdaa.ruleAll] at C
  go_wp2
  refine bodyPost_ret (v := .tuple #[.agg (bys f), .int .i64 d]) (by exact results_plc rfl _ _ _ _ (bys f) _ rfl und_plc rfl (inf_plc.trans (congrArg some (bys_size _).symm)) (cells_of_blk0 (M.box 0 rfl)) _ rfl) rfl ?_
  exact ⟨by rw [← HC.out], M.below⟩

set_option maxRecDepth 100000 in
set_option maxHeartbeats 1000000 in
theorem specIso_any (N : Nat) (t u : Nat → Nat → Nat) (w : World) (ht : Byt2 t) (hu : Byt2 u) (e1 : isSq (N : Int) t = true) (e2 : isSq (N : Int) u = true) :
    Calls Try.prog 86 #[.agg (sqs (N : Int) t), .agg (sqs (N : Int) u)] w (PlcCode (isoRes (isoAll N N t u)) w) := by
  have M := Mm.start no w
  have H1 := fun w1 => l02Both_any (N : Int) (N : Int) t u w1 ht hu
  simp only [e1, e2, and_self, if_true] at H1
  have sq1 := isSq_true.1 e1
  have sq2 := isSq_true.1 e2
  have h0 : 1 ≤ N := by have := sq1.lo; omega
  have h1 : N ≤ 10 := by have := sq1.hi; omega
  have H2 : ∀ w1, Calls Try.prog 103 #[.agg (sqs (N : Int) t), .agg (sqs (N : Int) u), .int .i64 1] w1 (AllList ((isos N t u fun _ => none).take 1) w1) := fun w1 => l02All_any N t u 1 w1 h0 h1 (Lat.of_sq sq1).lt (Lat.of_sq sq2).lt (by omega) (by omega)
  have hr : isoRes (isoAll N N t u) = isoRes ((isos N t u fun _ => none).take 1) := by rw [isoRes_take, isoAll, if_pos rfl]
  rw [hr]
  generalize (isos N t u fun _ => none).take 1 = L at H2
  clear hr ht hu e1 e2 sq1 sq2 h0 h1
  have hbd := build_plc
  by_cases hz : L.length = 0
  · rw [isoRes_none hz]
    have e0 : ((L.length : Int) == 0) = true := by rw [hz]; rfl
    clear hz
    go_enter Try.func86, Try.ntmps86
    go_wp2_with (first | ((with_reducible apply wpM_box' M 43 (sqs (N : Int) t)); rfl; exact ⟨rfl, rfl⟩; clear M; (try clear C); intro bq w9 h_bq M; have C := M.ruleAll; simp only [Go.Proofs.Ytinjjaoikofkdaa.ruleAll] at C) | ((with_reducible apply wpM_box' M 43 (sqs (N : Int) u)); rfl; exact ⟨rfl, rfl⟩; clear M; (try clear C); intro br w9 h_br M; have C := M.ruleAll; simp only [Go.Proofs.Ytinjjaoikofkdaa.ruleAll] at C) | ((with_reducible apply wpM_alloc' M 70 (bys fun _ => 0)); rfl; exact ⟨rfl, _, zero_plc _, rfl⟩; clear M; (try clear C); intro b4 w9 h_b4 M; have C := M.ruleAll; simp only [Go.Proofs.Ytinjjaoikofkdaa.ruleAll] at C) | ((with_reducible apply wpM_lda' M 2 43 0 (sqs (N : Int) t)); rfl; rfl; rfl; exact ⟨rfl, inf_sqs.trans (congrArg some (sqs_size ..).symm), _, und_sqs, rfl⟩; exact whole_of rfl) | ((with_reducible apply wpM_lda' M 1 43 0 (sqs (N : Int) u)); rfl; rfl; rfl; exact ⟨rfl, inf_sqs.trans (congrArg some (sqs_size ..).symm), _, und_sqs, rfl⟩; exact whole_of rfl) | (go_at_call 102; ((with_reducible refine (H1 _).mono ?_); rintro e w1 ⟨rfl, hb⟩; have hsz := M.size; (try (have G9 := G.later hb; clear G; have G := G9; clear G9)); have M9 := M.later hb; clear M; (try clear C); have M := M9; clear M9; have C := M.ruleAll; simp only [Go.Proofs.Ytinjjaoikofkdaa.ruleAll] at C)) | (go_at_call 103; ((with_reducible refine (H2 _).mono ?_); rintro e w1 ⟨v, rfl, hO, hb⟩; have hsz := M.size; have M9 := M.later hb; clear M; (try clear C); have M := M9; clear M9; (try simp only [List.set_cons_zero, List.set_cons_succ] at M); have C := M.ruleAll; simp only [Go.Proofs.Ytinjjaoikofkdaa.ruleAll] at C; clear hb; obtain ⟨pp, cap, rfl⟩ := own_form hO)) | (refine wpList_build 70 _ rfl rfl [] rfl _ (build_plc _) ?_) | ((with_reducible apply wpM_sta' M 0 70 (bys fun _ => 0)); rfl; rfl; rfl; rfl; (first | exact .inl (by assumption) | exact .inr rfl | exact .inr (by assumption)); exact ⟨rfl, inf_plc.trans (congrArg some (bys_size ..).symm), flat_bys _⟩; (simp only [entCells, List.getElem?_cons_zero, List.getElem?_cons_succ, bys_size, bys_size]); clear M; (try clear C); intro w9 M; simp only [List.set_cons_zero, List.set_cons_succ, entBlk, entT, List.getElem?_cons_zero, List.getElem?_cons_succ] at M; have C := M.ruleAll; simp only [Go.Proofs.Ytinjjaoikofkdaa.ruleAll] at C))
    refine bodyPost_ret (v := .tuple #[.agg (bys fun _ => 0), .int .i64 4]) (by exact results_plc rfl _ _ _ _ (bys fun _ => 0) _ rfl und_plc rfl (inf_plc.trans (congrArg some (bys_size _).symm)) (cells_of_blk0 (M.box 0 rfl)) _ rfl) rfl ?_
    exact ⟨rfl, M.below⟩
  · have hp : 0 < L.length := by omega
    rw [isoRes_some hp]
    have e0 : ((L.length : Int) == 0) = false := beq_eq_false_iff_ne.2 (by omega)
    have hp' : (0 : Int) < (L.length : Int) := by omega
    have HZ := Hid2.mk (show 0 < L.length * 10 by omega)
    obtain ⟨p, hpp⟩ : ∃ p, p = L[0] := ⟨_, rfl⟩
    have hc0 : ∀ {w3 g}, rds w3 g (L.length * 10) (fun j => (plCells L).getD j undef) → ∀ j v, (bys (wf p))[j]? = some v → w3.cell? ⟨g, 0 + j, none⟩ = some v := fun h j v hv => by
      have := plc_cells h hp j v (by rw [← hpp]; exact hv)
      rwa [Nat.zero_mul] at this
    rw [← hpp]
    have HC0 := Hid2.mk @hc0
    clear hz hp hc0 hpp
    go_enter Try.func86, Try.ntmps86
    go_wp2_with (first | ((with_reducible apply wpM_box' M 43 (sqs (N : Int) t)); rfl; exact ⟨rfl, rfl⟩; clear M; (try clear C); intro bq w9 h_bq M; have C := M.ruleAll; simp only [Go.Proofs.Ytinjjaoikofkdaa.ruleAll] at C) | ((with_reducible apply wpM_box' M 43 (sqs (N : Int) u)); rfl; exact ⟨rfl, rfl⟩; clear M; (try clear C); intro br w9 h_br M; have C := M.ruleAll; simp only [Go.Proofs.Ytinjjaoikofkdaa.ruleAll] at C) | ((with_reducible apply wpM_alloc' M 70 (bys fun _ => 0)); rfl; exact ⟨rfl, _, zero_plc _, rfl⟩; clear M; (try clear C); intro b4 w9 h_b4 M; have C := M.ruleAll; simp only [Go.Proofs.Ytinjjaoikofkdaa.ruleAll] at C) | ((with_reducible apply wpM_lda' M 2 43 0 (sqs (N : Int) t)); rfl; rfl; rfl; exact ⟨rfl, inf_sqs.trans (congrArg some (sqs_size ..).symm), _, und_sqs, rfl⟩; exact whole_of rfl) | ((with_reducible apply wpM_lda' M 1 43 0 (sqs (N : Int) u)); rfl; rfl; rfl; exact ⟨rfl, inf_sqs.trans (congrArg some (sqs_size ..).symm), _, und_sqs, rfl⟩; exact whole_of rfl) | (go_at_call 102; ((with_reducible refine (H1 _).mono ?_); rintro e w1 ⟨rfl, hb⟩; have hsz := M.size; (try (have G9 := G.later hb; clear G; have G := G9; clear G9)); have M9 := M.later hb; clear M; (try clear C); have M := M9; clear M9; have C := M.ruleAll; simp only [Go.Proofs.Ytinjjaoikofkdaa.ruleAll] at C)) | (go_at_call 103; ((with_reducible refine (H2 _).mono ?_); rintro e w1 ⟨v, rfl, hO, hb⟩; have hsz := M.size; have M9 := M.later hb; clear M; (try clear C); have M := M9; clear M9; (try simp only [List.set_cons_zero, List.set_cons_succ] at M); have C := M.ruleAll; simp only [Go.Proofs.Ytinjjaoikofkdaa.ruleAll] at C; clear hb; obtain ⟨g, cap, rfl, _, _, hr⟩ := own_rds hO HZ.out)) | (refine wpList_load_part rfl 70 _ rfl (g) (0) rfl (bys (wf p)) _ und_plc rfl inf_plc (HC0.out hr) ?_) | ((with_reducible apply wpM_sta' M 0 70 (bys (wf p))); rfl; rfl; rfl; rfl; (first | exact .inl (by assumption) | exact .inr rfl | exact .inr (by assumption)); exact ⟨rfl, inf_plc.trans (congrArg some (bys_size ..).symm), flat_bys _⟩; (simp only [entCells, List.getElem?_cons_zero, List.getElem?_cons_succ, bys_size, bys_size]); clear M; (try clear C); intro w9 M; simp only [List.set_cons_zero, List.set_cons_succ, entBlk, entT, List.getElem?_cons_zero, List.getElem?_cons_succ] at M; have C := M.ruleAll; simp only [Go.Proofs.Ytinjjaoikofkdaa.ruleAll] at C))
    refine bodyPost_ret (v := .tuple #[.agg (bys (wf p)), .int .i64 0]) (by exact results_plc rfl _ _ _ _ (bys (wf p)) _ rfl und_plc rfl (inf_plc.trans (congrArg some (bys_size _).symm)) (cells_of_blk0 (M.box 0 rfl)) _ rfl) rfl ?_
    exact ⟨rfl, M.below⟩
end Go.Proofs.Ytinjjaoikofkdaa
