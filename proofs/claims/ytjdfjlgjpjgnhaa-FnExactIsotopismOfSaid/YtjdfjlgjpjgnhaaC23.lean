/- The first isotopism and the number of all, for the reference: a contract. -/
import Derived.Test.YtjdfjlgjpjgnhaaC16
import Derived.Test.YtjdfjlgjpjgnhaaC21
import Derived.Test.YtjdfjlgjpjgnhaaC22
namespace Go.Proofs.Ytjdfjlgjpjgnhaa
open Go Go.RowKit

/-- The first of those that have been met, and how many there were. -/
def bestStep (s : Tri × Nat) (x : Tri) : Tri × Nat := (if s.2 = 0 ∨ beforeT x s.1 = true then x else s.1, s.2 + 1)
def zeroTri : Tri := ⟨fun _ => 0, fun _ => 0, fun _ => 0⟩
def bestOf (l : List Tri) : Tri × Nat := l.foldl bestStep (zeroTri, 0)
theorem bestOf_snoc (l : List Tri) (x : Tri) : bestOf (l ++ [x]) = bestStep (bestOf l) x := by unfold bestOf; rw [List.foldl_append]; rfl
theorem best_len : ∀ (l : List Tri) (s : Tri × Nat), (l.foldl bestStep s).2 = s.2 + l.length
  | [], _ => rfl
  | x :: l, s => by rw [List.foldl_cons, best_len l, List.length_cons]; simp only [bestStep]; omega
theorem bestOf_len (l : List Tri) : (bestOf l).2 = l.length := by unfold bestOf; rw [best_len]; simp
theorem trC_size (x : Tri) : (trC x).size = 30 := tab_size _ _
theorem build_trp0 (w : World) : (Instr.build 35 #[]).run Try.prog w = .ok (.agg (trC zeroTri)) w := by kernel_rfl
theorem zero_trC (w : World) : (zeroValue 35).run Try.prog w = .ok (.agg (trC zeroTri)) w := by kernel_rfl

/-- A new variable with nothing, and a number 0. -/
def StZ (w0 : World) : List Value → List Ent → Prop
  | [], Lg => Lg = []
  | [v], Lg => ∃ b, v = .pointer (some ⟨b, 0, none⟩) ∧ w0.heap.size ≤ b ∧ Lg = [.box b (trC zeroTri) 35]
  | [v, u], Lg => (∃ b, v = .pointer (some ⟨b, 0, none⟩) ∧ w0.heap.size ≤ b ∧ Lg = [.box b (trC zeroTri) 35]) ∧ u = undef
  | v :: u :: x :: _, Lg => (∃ b, v = .pointer (some ⟨b, 0, none⟩) ∧ w0.heap.size ≤ b ∧ Lg = [.box b (trC zeroTri) 35]) ∧ u = undef ∧ x = .int .i64 0

theorem results_tri {P : Program} {fn : Func} {p q : Tmp} {ty : TypeId} (h : fn.results = #[.cell p ty, .tmp q]) (tmps : Array Value) (w : World) (b off : Nat) (part : Array Value) (d : TypeDesc)
    (hp : tmps.getD p undef = .pointer (some ⟨b, off, none⟩)) (hu : P.underlying ty = some d) (hd : (match d with | .struct _ | .array _ _ => true | _ => false) = true) (hi : (P.info? ty).map (·.size) = some part.size)
    (hc : ∀ j v, part[j]? = some v → w.cell? ⟨b, off + j, none⟩ = some v) (v : Value) (hv : tmps.getD q undef = v) :
    (results fn tmps).run P w = .ok (.tuple #[.agg part, v]) w := results_part2 h tmps w b off part d hp hu hd hi hc v hv

/-- What the reference hands back. -/
def BestRes (l : List Tri) (w : World) (e : Ending) (w' : World) : Prop := e = .returned (.tuple #[.agg (trC (bestOf l).1), .int .i64 ((bestOf l).2 : Int)]) ∧ Below w.heap.size w w'

set_option maxRecDepth 100000 in
set_option maxHeartbeats 4000000 in
theorem l02Isotopisms_any (N K : Nat) (t u : Nat → Nat → Nat) (w : World) (ht : IsSq (N : Int) t) (hu : IsSq (K : Int) u) :
    Calls Try.prog 56 #[.agg (sqs (N : Int) t), .agg (sqs (K : Int) u)] w (BestRes (if N = K then ists N t u else []) w) := by
  have M := Mm.start no w
  have so1 := sqs_order (N : Int) t
  have so2 := sqs_order (K : Int) u
  have h0 : 1 ≤ N := by have := ht.lo; omega
  have h1 : N ≤ 10 := by have := ht.hi; omega
  have hbd := build_trp0
  by_cases hNK : N = K
  · subst hNK
    rw [if_pos rfl]
    have hlt := Lat.of_sq ht
    have hlu := Lat.of_sq hu
    have hT0 : ∀ w1, Calls Try.prog 104 #[.agg (sqs (N : Int) t), .int .u8 0, .int .u8 0] w1 fun e w' => e = .returned (.agg (trs (toF N t 0 0) (toG N t 0 0) (toH N t 0 0))) ∧ Below w1.heap.size w1 w' := fun w1 => l02To_any (N : Int) t 0 0 w1 (by omega) (by omega) (by omega) (by omega) (sq_lt10 ht)
    have hTu : ∀ a b w1, a < N → b < N → Calls Try.prog 104 #[.agg (sqs (N : Int) u), .int .u8 (a : Int), .int .u8 (b : Int)] w1 fun e w' => e = .returned (.agg (trs (toF N u a b) (toG N u a b) (toH N u a b))) ∧ Below w1.heap.size w1 w' := fun a b w1 ha hb => l02To_any (N : Int) u a b w1 (by omega) (by omega) (by omega) (by omega) (sq_lt10 hu)
    have hI0 : ∀ w1, Calls Try.prog 105 #[.agg (sqs (N : Int) t), .agg (trs (toF N t 0 0) (toG N t 0 0) (toH N t 0 0))] w1 fun e w' => e = .returned (.agg (sqs (N : Int) (loopAt N t 0 0))) ∧ Below w1.heap.size w1 w' := fun w1 => l02Isotope_any (N : Int) t _ _ _ w1 (by omega) (by omega) (fun i hi => by have := (pm_toF hlt (a := 0) (b := 0) (by omega) (by omega)).lt i (by omega); omega) (fun i hi => by have := (pm_toG hlt (a := 0) (b := 0) (by omega) (by omega)).lt i (by omega); omega) (fun x y hx hy => by have := hlt.lt x y (by omega) (by omega); omega)
    have hIu : ∀ a b w1, a < N → b < N → Calls Try.prog 105 #[.agg (sqs (N : Int) u), .agg (trs (toF N u a b) (toG N u a b) (toH N u a b))] w1 fun e w' => e = .returned (.agg (sqs (N : Int) (loopAt N u a b))) ∧ Below w1.heap.size w1 w' := fun a b w1 ha hb => l02Isotope_any (N : Int) u _ _ _ w1 (by omega) (by omega) (fun i hi => by have := (pm_toF hlu ha hb).lt i (by omega); omega) (fun i hi => by have := (pm_toG hlu ha hb).lt i (by omega); omega) (fun x y hx hy => by have := hlu.lt x y (by omega) (by omega); omega)
    have hAl : ∀ a b w1, a < N → b < N → Calls Try.prog 106 #[.agg (sqs (N : Int) (loopAt N t 0 0)), .agg (sqs (N : Int) (loopAt N u a b)), .int .i64 1000000] w1 (AllList (istP N t u a b) w1) := fun a b w1 ha hb => by
      have h := l02All_any N (loopAt N t 0 0) (loopAt N u a b) 1000000 w1 h0 h1 (lat_loopAt hlt (by omega) (by omega)).lt (lat_loopAt hlu ha hb).lt (by omega) (by omega)
      have e : (isos N (loopAt N t 0 0) (loopAt N u a b) fun _ => none).take 1000000 = istP N t u a b := List.take_of_length_le (istP_len h0 h1 hlt hlu ha hb)
      rw [e] at h
      exact h
    have HT0 := Hid2.mk hT0
    have HTU := Hid2.mk hTu
    have HI0 := Hid2.mk hI0
    have HIU := Hid2.mk hIu
    have HAL := Hid2.mk hAl
    have HLT := Hid2.mk hlt
    have HLU := Hid2.mk hlu
    clear hT0 hTu hI0 hIu hAl hlt hlu ht hu
    go_enter Try.func56, Try.ntmps56
    go_wp2_with (first | ((with_reducible apply wpM_box' M 30 (sqs (N : Int) t)); rfl; exact ⟨rfl, rfl⟩; clear M; (try clear C); intro bq w9 h_bq M; have C := M.rules; simp only [List.forall_mem_cons, List.not_mem_nil, false_implies, implies_true, and_true, Ent.rules, true_and] at C) | ((with_reducible apply wpM_box' M 30 (sqs (N : Int) u)); rfl; exact ⟨rfl, rfl⟩; clear M; (try clear C); intro br w9 h_br M; have C := M.rules; simp only [List.forall_mem_cons, List.not_mem_nil, false_implies, implies_true, and_true, Ent.rules, true_and] at C) | ((with_reducible apply wpM_alloc' M 35 (trC zeroTri)); rfl; exact ⟨rfl, _, zero_trC _, rfl⟩; clear M; (try clear C); intro b4 w9 h_b4 M; have C := M.rules; simp only [List.forall_mem_cons, List.not_mem_nil, false_implies, implies_true, and_true, Ent.rules, true_and] at C))
    apply wp_region_mmf3 M [0, 1, 2] 3 4 5 6 _ _ _ (StZ w) (by kernel_rfl) (by kernel_rfl) rfl rfl rfl rfl rfl rfl rfl
    case ht => (repeat (first | exact wpTextG_nil | (apply wpTextG_cons; (intro g9 w2 hG; obtain ⟨Lg9, hSt9, G⟩ := hG; have M := G.suffix; have C := M.rules; simp only [List.forall_mem_cons, List.not_mem_nil, false_implies, implies_true, and_true, Ent.rules, true_and] at C; go_wp2_with (first | (refine wpList_build 35 _ rfl rfl [] rfl _ (build_trp0 _) ?_)); exact ⟨rfl, rfl, Lg9, hSt9, G⟩); rfl)))
    case hA =>
      intro Lg w2 h M
      obtain rfl : Lg = [] := h
      refine yield_walk (ops := #[]) rfl rfl (by simp [Act.put]) ?_
      go_wp2_with (first | ((with_reducible apply wpM_alloc' M 35 (trC zeroTri)); rfl; exact ⟨rfl, _, zero_trC _, rfl⟩; clear M; (try clear C); intro b6 w9 h_b6 M; have C := M.rules; simp only [List.forall_mem_cons, List.not_mem_nil, false_implies, implies_true, and_true, Ent.rules, true_and] at C))
      exact ⟨_, ⟨b6, rfl, by assumption, rfl⟩, M⟩
    case hA2 =>
      intro v Lg w2 h M
      obtain ⟨b6, rfl, hb6, rfl⟩ := h
      refine yield_store (ops := #[]) (by exact rfl) (by exact rfl) ?_
      simp only [List.cons_append, List.nil_append] at M
      have C := M.rules; simp only [List.forall_mem_cons, List.not_mem_nil, false_implies, implies_true, and_true, Ent.rules, true_and] at C
      go_wp2_with (first | ((with_reducible apply wpM_sta' M 0 35 (trC zeroTri)); rfl; rfl; rfl; rfl; (first | exact .inl (by assumption) | exact .inr rfl | exact .inr (by assumption)); exact ⟨rfl, inf_trp.trans (congrArg some (trs_size ..).symm), flat_trs _ _ _⟩; (simp only [entCells, List.getElem?_cons_zero, List.getElem?_cons_succ, trs_size, trC_size]); clear M; (try clear C); intro w9 M; simp only [List.set_cons_zero, List.set_cons_succ, entBlk, entT, List.getElem?_cons_zero, List.getElem?_cons_succ] at M; have C := M.rules; simp only [List.forall_mem_cons, List.not_mem_nil, false_implies, implies_true, and_true, Ent.rules, true_and] at C))
      exact ⟨_, ⟨⟨b6, rfl, hb6, rfl⟩, rfl⟩, M⟩
    case hA3 =>
      intro v u9 Lg w2 h M
      obtain ⟨⟨b6, rfl, hb6, rfl⟩, rfl⟩ := h
      refine yield_walk (ops := #[]) rfl rfl (by simp [Act.put]) ?_
      go_wp2
      exact ⟨_, ⟨⟨b6, rfl, hb6, rfl⟩, rfl, rfl⟩, M⟩
    clear M; (try clear C)
    intro v u9 x9 Lg w2 h M
    obtain ⟨⟨b6, rfl, hb6, rfl⟩, rfl, rfl⟩ := h
    simp only [List.drop_succ_cons, List.drop_zero, List.cons_append, List.nil_append] at M ⊢
    have C := M.rules; simp only [List.forall_mem_cons, List.not_mem_nil, false_implies, implies_true, and_true, Ent.rules, true_and] at C
    go_wp2_with (first | ((with_reducible apply wpM_lda' M 3 30 0 (sqs (N : Int) t)); rfl; rfl; rfl; exact ⟨rfl, inf_sqs.trans (congrArg some (sqs_size ..).symm), _, und_sqs, rfl⟩; exact whole_of rfl) | (go_at_call 104; ((with_reducible refine (HT0.out _).mono ?_); rintro e w1 ⟨rfl, hb⟩; have hsz := M.size; (try (have G9 := G.later hb; clear G; have G := G9; clear G9)); have M9 := M.later hb; clear M; (try clear C); have M := M9; clear M9; have C := M.rules; simp only [List.forall_mem_cons, List.not_mem_nil, false_implies, implies_true, and_true, Ent.rules, true_and] at C)) | ((with_reducible apply wpM_alloc' M 35 (trs (fun _ => 0) (fun _ => 0) (fun _ => 0))); rfl; exact ⟨rfl, _, zero_trp _, rfl⟩; clear M; (try clear C); intro bt w9 h_bt M; have C := M.rules; simp only [List.forall_mem_cons, List.not_mem_nil, false_implies, implies_true, and_true, Ent.rules, true_and] at C) | ((with_reducible apply wpM_sta' M 0 35 (trs (toF N t 0 0) (toG N t 0 0) (toH N t 0 0))); rfl; rfl; rfl; rfl; (first | exact .inl (by assumption) | exact .inr rfl | exact .inr (by assumption)); exact ⟨rfl, inf_trp.trans (congrArg some (trs_size ..).symm), flat_trs _ _ _⟩; (simp only [entCells, List.getElem?_cons_zero, List.getElem?_cons_succ, trs_size, trs_size]); clear M; (try clear C); intro w9 M; simp only [List.set_cons_zero, List.set_cons_succ, entBlk, entT, List.getElem?_cons_zero, List.getElem?_cons_succ] at M; have C := M.rules; simp only [List.forall_mem_cons, List.not_mem_nil, false_implies, implies_true, and_true, Ent.rules, true_and] at C) | ((with_reducible apply wpM_lda' M 4 30 0 (sqs (N : Int) t)); rfl; rfl; rfl; exact ⟨rfl, inf_sqs.trans (congrArg some (sqs_size ..).symm), _, und_sqs, rfl⟩; exact whole_of rfl) | ((with_reducible apply wpM_lda' M 0 35 0 (trs (toF N t 0 0) (toG N t 0 0) (toH N t 0 0))); rfl; rfl; rfl; exact ⟨rfl, inf_trp.trans (congrArg some (trs_size ..).symm), _, und_trp, rfl⟩; exact whole_of rfl) | (go_at_call 105; ((with_reducible refine (HI0.out _).mono ?_); rintro e w1 ⟨rfl, hb⟩; have hsz := M.size; (try (have G9 := G.later hb; clear G; have G := G9; clear G9)); have M9 := M.later hb; clear M; (try clear C); have M := M9; clear M9; have C := M.rules; simp only [List.forall_mem_cons, List.not_mem_nil, false_implies, implies_true, and_true, Ent.rules, true_and] at C)) | ((with_reducible apply wpM_alloc' M 30 (sqs 0 fun _ _ => 0)); rfl; exact ⟨rfl, _, zero_sqs _, rfl⟩; clear M; (try clear C); intro bl w9 h_bl M; have C := M.rules; simp only [List.forall_mem_cons, List.not_mem_nil, false_implies, implies_true, and_true, Ent.rules, true_and] at C) | ((with_reducible apply wpM_sta' M 0 30 (sqs (N : Int) (loopAt N t 0 0))); rfl; rfl; rfl; rfl; (first | exact .inl (by assumption) | exact .inr rfl | exact .inr (by assumption)); exact ⟨rfl, inf_sqs.trans (congrArg some (sqs_size ..).symm), flat_sqs _ _⟩; (simp only [entCells, List.getElem?_cons_zero, List.getElem?_cons_succ, sqs_size, sqs_size]); clear M; (try clear C); intro w9 M; simp only [List.set_cons_zero, List.set_cons_succ, entBlk, entT, List.getElem?_cons_zero, List.getElem?_cons_succ] at M; have C := M.rules; simp only [List.forall_mem_cons, List.not_mem_nil, false_implies, implies_true, and_true, Ent.rules, true_and] at C))
    clear so1 so2 hbd
    go_loopw [7, 11, 12, 13, 14, 15, 16] (fun c a _ _ _ _ _ wr => ∃ (k : Nat) (B : Tri × Nat), k ≤ N ∧ a = .int .i64 (k : Int) ∧ c = .int .i64 (B.2 : Int) ∧ B = bestOf ((List.range k).flatMap (istA N t u)) ∧ Mm no w wr [.box bl (sqs (N : Int) (loopAt N t 0 0)) 30, .box bt (trs (toF N t 0 0) (toG N t 0 0) (toH N t 0 0)) 35, .box b6 (trC B.1) 35, .box b4 (trC zeroTri) 35, .box br (sqs (N : Int) u) 30, .box bq (sqs (N : Int) t) 30]) (fun _ a _ _ _ _ _ _ => N - (intOf a).toNat)
    case atStart => exact ⟨0, (zeroTri, 0), by omega, rfl, rfl, rfl, M⟩
    case round =>
      obtain ⟨a, B, ha, rfl, rfl, hB, M9⟩ := hrel
      clear M; (try clear C)
      have M := M9
      clear M9
      have C := M.rules; simp only [List.forall_mem_cons, List.not_mem_nil, false_implies, implies_true, and_true, Ent.rules, true_and] at C
      have HB := Hid2.mk hB
      clear hB
      by_cases haN : a < N
      · have haN' : (a : Int) < (N : Int) := by omega
        go_wp2
        obtain ⟨wo, rfl⟩ : ∃ wo : World, wo = wr := ⟨_, rfl⟩
        go_loopw [7, 12, 13, 14, 15, 16] (fun c b _ _ _ _ wr => ∃ (k : Nat) (B : Tri × Nat), k ≤ N ∧ b = .int .i64 (k : Int) ∧ c = .int .i64 (B.2 : Int) ∧ B = bestOf ((List.range a).flatMap (istA N t u) ++ (List.range k).flatMap (istB N t u a)) ∧ Mm no w wr [.box bl (sqs (N : Int) (loopAt N t 0 0)) 30, .box bt (trs (toF N t 0 0) (toG N t 0 0) (toH N t 0 0)) 35, .box b6 (trC B.1) 35, .box b4 (trC zeroTri) 35, .box br (sqs (N : Int) u) 30, .box bq (sqs (N : Int) t) 30]) (fun _ b _ _ _ _ _ => N - (intOf b).toNat)
        case atStart => exact ⟨0, B, by omega, rfl, rfl, by rw [HB.out]; simp, M⟩
        case round =>
          clear HB
          obtain ⟨b, B, hb0, rfl, rfl, hB, M9⟩ := hrel
          clear M; (try clear C)
          have M := M9
          clear M9
          have C := M.rules; simp only [List.forall_mem_cons, List.not_mem_nil, false_implies, implies_true, and_true, Ent.rules, true_and] at C
          have HB := Hid2.mk hB
          clear hB
          by_cases hbN : b < N
          · have hbN' : (b : Int) < (N : Int) := by omega
            have hPl := HAL.out a b
            generalize hP : istP N t u a b = P at hPl
            go_wp2_with (first | ((with_reducible apply wpM_lda' M 4 30 0 (sqs (N : Int) u)); rfl; rfl; rfl; exact ⟨rfl, inf_sqs.trans (congrArg some (sqs_size ..).symm), _, und_sqs, rfl⟩; exact whole_of rfl) | (go_at_call 104; ((with_reducible refine (HTU.out a b _ haN hbN).mono ?_); rintro e w1 ⟨rfl, hb⟩; have hsz := M.size; (try (have G9 := G.later hb; clear G; have G := G9; clear G9)); have M9 := M.later hb; clear M; (try clear C); have M := M9; clear M9; have C := M.rules; simp only [List.forall_mem_cons, List.not_mem_nil, false_implies, implies_true, and_true, Ent.rules, true_and] at C)) | ((with_reducible apply wpM_alloc' M 35 (trs (fun _ => 0) (fun _ => 0) (fun _ => 0))); rfl; exact ⟨rfl, _, zero_trp _, rfl⟩; clear M; (try clear C); intro bu w9 h_bu M; have C := M.rules; simp only [List.forall_mem_cons, List.not_mem_nil, false_implies, implies_true, and_true, Ent.rules, true_and] at C) | ((with_reducible apply wpM_sta' M 0 35 (trs (toF N u a b) (toG N u a b) (toH N u a b))); rfl; rfl; rfl; rfl; (first | exact .inl (by assumption) | exact .inr rfl | exact .inr (by assumption)); exact ⟨rfl, inf_trp.trans (congrArg some (trs_size ..).symm), flat_trs _ _ _⟩; (simp only [entCells, List.getElem?_cons_zero, List.getElem?_cons_succ, trs_size, trs_size]); clear M; (try clear C); intro w9 M; simp only [List.set_cons_zero, List.set_cons_succ, entBlk, entT, List.getElem?_cons_zero, List.getElem?_cons_succ] at M; have C := M.rules; simp only [List.forall_mem_cons, List.not_mem_nil, false_implies, implies_true, and_true, Ent.rules, true_and] at C))
            apply wp_region_mm M 4 (by kernel_rfl) (by kernel_rfl); (simp only [List.take_succ_cons, List.take_zero]; repeat (first | exact wpText_nil | (apply wpText_cons; (intro w2 M; have C := M.rules; simp only [List.forall_mem_cons, List.not_mem_nil, false_implies, implies_true, and_true, Ent.rules, true_and] at C; go_wp2_with (first | ((with_reducible apply wpM_lda' M 1 30 0 (sqs (N : Int) (loopAt N t 0 0))); rfl; rfl; rfl; exact ⟨rfl, inf_sqs.trans (congrArg some (sqs_size ..).symm), _, und_sqs, rfl⟩; exact whole_of rfl) | ((with_reducible apply wpM_lda' M 5 30 0 (sqs (N : Int) u)); rfl; rfl; rfl; exact ⟨rfl, inf_sqs.trans (congrArg some (sqs_size ..).symm), _, und_sqs, rfl⟩; exact whole_of rfl) | ((with_reducible apply wpM_lda' M 0 35 0 (trs (toF N u a b) (toG N u a b) (toH N u a b))); rfl; rfl; rfl; exact ⟨rfl, inf_trp.trans (congrArg some (trs_size ..).symm), _, und_trp, rfl⟩; exact whole_of rfl) | (go_at_call 105; ((with_reducible refine (HIU.out a b _ haN hbN).mono ?_); rintro e w1 ⟨rfl, hb⟩; have hsz := M.size; (try (have G9 := G.later hb; clear G; have G := G9; clear G9)); have M9 := M.later hb; clear M; (try clear C); have M := M9; clear M9; have C := M.rules; simp only [List.forall_mem_cons, List.not_mem_nil, false_implies, implies_true, and_true, Ent.rules, true_and] at C))); exact ⟨rfl, rfl, M⟩); rfl))); (clear M; (try clear C); intro w2 M; simp only [List.drop_succ_cons, List.drop_zero]; have C := M.rules; simp only [List.forall_mem_cons, List.not_mem_nil, false_implies, implies_true, and_true, Ent.rules, true_and] at C)
            go_wp2_with (first | (go_at_call 106; ((with_reducible refine (hPl _ haN hbN).mono ?_); rintro e w1 ⟨vP, rfl, hO, hb⟩; have hsz := M.size; have M9 := M.gain hb (x := .row w.heap.size vP P.length (plCells P) 33 10) (own_mono hO M.size) fun k hk => (hO.lt k hk).1; clear M; (try clear C); have M := M9; clear M9; (try simp only [List.set_cons_zero, List.set_cons_succ] at M); have C := M.rules; simp only [List.forall_mem_cons, List.not_mem_nil, false_implies, implies_true, and_true, Ent.rules, true_and] at C; clear hb hO; obtain ⟨pp3, cap3, rfl⟩ := own_form (M.row 0 rfl))))
            have hPlen : P.length ≤ 1000000 := by rw [← hP]; exact istP_len h0 h1 HLT.out HLU.out haN hbN
            have hla := flatMap_len (f := istA N t u) (B := N * 1000000) (N := a) fun y hy => flatMap_len (f := istB N t u y) (B := 1000000) (N := N) fun z hz => by
              unfold istB; rw [List.length_map]; exact istP_len h0 h1 HLT.out HLU.out (by omega) hz
            have hlb := flatMap_len (f := istB N t u a) (B := 1000000) (N := b) fun z hz => by
              unfold istB; rw [List.length_map]; exact istP_len h0 h1 HLT.out HLU.out haN (by omega)
            have hl1 : B.2 ≤ 110000000 := by
              rw [HB.out, bestOf_len, List.length_append]
              have e1 : a * (N * 1000000) ≤ 10 * (10 * 1000000) := Nat.mul_le_mul (by omega) (Nat.mul_le_mul h1 (Nat.le_refl _))
              have e2 : b * 1000000 ≤ 10 * 1000000 := Nat.mul_le_mul (by omega) (Nat.le_refl _)
              omega
            have hl2 : B.2 = ((List.range a).flatMap (istA N t u) ++ (List.range b).flatMap (istB N t u a)).length := by rw [HB.out, bestOf_len]
            have HL2 := Hid2.mk hl2
            clear hla hlb hPl hl2
            have HP := Hid2.mk hP
            clear hP
            go_loopw [7, 15, 16] (fun c i _ wr => ∃ (k : Nat) (B' : Tri × Nat), k ≤ P.length ∧ i = .int .i64 (k : Int) ∧ c = .int .i64 (B'.2 : Int) ∧ B' = bestOf ((List.range a).flatMap (istA N t u) ++ (List.range b).flatMap (istB N t u a) ++ (P.take k).map (ownT N t u a b)) ∧ Mm no w wr [.row w.heap.size (.slice pp3 P.length cap3) P.length (plCells P) 33 10, .box bu (trs (toF N u a b) (toG N u a b) (toH N u a b)) 35, .box bl (sqs (N : Int) (loopAt N t 0 0)) 30, .box bt (trs (toF N t 0 0) (toG N t 0 0) (toH N t 0 0)) 35, .box b6 (trC B'.1) 35, .box b4 (trC zeroTri) 35, .box br (sqs (N : Int) u) 30, .box bq (sqs (N : Int) t) 30]) (fun _ i _ _ => P.length - (intOf i).toNat)
            case atStart => exact ⟨0, B, by omega, rfl, rfl, by rw [HB.out]; simp, M⟩
            case round =>
              obtain ⟨k, B', hk, rfl, rfl, hB', M9⟩ := hrel
              clear M; (try clear C)
              have M := M9
              clear M9
              have C := M.rules; simp only [List.forall_mem_cons, List.not_mem_nil, false_implies, implies_true, and_true, Ent.rules, true_and] at C
              have hl3 : B'.2 = B.2 + k := by rw [hB', bestOf_len, List.length_append, ← HL2.out, List.length_map, List.length_take]; omega
              have hl4 : B'.2 ≤ 120000000 := by omega
              have HB' := Hid2.mk hB'
              clear hB' hl3
              by_cases hkP : k < P.length
              · have hkP' : (k : Int) < (P.length : Int) := by omega
                obtain ⟨g, cap4, hv4, _, _, hr4⟩ := own_rds (M.row 0 rfl) (by omega)
                obtain ⟨rfl, rfl⟩ : pp3 = some ⟨g, 0, none⟩ ∧ cap3 = cap4 := by simpa using hv4
                clear hv4 hr4
                have hp10 : ∀ i, i < N → P[k].getD i 0 < 10 := fun i hi => by
                  have := istP_lt (p := P[k]) (N := N) (t := t) (u := u) (a := a) (b := b) (by rw [HP.out]; exact List.getElem_mem hkP) i
                  omega
                obtain ⟨p, hp⟩ : ∃ p, p = P[k] := ⟨_, rfl⟩
                have hcells : ∀ {w3}, rds w3 g (P.length * 10) (fun j => (plCells P).getD j undef) → ∀ j v, (bys (wf p))[j]? = some v → w3.cell? ⟨g, k * 10 + j, none⟩ = some v := fun h => by rw [hp]; exact plc_cells h hkP
                rw [← hp] at hp10
                have hTk : P.take (k + 1) = P.take k ++ [p] := by rw [hp, List.take_succ_eq_append_getElem hkP]
                have HTK := Hid2.mk hTk
                have HCE := Hid2.mk @hcells
                clear hp hTk hcells
                have hth1 : ∀ w1, Calls Try.prog 107 #[.agg (trs (toF N t 0 0) (toG N t 0 0) (toH N t 0 0)), .agg (trs (wf p) (wf p) (wf p)), .int .i64 (N : Int)] w1 fun e w' => e = .returned (.agg (midT N t p)) ∧ Below w1.heap.size w1 w' := fun w1 => l02Then_any _ _ _ _ _ _ (N : Int) w1 (by omega) (by omega) (fun i hi => by have := (pm_toF HLT.out (a := 0) (b := 0) (by omega) (by omega)).lt i (by omega); omega) (fun i hi => by have := (pm_toG HLT.out (a := 0) (b := 0) (by omega) (by omega)).lt i (by omega); omega) (fun i hi => by have := (pm_toH HLT.out (a := 0) (b := 0) (by omega) (by omega)).lt i (by omega); omega)
                have hbk : ∀ w1, Calls Try.prog 108 #[.agg (trs (toF N u a b) (toG N u a b) (toH N u a b)), .int .i64 (N : Int)] w1 fun e w' => e = .returned (.agg (bakT N u a b)) ∧ Below w1.heap.size w1 w' := fun w1 => l02Back_any _ _ _ (N : Int) w1 (by omega) (by omega) (fun i hi => by have := (pm_toF HLU.out haN hbN).lt i (by omega); omega) (fun i hi => by have := (pm_toG HLU.out haN hbN).lt i (by omega); omega) (fun i hi => by have := (pm_toH HLU.out haN hbN).lt i (by omega); omega)
                have hth2 : ∀ w1, Calls Try.prog 107 #[.agg (midT N t p), .agg (bakT N u a b), .int .i64 (N : Int)] w1 fun e w' => e = .returned (.agg (trC (ownT N t u a b p))) ∧ Below w1.heap.size w1 w' := fun w1 => l02Then_any _ _ _ _ _ _ (N : Int) w1 (by omega) (by omega) (fun i hi => mid_lt (pm_toF HLT.out (a := 0) (b := 0) (by omega) (by omega)) hp10 (by omega)) (fun i hi => mid_lt (pm_toG HLT.out (a := 0) (b := 0) (by omega) (by omega)) hp10 (by omega)) (fun i hi => mid_lt (pm_toH HLT.out (a := 0) (b := 0) (by omega) (by omega)) hp10 (by omega))
                have HTH1 := Hid2.mk hth1
                have HBK := Hid2.mk hbk
                have HTH2 := Hid2.mk hth2
                clear hth1 hbk hth2 hp10
                generalize hown : ownT N t u a b p = own at HTH2
                have HOWN := Hid2.mk hown
                clear hown
                have hbf : ∀ w1, Calls Try.prog 109 #[.agg (trC own), .agg (trC B'.1)] w1 fun e w' => e = .returned (.bool (beforeT own B'.1)) ∧ Below w1.heap.size w1 w' := fun w1 => l02Before_any _ _ _ _ _ _ w1
                go_wp2
                apply wp_region_mma M [0, 1, 2, 3, 4, 5, 6, 7, 8, 9, 10, 11, 12, 13, 14, 15, 16, 17, 18, 19, 20] 21 22 _ 35 (trC zeroTri) (by kernel_rfl) (by kernel_rfl) rfl rfl rfl zero_trC rfl; (case ht => repeat (first | exact wpTextG_nil | (apply wpTextG_cons; (intro g9 w2 hG; obtain ⟨Lg9, hSt9, G⟩ := hG; have M := G.suffix; have C := M.rules; simp only [List.forall_mem_cons, List.not_mem_nil, false_implies, implies_true, and_true, Ent.rules, true_and] at C; go_wp2_with (first | ((with_reducible apply wpM_lda' M 3 35 0 (trs (toF N t 0 0) (toG N t 0 0) (toH N t 0 0))); rfl; rfl; rfl; exact ⟨rfl, inf_trp.trans (congrArg some (trs_size ..).symm), _, und_trp, rfl⟩; exact whole_of rfl) | (refine wpList_load_part rfl 33 _ rfl (g) (k * 10) rfl (bys (wf p)) _ und_plc rfl inf_plc (HCE.out (by obtain ⟨_, _, hv4, _, _, hr4⟩ := own_rds (M.row 0 rfl) (by omega); cases hv4; exact hr4)) ?_) | (refine wpList_build 35 _ rfl rfl [(0, .agg (bys (wf p))), (1, .agg (bys (wf p))), (2, .agg (bys (wf p)))] rfl _ (build_trp _ _ _ _) ?_) | (go_at_call 107; ((with_reducible refine (HTH1.out _).mono ?_); rintro e w1 ⟨rfl, hb⟩; have hsz := M.size; (try (have G9 := G.later hb; clear G; have G := G9; clear G9)); have M9 := M.later hb; clear M; (try clear C); have M := M9; clear M9; have C := M.rules; simp only [List.forall_mem_cons, List.not_mem_nil, false_implies, implies_true, and_true, Ent.rules, true_and] at C)) | ((with_reducible apply wpM_lda' M 1 35 0 (trs (toF N u a b) (toG N u a b) (toH N u a b))); rfl; rfl; rfl; exact ⟨rfl, inf_trp.trans (congrArg some (trs_size ..).symm), _, und_trp, rfl⟩; exact whole_of rfl) | (go_at_call 108; ((with_reducible refine (HBK.out _).mono ?_); rintro e w1 ⟨rfl, hb⟩; have hsz := M.size; (try (have G9 := G.later hb; clear G; have G := G9; clear G9)); have M9 := M.later hb; clear M; (try clear C); have M := M9; clear M9; have C := M.rules; simp only [List.forall_mem_cons, List.not_mem_nil, false_implies, implies_true, and_true, Ent.rules, true_and] at C)) | (go_at_call 107; ((with_reducible refine (HTH2.out _).mono ?_); rintro e w1 ⟨rfl, hb⟩; have hsz := M.size; (try (have G9 := G.later hb; clear G; have G := G9; clear G9)); have M9 := M.later hb; clear M; (try clear C); have M := M9; clear M9; have C := M.rules; simp only [List.forall_mem_cons, List.not_mem_nil, false_implies, implies_true, and_true, Ent.rules, true_and] at C))); exact ⟨rfl, rfl, Lg9, hSt9, G⟩); rfl))); (clear M; (try clear C); intro bo w2 h_bo M; simp only [List.drop_succ_cons, List.drop_zero]; have C := M.rules; simp only [List.forall_mem_cons, List.not_mem_nil, false_implies, implies_true, and_true, Ent.rules, true_and] at C)
                have hnext : ∀ r, bestStep B' own = r → r = bestOf ((List.range a).flatMap (istA N t u) ++ (List.range b).flatMap (istB N t u a) ++ (P.take (k + 1)).map (ownT N t u a b)) := fun r hr => by
                  rw [HTK.out, List.map_append, ← List.append_assoc]
                  show r = bestOf (_ ++ [ownT N t u a b p])
                  rw [bestOf_snoc, ← HB'.out, HOWN.out, hr]
                have HNX := Hid2.mk hnext
                clear hnext
                by_cases hz0 : B'.2 = 0
                · have hst : bestStep B' own = (own, B'.2 + 1) := by unfold bestStep; rw [if_pos (.inl hz0)]
                  have e0 : ((B'.2 : Int) == 0) = true := by simp [hz0]
                  have HST := Hid2.mk hst
                  have HZ0 := Hid2.mk hz0
                  clear hst hz0
                  go_wp2_with (first | ((with_reducible apply wpM_sta' M 0 35 (trC own)); rfl; rfl; rfl; rfl; (first | exact .inl (by assumption) | exact .inr rfl | exact .inr (by assumption)); exact ⟨rfl, inf_trp.trans (congrArg some (trs_size ..).symm), flat_trs _ _ _⟩; (simp only [entCells, List.getElem?_cons_zero, List.getElem?_cons_succ, trs_size, trC_size]); clear M; (try clear C); intro w9 M; simp only [List.set_cons_zero, List.set_cons_succ, entBlk, entT, List.getElem?_cons_zero, List.getElem?_cons_succ] at M; have C := M.rules; simp only [List.forall_mem_cons, List.not_mem_nil, false_implies, implies_true, and_true, Ent.rules, true_and] at C) | ((with_reducible apply wpM_lda' M 0 35 0 (trC own)); rfl; rfl; rfl; exact ⟨rfl, inf_trp.trans (congrArg some (trs_size ..).symm), _, und_trp, rfl⟩; exact whole_of rfl) | ((with_reducible apply wpM_sta' M 5 35 (trC own)); rfl; rfl; rfl; rfl; (first | exact .inl (by assumption) | exact .inr rfl | exact .inr (by assumption)); exact ⟨rfl, inf_trp.trans (congrArg some (trs_size ..).symm), flat_trs _ _ _⟩; (simp only [entCells, List.getElem?_cons_zero, List.getElem?_cons_succ, trs_size, trC_size]); clear M; (try clear C); intro w9 M; simp only [List.set_cons_zero, List.set_cons_succ, entBlk, entT, List.getElem?_cons_zero, List.getElem?_cons_succ] at M; have C := M.rules; simp only [List.forall_mem_cons, List.not_mem_nil, false_implies, implies_true, and_true, Ent.rules, true_and] at C))
                  go_roundw
                  case rel => exact ⟨k + 1, (own, B'.2 + 1), by omega, by go_num, by show Value.int .i64 _ = Value.int .i64 ((B'.2 + 1 : Nat) : Int); go_num, HNX.out _ HST.out, M.drop 0⟩
                  case measure => simp [intOf]; omega
                · have e0 : ((B'.2 : Int) == 0) = false := by simp; omega
                  cases hbv : beforeT own B'.1 with
                  | true =>
                    have hst : bestStep B' own = (own, B'.2 + 1) := by unfold bestStep; rw [if_pos (.inr hbv)]
                    simp only [hbv] at hbf
                    have HST := Hid2.mk hst
                    clear hst hbv hz0
                    go_wp2_with (first | ((with_reducible apply wpM_sta' M 0 35 (trC own)); rfl; rfl; rfl; rfl; (first | exact .inl (by assumption) | exact .inr rfl | exact .inr (by assumption)); exact ⟨rfl, inf_trp.trans (congrArg some (trs_size ..).symm), flat_trs _ _ _⟩; (simp only [entCells, List.getElem?_cons_zero, List.getElem?_cons_succ, trs_size, trC_size]); clear M; (try clear C); intro w9 M; simp only [List.set_cons_zero, List.set_cons_succ, entBlk, entT, List.getElem?_cons_zero, List.getElem?_cons_succ] at M; have C := M.rules; simp only [List.forall_mem_cons, List.not_mem_nil, false_implies, implies_true, and_true, Ent.rules, true_and] at C) | ((with_reducible apply wpM_lda' M 0 35 0 (trC own)); rfl; rfl; rfl; exact ⟨rfl, inf_trp.trans (congrArg some (trs_size ..).symm), _, und_trp, rfl⟩; exact whole_of rfl) | ((with_reducible apply wpM_lda' M 5 35 0 (trC B'.1)); rfl; rfl; rfl; exact ⟨rfl, inf_trp.trans (congrArg some (trs_size ..).symm), _, und_trp, rfl⟩; exact whole_of rfl) | (go_at_call 109; ((with_reducible refine (hbf _).mono ?_); rintro e w1 ⟨rfl, hb⟩; have hsz := M.size; (try (have G9 := G.later hb; clear G; have G := G9; clear G9)); have M9 := M.later hb; clear M; (try clear C); have M := M9; clear M9; have C := M.rules; simp only [List.forall_mem_cons, List.not_mem_nil, false_implies, implies_true, and_true, Ent.rules, true_and] at C)) | ((with_reducible apply wpM_sta' M 5 35 (trC own)); rfl; rfl; rfl; rfl; (first | exact .inl (by assumption) | exact .inr rfl | exact .inr (by assumption)); exact ⟨rfl, inf_trp.trans (congrArg some (trs_size ..).symm), flat_trs _ _ _⟩; (simp only [entCells, List.getElem?_cons_zero, List.getElem?_cons_succ, trs_size, trC_size]); clear M; (try clear C); intro w9 M; simp only [List.set_cons_zero, List.set_cons_succ, entBlk, entT, List.getElem?_cons_zero, List.getElem?_cons_succ] at M; have C := M.rules; simp only [List.forall_mem_cons, List.not_mem_nil, false_implies, implies_true, and_true, Ent.rules, true_and] at C))
                    go_roundw
                    case rel => exact ⟨k + 1, (own, B'.2 + 1), by omega, by go_num, by show Value.int .i64 _ = Value.int .i64 ((B'.2 + 1 : Nat) : Int); go_num, HNX.out _ HST.out, M.drop 0⟩
                    case measure => simp [intOf]; omega
                  | false =>
                    have hst : bestStep B' own = (B'.1, B'.2 + 1) := by unfold bestStep; rw [if_neg (by rw [hbv]; simp; omega)]
                    simp only [hbv] at hbf
                    have HST := Hid2.mk hst
                    clear hst hbv hz0
                    go_wp2_with (first | ((with_reducible apply wpM_sta' M 0 35 (trC own)); rfl; rfl; rfl; rfl; (first | exact .inl (by assumption) | exact .inr rfl | exact .inr (by assumption)); exact ⟨rfl, inf_trp.trans (congrArg some (trs_size ..).symm), flat_trs _ _ _⟩; (simp only [entCells, List.getElem?_cons_zero, List.getElem?_cons_succ, trs_size, trC_size]); clear M; (try clear C); intro w9 M; simp only [List.set_cons_zero, List.set_cons_succ, entBlk, entT, List.getElem?_cons_zero, List.getElem?_cons_succ] at M; have C := M.rules; simp only [List.forall_mem_cons, List.not_mem_nil, false_implies, implies_true, and_true, Ent.rules, true_and] at C) | ((with_reducible apply wpM_lda' M 0 35 0 (trC own)); rfl; rfl; rfl; exact ⟨rfl, inf_trp.trans (congrArg some (trs_size ..).symm), _, und_trp, rfl⟩; exact whole_of rfl) | ((with_reducible apply wpM_lda' M 5 35 0 (trC B'.1)); rfl; rfl; rfl; exact ⟨rfl, inf_trp.trans (congrArg some (trs_size ..).symm), _, und_trp, rfl⟩; exact whole_of rfl) | (go_at_call 109; ((with_reducible refine (hbf _).mono ?_); rintro e w1 ⟨rfl, hb⟩; have hsz := M.size; (try (have G9 := G.later hb; clear G; have G := G9; clear G9)); have M9 := M.later hb; clear M; (try clear C); have M := M9; clear M9; have C := M.rules; simp only [List.forall_mem_cons, List.not_mem_nil, false_implies, implies_true, and_true, Ent.rules, true_and] at C)))
                    go_roundw
                    case rel => exact ⟨k + 1, (B'.1, B'.2 + 1), by omega, by go_num, by show Value.int .i64 _ = Value.int .i64 ((B'.2 + 1 : Nat) : Int); go_num, HNX.out _ HST.out, M.drop 0⟩
                    case measure => simp [intOf]; omega
              · obtain rfl : k = P.length := by omega
                have hge : ¬ ((P.length : Int) < (P.length : Int)) := by omega
                go_wp2
                go_roundw
                case rel => exact ⟨b + 1, B', by omega, by go_num, rfl, by rw [HB'.out, List.take_length, List.range_succ, List.flatMap_append, List.flatMap_singleton, List.append_assoc]; unfold istB; rw [HP.out], (M.drop 0).drop 0⟩
                case measure => simp [intOf]; omega
          · obtain rfl : b = N := by omega
            have hge : ¬ ((b : Int) < (b : Int)) := by omega
            go_wp2
            go_roundw
            case rel => exact ⟨a + 1, B, by omega, by go_num, rfl, by rw [HB.out, List.range_succ, List.flatMap_append, List.flatMap_singleton]; rfl, M⟩
            case measure => simp [intOf]; omega
      · obtain rfl : a = N := by omega
        have hge : ¬ ((a : Int) < (a : Int)) := by omega
        have hle : bestOf (ists a t u) = B := HB.out.symm
        have HLE := Hid2.mk hle
        clear hle
        go_wp2_with (first | ((with_reducible apply wpM_lda' M 2 35 0 (trC B.1)); rfl; rfl; rfl; exact ⟨rfl, inf_trp.trans (congrArg some (trs_size ..).symm), _, und_trp, rfl⟩; exact whole_of rfl) | ((with_reducible apply wpM_sta' M 3 35 (trC B.1)); rfl; rfl; rfl; rfl; (first | exact .inl (by assumption) | exact .inr rfl | exact .inr (by assumption)); exact ⟨rfl, inf_trp.trans (congrArg some (trs_size ..).symm), flat_trs _ _ _⟩; (simp only [entCells, List.getElem?_cons_zero, List.getElem?_cons_succ, trs_size, trC_size]); clear M; (try clear C); intro w9 M; simp only [List.set_cons_zero, List.set_cons_succ, entBlk, entT, List.getElem?_cons_zero, List.getElem?_cons_succ] at M; have C := M.rules; simp only [List.forall_mem_cons, List.not_mem_nil, false_implies, implies_true, and_true, Ent.rules, true_and] at C))
        refine bodyPost_ret (v := .tuple #[.agg (trC B.1), .int .i64 (B.2 : Int)]) (by exact results_tri rfl _ _ _ _ (trC B.1) _ rfl und_trp rfl (inf_trp.trans (congrArg some (trC_size _).symm)) (cells_of_blk0 (M.box 3 rfl)) _ rfl) rfl ?_
        exact ⟨by rw [HLE.out], M.below⟩
  · have hNK' : ¬ ((N : Int) = (K : Int)) := by omega
    rw [if_neg hNK]
    go_enter Try.func56, Try.ntmps56
    go_wp2_with (first | ((with_reducible apply wpM_box' M 30 (sqs (N : Int) t)); rfl; exact ⟨rfl, rfl⟩; clear M; (try clear C); intro bq w9 h_bq M; have C := M.rules; simp only [List.forall_mem_cons, List.not_mem_nil, false_implies, implies_true, and_true, Ent.rules, true_and] at C) | ((with_reducible apply wpM_box' M 30 (sqs (K : Int) u)); rfl; exact ⟨rfl, rfl⟩; clear M; (try clear C); intro br w9 h_br M; have C := M.rules; simp only [List.forall_mem_cons, List.not_mem_nil, false_implies, implies_true, and_true, Ent.rules, true_and] at C) | ((with_reducible apply wpM_alloc' M 35 (trC zeroTri)); rfl; exact ⟨rfl, _, zero_trC _, rfl⟩; clear M; (try clear C); intro b4 w9 h_b4 M; have C := M.rules; simp only [List.forall_mem_cons, List.not_mem_nil, false_implies, implies_true, and_true, Ent.rules, true_and] at C))
    apply wp_region_mmf3 M [0, 1, 2] 3 4 5 6 _ _ _ (StZ w) (by kernel_rfl) (by kernel_rfl) rfl rfl rfl rfl rfl rfl rfl
    case ht => (repeat (first | exact wpTextG_nil | (apply wpTextG_cons; (intro g9 w2 hG; obtain ⟨Lg9, hSt9, G⟩ := hG; have M := G.suffix; have C := M.rules; simp only [List.forall_mem_cons, List.not_mem_nil, false_implies, implies_true, and_true, Ent.rules, true_and] at C; go_wp2_with (first | (refine wpList_build 35 _ rfl rfl [] rfl _ (build_trp0 _) ?_)); exact ⟨rfl, rfl, Lg9, hSt9, G⟩); rfl)))
    case hA =>
      intro Lg w2 h M
      obtain rfl : Lg = [] := h
      refine yield_walk (ops := #[]) rfl rfl (by simp [Act.put]) ?_
      go_wp2_with (first | ((with_reducible apply wpM_alloc' M 35 (trC zeroTri)); rfl; exact ⟨rfl, _, zero_trC _, rfl⟩; clear M; (try clear C); intro b6 w9 h_b6 M; have C := M.rules; simp only [List.forall_mem_cons, List.not_mem_nil, false_implies, implies_true, and_true, Ent.rules, true_and] at C))
      exact ⟨_, ⟨b6, rfl, by assumption, rfl⟩, M⟩
    case hA2 =>
      intro v Lg w2 h M
      obtain ⟨b6, rfl, hb6, rfl⟩ := h
      refine yield_store (ops := #[]) (by exact rfl) (by exact rfl) ?_
      simp only [List.cons_append, List.nil_append] at M
      have C := M.rules; simp only [List.forall_mem_cons, List.not_mem_nil, false_implies, implies_true, and_true, Ent.rules, true_and] at C
      go_wp2_with (first | ((with_reducible apply wpM_sta' M 0 35 (trC zeroTri)); rfl; rfl; rfl; rfl; (first | exact .inl (by assumption) | exact .inr rfl | exact .inr (by assumption)); exact ⟨rfl, inf_trp.trans (congrArg some (trs_size ..).symm), flat_trs _ _ _⟩; (simp only [entCells, List.getElem?_cons_zero, List.getElem?_cons_succ, trs_size, trC_size]); clear M; (try clear C); intro w9 M; simp only [List.set_cons_zero, List.set_cons_succ, entBlk, entT, List.getElem?_cons_zero, List.getElem?_cons_succ] at M; have C := M.rules; simp only [List.forall_mem_cons, List.not_mem_nil, false_implies, implies_true, and_true, Ent.rules, true_and] at C))
      exact ⟨_, ⟨⟨b6, rfl, hb6, rfl⟩, rfl⟩, M⟩
    case hA3 =>
      intro v u9 Lg w2 h M
      obtain ⟨⟨b6, rfl, hb6, rfl⟩, rfl⟩ := h
      refine yield_walk (ops := #[]) rfl rfl (by simp [Act.put]) ?_
      go_wp2
      exact ⟨_, ⟨⟨b6, rfl, hb6, rfl⟩, rfl, rfl⟩, M⟩
    clear M; (try clear C)
    intro v u9 x9 Lg w2 h M
    obtain ⟨⟨b6, rfl, hb6, rfl⟩, rfl, rfl⟩ := h
    simp only [List.drop_succ_cons, List.drop_zero, List.cons_append, List.nil_append] at M ⊢
    have C := M.rules; simp only [List.forall_mem_cons, List.not_mem_nil, false_implies, implies_true, and_true, Ent.rules, true_and] at C
    go_wp2_with (first | ((with_reducible apply wpM_lda' M 0 35 0 (trC zeroTri)); rfl; rfl; rfl; exact ⟨rfl, inf_trp.trans (congrArg some (trs_size ..).symm), _, und_trp, rfl⟩; exact whole_of rfl) | ((with_reducible apply wpM_sta' M 1 35 (trC zeroTri)); rfl; rfl; rfl; rfl; (first | exact .inl (by assumption) | exact .inr rfl | exact .inr (by assumption)); exact ⟨rfl, inf_trp.trans (congrArg some (trs_size ..).symm), flat_trs _ _ _⟩; (simp only [entCells, List.getElem?_cons_zero, List.getElem?_cons_succ, trs_size, trC_size]); clear M; (try clear C); intro w9 M; simp only [List.set_cons_zero, List.set_cons_succ, entBlk, entT, List.getElem?_cons_zero, List.getElem?_cons_succ] at M; have C := M.rules; simp only [List.forall_mem_cons, List.not_mem_nil, false_implies, implies_true, and_true, Ent.rules, true_and] at C))
    refine bodyPost_ret (v := .tuple #[.agg (trC zeroTri), .int .i64 0]) (by exact results_tri rfl _ _ _ _ (trC zeroTri) _ rfl und_trp rfl (inf_trp.trans (congrArg some (trC_size _).symm)) (cells_of_blk0 (M.box 1 rfl)) _ rfl) rfl ?_
    exact ⟨rfl, M.below⟩
end Go.Proofs.Ytjdfjlgjpjgnhaa
