/- Canonical isotopes of the reference; whether loops are akin, on both sides: contracts. -/
import Derived.Test.YtinjjaoikofkdaaJ2
import Derived.Test.YtinjjaoikofkdaaC21
import Derived.Test.YtinjjaoikofkdaaC43
namespace Go.Proofs.Ytinjjaoikofkdaa
set_option linter.unusedSimpArgs false
set_option linter.unusedVariables false
open Go Go.RowKit

set_option maxRecDepth 100000 in
set_option maxHeartbeats 1000000 in
theorem l02Canonical_any (N : Nat) (t : Nat → Nat → Nat) (h0 : 1 ≤ N) (h1 : N ≤ 10) (ht : ∀ x y : Nat, x < N → y < N → t x y < 10) (w : World) :
    Calls Try.prog 108 #[.agg (sqs (N : Int) t)] w fun e w' => e = .returned (.agg (sqs (N : Int) (canT N t))) ∧ Below w.heap.size w w' := by
  have M := Mm.start no w
  have so1 := sqs_order (N : Int) t
  have hS : ∀ w1, Calls Try.prog 123 #[.int .i64 (N : Int)] w1 fun e w' => e = .returned (.agg (bys (idTo N))) ∧ Below w1.heap.size w1 w' := fun w1 => by
    have h := l01Same_any (N : Int) w1 (by omega) (by omega)
    rw [Int.toNat_natCast] at h
    exact h
  have hT : ∀ w1, Calls Try.prog 122 #[.agg (sqs (N : Int) t), .agg (sqs (N : Int) t), .agg (bys (idTo N)), .int .i64 1] w1 fun e w' => e = .returned (.agg (sqs (N : Int) (canT N t))) ∧ Below w1.heap.size w1 w' := fun w1 => l02Try_any N t h0 h1 ht (N - 1) 1 (idTo N) t w1 (by omega) (idTo_pm N)
  generalize canT N t = r at hT ⊢
  generalize idTo N = f at hS hT
  clear ht
  go_enter Try.func108, Try.ntmps108
  go_wp2_with (first | ((with_reducible apply wpM_box' M 43 (sqs (N : Int) t)); rfl; exact ⟨rfl, rfl⟩; clear M; (try clear C); intro b1 w9 h_b1 M; have C := M.ruleAll; simp only [Go.Proofs.Ytinjjaoikofkdaa.ruleAll] at C) | ((with_reducible apply wpM_alloc' M 43 (sqs 0 fun _ _ => 0)); rfl; exact ⟨rfl, _, zero_sqs _, rfl⟩; clear M; (try clear C); intro b2 w9 h_b2 M; have C := M.ruleAll; simp only [Go.Proofs.Ytinjjaoikofkdaa.ruleAll] at C))
  apply wp_region_mm M 6 (by kernel_rfl) (by kernel_rfl); (simp only [List.take_succ_cons, List.take_zero]; repeat (first | exact wpText_nil | (apply wpText_cons; (intro w2 M; have C := M.ruleAll; simp only [Go.Proofs.Ytinjjaoikofkdaa.ruleAll] at C; go_wp2_with (first | ((with_reducible apply wpM_lda' M 1 43 0 (sqs (N : Int) t)); rfl; rfl; rfl; exact ⟨rfl, inf_sqs.trans (congrArg some (sqs_size ..).symm), _, und_sqs, rfl⟩; exact whole_of rfl) | (go_at_call 123; ((with_reducible refine (hS _).mono ?_); rintro e w1 ⟨rfl, hb⟩; have hsz := M.size; (try (have G9 := G.later hb; clear G; have G := G9; clear G9)); have M9 := M.later hb; clear M; (try clear C); have M := M9; clear M9; have C := M.ruleAll; simp only [Go.Proofs.Ytinjjaoikofkdaa.ruleAll] at C)) | (go_at_call 122; ((with_reducible refine (hT _).mono ?_); rintro e w1 ⟨rfl, hb⟩; have hsz := M.size; (try (have G9 := G.later hb; clear G; have G := G9; clear G9)); have M9 := M.later hb; clear M; (try clear C); have M := M9; clear M9; have C := M.ruleAll; simp only [Go.Proofs.Ytinjjaoikofkdaa.ruleAll] at C))); exact ⟨rfl, rfl, M⟩); rfl))); (clear M; (try clear C); intro w2 M; simp only [List.drop_succ_cons, List.drop_zero]; have C := M.ruleAll; simp only [Go.Proofs.Ytinjjaoikofkdaa.ruleAll] at C)
  go_wp2_with (first | ((with_reducible apply wpM_sta' M 0 43 (sqs (N : Int) r)); rfl; rfl; rfl; rfl; (first | exact .inl (by assumption) | exact .inr rfl | exact .inr (by assumption)); exact ⟨rfl, inf_sqs.trans (congrArg some (sqs_size ..).symm), flat_sqs _ _⟩; (simp only [entCells, List.getElem?_cons_zero, List.getElem?_cons_succ, sqs_size, sqs_size]); clear M; (try clear C); intro w9 M; simp only [List.set_cons_zero, List.set_cons_succ, entBlk, entT, List.getElem?_cons_zero, List.getElem?_cons_succ] at M; have C := M.ruleAll; simp only [Go.Proofs.Ytinjjaoikofkdaa.ruleAll] at C))
  refine bodyPost_ret (v := .agg (sqs (N : Int) r)) (by exact results_part rfl _ _ _ _ _ _ rfl und_sqs rfl inf_sqs (cells_of_blk0 (M.box 0 rfl))) rfl ?_
  exact ⟨rfl, M.below⟩

theorem canR_take (N : Nat) (t : Nat → Nat → Nat) (a : Nat) : canR N t a = (List.range N).map fun b => canT N (loopAt N t a b) := rfl
/-- The least table behind some rounds. -/
def isoA (N : Nat) (t : Nat → Nat → Nat) (a : Nat) : Nat → Nat → Nat := lowest (canT N (loopAt N t 0 0)) ((List.range a).flatMap fun x => canR N t x)
def isoB2 (N : Nat) (t : Nat → Nat → Nat) (a b : Nat) : Nat → Nat → Nat := lowest (isoA N t a) ((List.range b).map fun y => canT N (loopAt N t a y))
theorem isoA_0 (N : Nat) (t : Nat → Nat → Nat) : isoA N t 0 = canT N (loopAt N t 0 0) := rfl
theorem isoA_N (N : Nat) (t : Nat → Nat → Nat) : isoA N t N = canI N t := rfl
theorem isoB2_0 (N : Nat) (t : Nat → Nat → Nat) (a : Nat) : isoB2 N t a 0 = isoA N t a := rfl
theorem isoB2_N (N : Nat) (t : Nat → Nat → Nat) (a : Nat) : isoB2 N t a N = isoA N t (a + 1) := by
  unfold isoB2 isoA
  rw [← lowest_app, List.range_succ, List.flatMap_append]
  simp [canR]
theorem isoB2_succ (N : Nat) (t : Nat → Nat → Nat) (a b : Nat) : isoB2 N t a (b + 1) = lowStep (isoB2 N t a b) (canT N (loopAt N t a b)) := by
  unfold isoB2
  rw [List.range_succ, List.map_append, lowest_app]
  rfl

set_option maxRecDepth 100000 in
set_option maxHeartbeats 4000000 in
theorem canonicalIsotope_any (N : Nat) (t : Nat → Nat → Nat) (hsq : isSq (N : Int) t = true) (hby : Byt2 t) (h7 : N ≤ 7) (w : World) :
    Calls Try.prog 94 #[.agg (sqs (N : Int) t)] w fun e w' => e = .returned (.tuple #[.agg (sqs (N : Int) (canI N t)), .int .i64 0]) ∧ Below w.heap.size w w' := by
  have M := Mm.start no w
  have so1 := sqs_order (N : Int) t
  have hs := isSq_true.1 hsq
  have h0 : 1 ≤ N := by have := hs.lo; omega
  have hlt := Lat.of_sq hs
  have hIS := fun w1 => l01Is_any (N : Int) t w1 hby
  rw [hsq] at hIS
  have hTu : ∀ a b w1, a < N → b < N → Calls Try.prog 110 #[.agg (sqs (N : Int) t), .int .u8 (a : Int), .int .u8 (b : Int)] w1 fun e w' => e = .returned (.agg (trs (toF N t a b) (toG N t a b) (toH N t a b))) ∧ Below w1.heap.size w1 w' := fun a b w1 ha hb => l02To_any (N : Int) t a b w1 (by omega) (by omega) (by omega) (by omega) (sq_lt10 hs)
  have hIu : ∀ a b w1, a < N → b < N → Calls Try.prog 109 #[.agg (sqs (N : Int) t), .agg (trs (toF N t a b) (toG N t a b) (toH N t a b))] w1 fun e w' => e = .returned (.agg (sqs (N : Int) (loopAt N t a b))) ∧ Below w1.heap.size w1 w' := fun a b w1 ha hb => l02Isotope_any (N : Int) t _ _ _ w1 (by omega) (by omega) (fun i hi => by have := (pm_toF hlt ha hb).lt i (by omega); omega) (fun i hi => by have := (pm_toG hlt ha hb).lt i (by omega); omega) (fun x y hx hy => by have := hlt.lt x y (by omega) (by omega); omega)
  have hCa : ∀ a b w1, a < N → b < N → Calls Try.prog 108 #[.agg (sqs (N : Int) (loopAt N t a b))] w1 fun e w' => e = .returned (.agg (sqs (N : Int) (canT N (loopAt N t a b)))) ∧ Below w1.heap.size w1 w' := fun a b w1 ha hb => l02Canonical_any N (loopAt N t a b) h0 (by omega) (fun x y hx hy => by have := (lat_loopAt hlt ha hb).lt x y hx hy; omega) w1
  have hT0 : ∀ w1, Calls Try.prog 110 #[.agg (sqs (N : Int) t), .int .u8 0, .int .u8 0] w1 fun e w' => e = .returned (.agg (trs (toF N t 0 0) (toG N t 0 0) (toH N t 0 0))) ∧ Below w1.heap.size w1 w' := fun w1 => hTu 0 0 w1 (by omega) (by omega)
  have hI0 := fun w1 => hIu 0 0 w1 (by omega) (by omega)
  have hC0 := fun w1 => hCa 0 0 w1 (by omega) (by omega)
  have HTU := Hid2.mk hTu
  have HIU := Hid2.mk hIu
  have HCA := Hid2.mk hCa
  have HA0 := Hid2.mk (isoA_0 N t)
  clear hTu hIu hCa hsq hby hs hlt
  have h7' : ¬ (7 < (N : Int)) := by omega
  generalize hK : canT N (loopAt N t 0 0) = K0 at HA0 hC0
  clear hK
  go_enter Try.func94, Try.ntmps94
  go_wp2_with (first | ((with_reducible apply wpM_box' M 43 (sqs (N : Int) t)); rfl; exact ⟨rfl, rfl⟩; clear M; (try clear C); intro b1 w9 h_b1 M; have C := M.ruleAll; simp only [Go.Proofs.Ytinjjaoikofkdaa.ruleAll] at C) | ((with_reducible apply wpM_alloc' M 43 (sqs 0 fun _ _ => 0)); rfl; exact ⟨rfl, _, zero_sqs _, rfl⟩; clear M; (try clear C); intro b2 w9 h_b2 M; have C := M.ruleAll; simp only [Go.Proofs.Ytinjjaoikofkdaa.ruleAll] at C) | ((with_reducible apply wpM_lda' M 1 43 0 (sqs (N : Int) t)); rfl; rfl; rfl; exact ⟨rfl, inf_sqs.trans (congrArg some (sqs_size ..).symm), _, und_sqs, rfl⟩; exact whole_of rfl) | (go_at_call 68; ((with_reducible refine (hIS _).mono ?_); rintro e w1 ⟨rfl, hb⟩; have hsz := M.size; (try (have G9 := G.later hb; clear G; have G := G9; clear G9)); have M9 := M.later hb; clear M; (try clear C); have M := M9; clear M9; have C := M.ruleAll; simp only [Go.Proofs.Ytinjjaoikofkdaa.ruleAll] at C)))
  apply wp_region_mma M [0, 1, 2, 3, 4] 5 6 _ 43 (sqs 0 fun _ _ => 0) (by kernel_rfl) (by kernel_rfl) rfl rfl rfl zero_sqs rfl; (case ht => repeat (first | exact wpTextG_nil | (apply wpTextG_cons; (intro g9 w2 hG; obtain ⟨Lg9, hSt9, G⟩ := hG; have M := G.suffix; have C := M.ruleAll; simp only [Go.Proofs.Ytinjjaoikofkdaa.ruleAll] at C; go_wp2_with (first | ((with_reducible apply wpM_lda' M 1 43 0 (sqs (N : Int) t)); rfl; rfl; rfl; exact ⟨rfl, inf_sqs.trans (congrArg some (sqs_size ..).symm), _, und_sqs, rfl⟩; exact whole_of rfl) | (go_at_call 110; ((with_reducible refine (hT0 _).mono ?_); rintro e w1 ⟨rfl, hb⟩; have hsz := M.size; (try (have G9 := G.later hb; clear G; have G := G9; clear G9)); have M9 := M.later hb; clear M; (try clear C); have M := M9; clear M9; have C := M.ruleAll; simp only [Go.Proofs.Ytinjjaoikofkdaa.ruleAll] at C)) | (go_at_call 109; ((with_reducible refine (hI0 _).mono ?_); rintro e w1 ⟨rfl, hb⟩; have hsz := M.size; (try (have G9 := G.later hb; clear G; have G := G9; clear G9)); have M9 := M.later hb; clear M; (try clear C); have M := M9; clear M9; have C := M.ruleAll; simp only [Go.Proofs.Ytinjjaoikofkdaa.ruleAll] at C)) | (go_at_call 108; ((with_reducible refine (hC0 _).mono ?_); rintro e w1 ⟨rfl, hb⟩; have hsz := M.size; (try (have G9 := G.later hb; clear G; have G := G9; clear G9)); have M9 := M.later hb; clear M; (try clear C); have M := M9; clear M9; have C := M.ruleAll; simp only [Go.Proofs.Ytinjjaoikofkdaa.ruleAll] at C))); exact ⟨rfl, rfl, Lg9, hSt9, G⟩); rfl))); (clear M; (try clear C); intro b4 w2 h_b4 M; simp only [List.drop_succ_cons, List.drop_zero]; have C := M.ruleAll; simp only [Go.Proofs.Ytinjjaoikofkdaa.ruleAll] at C)
  go_wp2_with (first | ((with_reducible apply wpM_sta' M 0 43 (sqs (N : Int) K0)); rfl; rfl; rfl; rfl; (first | exact .inl (by assumption) | exact .inr rfl | exact .inr (by assumption)); exact ⟨rfl, inf_sqs.trans (congrArg some (sqs_size ..).symm), flat_sqs _ _⟩; (simp only [entCells, List.getElem?_cons_zero, List.getElem?_cons_succ, sqs_size, sqs_size]); clear M; (try clear C); intro w9 M; simp only [List.set_cons_zero, List.set_cons_succ, entBlk, entT, List.getElem?_cons_zero, List.getElem?_cons_succ] at M; have C := M.ruleAll; simp only [Go.Proofs.Ytinjjaoikofkdaa.ruleAll] at C))
  clear hIS hT0 hI0 hC0
  go_loopw [5, 6, 7] (fun i _ _ wr => ∃ a : Nat, a ≤ N ∧ i = .int .i64 (a : Int) ∧ Mm no w wr [.box b4 (sqs (N : Int) (isoA N t a)) 43, .box b2 (sqs 0 fun _ _ => 0) 43, .box b1 (sqs (N : Int) t) 43]) (fun i _ _ _ => N - (intOf i).toNat)
  case atStart => exact ⟨0, by omega, rfl, by rw [HA0.out]; exact M⟩
  case round =>
    obtain ⟨a, ha, rfl, M9⟩ := hrel
    clear M; (try clear C)
    have M := M9
    clear M9
    have C := M.ruleAll; simp only [Go.Proofs.Ytinjjaoikofkdaa.ruleAll] at C
    by_cases haN : a < N
    · have haN' : (a : Int) < (N : Int) := by omega
      have dlt : decide ((a : Int) < (N : Int)) = true := decide_eq_true haN'
      have HB0 := Hid2.mk (isoB2_0 N t a)
      have HBN := Hid2.mk (isoB2_N N t a)
      generalize isoA N t a = A0 at HB0 M C ⊢
      go_wp2
      obtain ⟨wo, rfl⟩ : ∃ wo : World, wo = wr := ⟨_, rfl⟩
      go_loopw [6, 7] (fun i _ wr => ∃ b : Nat, b ≤ N ∧ i = .int .i64 (b : Int) ∧ Mm no w wr [.box b4 (sqs (N : Int) (isoB2 N t a b)) 43, .box b2 (sqs 0 fun _ _ => 0) 43, .box b1 (sqs (N : Int) t) 43]) (fun i _ _ => N - (intOf i).toNat)
      case atStart => exact ⟨0, by omega, rfl, by rw [HB0.out]; exact M⟩
      case round =>
        obtain ⟨b, hb0, rfl, M9⟩ := hrel
        clear M; (try clear C)
        have M := M9
        clear M9
        have C := M.ruleAll; simp only [Go.Proofs.Ytinjjaoikofkdaa.ruleAll] at C
        by_cases hbN : b < N
        · have hbN' : (b : Int) < (N : Int) := by omega
          have ha8 : (a : Int) < 256 := by omega
          have hb8 : (b : Int) < 256 := by omega
          have HN := Hid2.mk (isoB2_succ N t a b)
          have hC := fun w1 => HCA.out a b w1 haN hbN
          generalize isoB2 N t a b = B at HN M C ⊢
          generalize canT N (loopAt N t a b) = o at HN hC
          have hLo := fun w1 => l02Lower_any o B w1
          go_wp2
          apply wp_region_mma M [0, 1, 2, 3, 4, 5, 6, 7, 8] 9 10 _ 43 (sqs 0 fun _ _ => 0) (by kernel_rfl) (by kernel_rfl) rfl rfl rfl zero_sqs rfl; (case ht => repeat (first | exact wpTextG_nil | (apply wpTextG_cons; (intro g9 w2 hG; obtain ⟨Lg9, hSt9, G⟩ := hG; have M := G.suffix; have C := M.ruleAll; simp only [Go.Proofs.Ytinjjaoikofkdaa.ruleAll] at C; go_wp2_with (first | ((with_reducible apply wpM_lda' M 2 43 0 (sqs (N : Int) t)); rfl; rfl; rfl; exact ⟨rfl, inf_sqs.trans (congrArg some (sqs_size ..).symm), _, und_sqs, rfl⟩; exact whole_of rfl) | (go_at_call 110; ((with_reducible refine (HTU.out a b _ haN hbN).mono ?_); rintro e w1 ⟨rfl, hb⟩; have hsz := M.size; (try (have G9 := G.later hb; clear G; have G := G9; clear G9)); have M9 := M.later hb; clear M; (try clear C); have M := M9; clear M9; have C := M.ruleAll; simp only [Go.Proofs.Ytinjjaoikofkdaa.ruleAll] at C)) | (go_at_call 109; ((with_reducible refine (HIU.out a b _ haN hbN).mono ?_); rintro e w1 ⟨rfl, hb⟩; have hsz := M.size; (try (have G9 := G.later hb; clear G; have G := G9; clear G9)); have M9 := M.later hb; clear M; (try clear C); have M := M9; clear M9; have C := M.ruleAll; simp only [Go.Proofs.Ytinjjaoikofkdaa.ruleAll] at C)) | (go_at_call 108; ((with_reducible refine (hC _).mono ?_); rintro e w1 ⟨rfl, hb⟩; have hsz := M.size; (try (have G9 := G.later hb; clear G; have G := G9; clear G9)); have M9 := M.later hb; clear M; (try clear C); have M := M9; clear M9; have C := M.ruleAll; simp only [Go.Proofs.Ytinjjaoikofkdaa.ruleAll] at C))); exact ⟨rfl, rfl, Lg9, hSt9, G⟩); rfl))); (clear M; (try clear C); intro b7 w2 h_b7 M; simp only [List.drop_succ_cons, List.drop_zero]; have C := M.ruleAll; simp only [Go.Proofs.Ytinjjaoikofkdaa.ruleAll] at C)
          cases hl : lowB o B 10 0 with
          | true =>
            simp only [hl] at hLo
            have HS := Hid2.mk (show lowStep B o = o by unfold lowStep; rw [if_pos hl])
            clear hl
            go_wp2_with (first | ((with_reducible apply wpM_sta' M 0 43 (sqs (N : Int) o)); rfl; rfl; rfl; rfl; (first | exact .inl (by assumption) | exact .inr rfl | exact .inr (by assumption)); exact ⟨rfl, inf_sqs.trans (congrArg some (sqs_size ..).symm), flat_sqs _ _⟩; (simp only [entCells, List.getElem?_cons_zero, List.getElem?_cons_succ, sqs_size, sqs_size]); clear M; (try clear C); intro w9 M; simp only [List.set_cons_zero, List.set_cons_succ, entBlk, entT, List.getElem?_cons_zero, List.getElem?_cons_succ] at M; have C := M.ruleAll; simp only [Go.Proofs.Ytinjjaoikofkdaa.ruleAll] at C) | ((with_reducible apply wpM_lda' M 0 41 (1) (tbs o)); rfl; rfl; rfl; exact ⟨rfl, inf_tbl.trans (congrArg some (tbs_size ..).symm), _, und_tbl, rfl⟩; exact sqs_tbs) | ((with_reducible apply wpM_lda' M 1 41 (1) (tbs B)); rfl; rfl; rfl; exact ⟨rfl, inf_tbl.trans (congrArg some (tbs_size ..).symm), _, und_tbl, rfl⟩; exact sqs_tbs) | (go_at_call 111; ((with_reducible refine (hLo _).mono ?_); rintro e w1 ⟨rfl, hb⟩; have hsz := M.size; (try (have G9 := G.later hb; clear G; have G := G9; clear G9)); have M9 := M.later hb; clear M; (try clear C); have M := M9; clear M9; have C := M.ruleAll; simp only [Go.Proofs.Ytinjjaoikofkdaa.ruleAll] at C)) | ((with_reducible apply wpM_lda' M 0 43 0 (sqs (N : Int) o)); rfl; rfl; rfl; exact ⟨rfl, inf_sqs.trans (congrArg some (sqs_size ..).symm), _, und_sqs, rfl⟩; exact whole_of rfl) | ((with_reducible apply wpM_sta' M 1 43 (sqs (N : Int) o)); rfl; rfl; rfl; rfl; (first | exact .inl (by assumption) | exact .inr rfl | exact .inr (by assumption)); exact ⟨rfl, inf_sqs.trans (congrArg some (sqs_size ..).symm), flat_sqs _ _⟩; (simp only [entCells, List.getElem?_cons_zero, List.getElem?_cons_succ, sqs_size, sqs_size]); clear M; (try clear C); intro w9 M; simp only [List.set_cons_zero, List.set_cons_succ, entBlk, entT, List.getElem?_cons_zero, List.getElem?_cons_succ] at M; have C := M.ruleAll; simp only [Go.Proofs.Ytinjjaoikofkdaa.ruleAll] at C))
            go_roundw
            case rel => exact ⟨b + 1, by omega, by go_num, by rw [HN.out, HS.out]; exact M.drop 0⟩
            case measure => simp [intOf]; omega
          | false =>
            simp only [hl] at hLo
            have HS := Hid2.mk (show lowStep B o = B by unfold lowStep; rw [if_neg (by rw [hl]; decide)])
            clear hl
            go_wp2_with (first | ((with_reducible apply wpM_sta' M 0 43 (sqs (N : Int) o)); rfl; rfl; rfl; rfl; (first | exact .inl (by assumption) | exact .inr rfl | exact .inr (by assumption)); exact ⟨rfl, inf_sqs.trans (congrArg some (sqs_size ..).symm), flat_sqs _ _⟩; (simp only [entCells, List.getElem?_cons_zero, List.getElem?_cons_succ, sqs_size, sqs_size]); clear M; (try clear C); intro w9 M; simp only [List.set_cons_zero, List.set_cons_succ, entBlk, entT, List.getElem?_cons_zero, List.getElem?_cons_succ] at M; have C := M.ruleAll; simp only [Go.Proofs.Ytinjjaoikofkdaa.ruleAll] at C) | ((with_reducible apply wpM_lda' M 0 41 (1) (tbs o)); rfl; rfl; rfl; exact ⟨rfl, inf_tbl.trans (congrArg some (tbs_size ..).symm), _, und_tbl, rfl⟩; exact sqs_tbs) | ((with_reducible apply wpM_lda' M 1 41 (1) (tbs B)); rfl; rfl; rfl; exact ⟨rfl, inf_tbl.trans (congrArg some (tbs_size ..).symm), _, und_tbl, rfl⟩; exact sqs_tbs) | (go_at_call 111; ((with_reducible refine (hLo _).mono ?_); rintro e w1 ⟨rfl, hb⟩; have hsz := M.size; (try (have G9 := G.later hb; clear G; have G := G9; clear G9)); have M9 := M.later hb; clear M; (try clear C); have M := M9; clear M9; have C := M.ruleAll; simp only [Go.Proofs.Ytinjjaoikofkdaa.ruleAll] at C)))
            go_roundw
            case rel => exact ⟨b + 1, by omega, by go_num, by rw [HN.out, HS.out]; exact M.drop 0⟩
            case measure => simp [intOf]; omega
        · obtain rfl : b = N := by omega
          have hge : ¬ ((b : Int) < (b : Int)) := by omega
          go_wp2
          go_roundw
          case rel => exact ⟨a + 1, by omega, by go_num, by rw [← HBN.out]; exact M⟩
          case measure => simp [intOf]; omega
    · obtain rfl : a = N := by omega
      have hge : ¬ ((a : Int) < (a : Int)) := by omega
      have HE := Hid2.mk (isoA_N a t)
      generalize isoA a t a = B at HE M C ⊢
      go_wp2_with (first | ((with_reducible apply wpM_lda' M 0 43 0 (sqs (a : Int) B)); rfl; rfl; rfl; exact ⟨rfl, inf_sqs.trans (congrArg some (sqs_size ..).symm), _, und_sqs, rfl⟩; exact whole_of rfl) | ((with_reducible apply wpM_sta' M 1 43 (sqs (a : Int) B)); rfl; rfl; rfl; rfl; (first | exact .inl (by assumption) | exact .inr rfl | exact .inr (by assumption)); exact ⟨rfl, inf_sqs.trans (congrArg some (sqs_size ..).symm), flat_sqs _ _⟩; (simp only [entCells, List.getElem?_cons_zero, List.getElem?_cons_succ, sqs_size, sqs_size]); clear M; (try clear C); intro w9 M; simp only [List.set_cons_zero, List.set_cons_succ, entBlk, entT, List.getElem?_cons_zero, List.getElem?_cons_succ] at M; have C := M.ruleAll; simp only [Go.Proofs.Ytinjjaoikofkdaa.ruleAll] at C))
      refine bodyPost_ret (v := .tuple #[.agg (sqs (a : Int) B), .int .i64 0]) (by exact results_part2 rfl _ _ _ _ (sqs (a : Int) B) _ rfl und_sqs rfl inf_sqs (cells_of_blk0 (M.box 1 rfl)) _ rfl) rfl ?_
      exact ⟨by rw [HE.out], M.below⟩

/-! ### Akin loops -/
/-- Whether two loops are akin. -/
noncomputable def aknB (q r : Sqr) : Bool := if q.n.toNat = r.n.toNat then !(ists q.n.toNat q.t r.t).isEmpty else false
theorem aknB_eq {q r : Sqr} (hq : okS q) (hr : okS r) (e : q.n.toNat = r.n.toNat) : aknB q r = eqT (canI q.n.toNat q.t) (canI q.n.toNat r.t) := by
  have L := hq.lat
  have K := hr.lat
  rw [← e] at K
  have s := isSq_true.1 hq.2
  have hlo := s.lo
  have hhi := s.hi
  unfold aknB
  rw [if_pos e, Bool.eq_iff_iff, eqT_iff, ← akin_iff (by omega) (by omega) L K, Bool.not_eq_true', List.isEmpty_eq_false_iff]

set_option maxRecDepth 100000 in
set_option maxHeartbeats 1000000 in
theorem l11Akin_sq (q r : Sqr) (w : World) (hq : okS q) (hr : okS r) (h7 : q.n ≤ 7) (h7' : r.n ≤ 7) :
    Calls Try.prog 78 #[.agg (sqs q.n q.t), .agg (sqs r.n r.t)] w fun e w' => e = .returned (.bool (aknB q r)) ∧ Below w.heap.size w w' := by
  have M := Mm.start no w
  have s1 := isSq_true.1 hq.2
  have s2 := isSq_true.1 hr.2
  obtain ⟨N, hN⟩ : ∃ N : Nat, (N : Int) = q.n := ⟨q.n.toNat, Int.toNat_of_nonneg (by have := s1.lo; omega)⟩
  obtain ⟨K, hK⟩ : ∃ K : Nat, (K : Int) = r.n := ⟨r.n.toNat, Int.toNat_of_nonneg (by have := s2.lo; omega)⟩
  have so1 := sqs_order q.n q.t
  have so2 := sqs_order r.n r.t
  by_cases e : q.n = r.n
  · have HR := Hid2.mk (aknB_eq hq hr (by rw [e]))
    have e3 : q.n.toNat = N := by omega
    rw [e3] at HR
    have h1 := fun w1 => canonicalIsotope_any N q.t (by rw [hN]; exact hq.2) hq.1 (by omega) w1
    have h2 := fun w1 => canonicalIsotope_any N r.t (by rw [hN, e]; exact hr.2) hr.1 (by omega) w1
    obtain ⟨n, t⟩ := q
    obtain ⟨m, u⟩ := r
    simp only at hN hK e so1 so2 HR h1 h2 e3 ⊢
    subst hN
    subst e
    generalize canI N t = A at h1 HR
    generalize canI N u = B at h2 HR
    have hnn : ((N : Int) != (N : Int)) = false := by simp
    have hnn2 : ((N : Int) == (N : Int)) = true := by simp
    clear hq hr s1 s2 e3 hK
    go_enter Try.func78, Try.ntmps78
    go_wp2_with (first | ((with_reducible apply wpM_box' M 43 (sqs (N : Int) t)); rfl; exact ⟨rfl, rfl⟩; clear M; (try clear C); intro bq w9 h_bq M; have C := M.ruleAll; simp only [Go.Proofs.Ytinjjaoikofkdaa.ruleAll] at C) | ((with_reducible apply wpM_box' M 43 (sqs (N : Int) u)); rfl; exact ⟨rfl, rfl⟩; clear M; (try clear C); intro br w9 h_br M; have C := M.ruleAll; simp only [Go.Proofs.Ytinjjaoikofkdaa.ruleAll] at C) | ((with_reducible apply wpM_lda' M 1 43 0 (sqs (N : Int) t)); rfl; rfl; rfl; exact ⟨rfl, inf_sqs.trans (congrArg some (sqs_size ..).symm), _, und_sqs, rfl⟩; exact whole_of rfl) | (go_at_call 94; ((with_reducible refine (h1 _).mono ?_); rintro e w1 ⟨rfl, hb⟩; have hsz := M.size; (try (have G9 := G.later hb; clear G; have G := G9; clear G9)); have M9 := M.later hb; clear M; (try clear C); have M := M9; clear M9; have C := M.ruleAll; simp only [Go.Proofs.Ytinjjaoikofkdaa.ruleAll] at C)) | ((fail_if_success have := h_b5); ((with_reducible apply wpM_alloc' M 43 (sqs 0 fun _ _ => 0)); rfl; exact ⟨rfl, _, zero_sqs _, rfl⟩; clear M; (try clear C); intro b5 w9 h_b5 M; have C := M.ruleAll; simp only [Go.Proofs.Ytinjjaoikofkdaa.ruleAll] at C)) | ((with_reducible apply wpM_sta' M 0 43 (sqs (N : Int) A)); rfl; rfl; rfl; rfl; (first | exact .inl (by assumption) | exact .inr rfl | exact .inr (by assumption)); exact ⟨rfl, inf_sqs.trans (congrArg some (sqs_size ..).symm), flat_sqs _ _⟩; (simp only [entCells, List.getElem?_cons_zero, List.getElem?_cons_succ, sqs_size, sqs_size]); clear M; (try clear C); intro w9 M; simp only [List.set_cons_zero, List.set_cons_succ, entBlk, entT, List.getElem?_cons_zero, List.getElem?_cons_succ] at M; have C := M.ruleAll; simp only [Go.Proofs.Ytinjjaoikofkdaa.ruleAll] at C) | ((with_reducible apply wpM_lda' M 1 43 0 (sqs (N : Int) u)); rfl; rfl; rfl; exact ⟨rfl, inf_sqs.trans (congrArg some (sqs_size ..).symm), _, und_sqs, rfl⟩; exact whole_of rfl) | (go_at_call 94; ((with_reducible refine (h2 _).mono ?_); rintro e w1 ⟨rfl, hb⟩; have hsz := M.size; (try (have G9 := G.later hb; clear G; have G := G9; clear G9)); have M9 := M.later hb; clear M; (try clear C); have M := M9; clear M9; have C := M.ruleAll; simp only [Go.Proofs.Ytinjjaoikofkdaa.ruleAll] at C)) | ((with_reducible apply wpM_alloc' M 43 (sqs 0 fun _ _ => 0)); rfl; exact ⟨rfl, _, zero_sqs _, rfl⟩; clear M; (try clear C); intro b7 w9 h_b7 M; have C := M.ruleAll; simp only [Go.Proofs.Ytinjjaoikofkdaa.ruleAll] at C) | ((with_reducible apply wpM_sta' M 0 43 (sqs (N : Int) B)); rfl; rfl; rfl; rfl; (first | exact .inl (by assumption) | exact .inr rfl | exact .inr (by assumption)); exact ⟨rfl, inf_sqs.trans (congrArg some (sqs_size ..).symm), flat_sqs _ _⟩; (simp only [entCells, List.getElem?_cons_zero, List.getElem?_cons_succ, sqs_size, sqs_size]); clear M; (try clear C); intro w9 M; simp only [List.set_cons_zero, List.set_cons_succ, entBlk, entT, List.getElem?_cons_zero, List.getElem?_cons_succ] at M; have C := M.ruleAll; simp only [Go.Proofs.Ytinjjaoikofkdaa.ruleAll] at C) | ((with_reducible apply wpM_lda' M 1 43 0 (sqs (N : Int) A)); rfl; rfl; rfl; exact ⟨rfl, inf_sqs.trans (congrArg some (sqs_size ..).symm), _, und_sqs, rfl⟩; exact whole_of rfl) | ((with_reducible apply wpM_lda' M 0 43 0 (sqs (N : Int) B)); rfl; rfl; rfl; exact ⟨rfl, inf_sqs.trans (congrArg some (sqs_size ..).symm), _, und_sqs, rfl⟩; exact whole_of rfl) | (refine wpList_agg_g .eql 43 _ _ _ rfl rfl (sqs (N : Int) A) (sqs (N : Int) B) rfl rfl egt_sqs _ (eql_sq _ _ _ _ _) ?_))
    go_ret
    exact ⟨by rw [HR.out]; simp, M.below⟩
  · have HR := Hid2.mk (show aknB q r = false by unfold aknB; rw [if_neg (by omega)])
    have hne : (q.n == r.n) = false := beq_eq_false_iff_ne.2 e
    have hne2 : ¬ (q.n = r.n) := e
    have hne3 : (q.n != r.n) = true := by rw [bne, hne]; rfl
    clear hq hr s1 s2 hN hK e
    go_enter Try.func78, Try.ntmps78
    go_wp2_with (first | ((with_reducible apply wpM_box' M 43 (sqs q.n q.t)); rfl; exact ⟨rfl, rfl⟩; clear M; (try clear C); intro bq w9 h_bq M; have C := M.ruleAll; simp only [Go.Proofs.Ytinjjaoikofkdaa.ruleAll] at C) | ((with_reducible apply wpM_box' M 43 (sqs r.n r.t)); rfl; exact ⟨rfl, rfl⟩; clear M; (try clear C); intro br w9 h_br M; have C := M.ruleAll; simp only [Go.Proofs.Ytinjjaoikofkdaa.ruleAll] at C))
    go_ret
    exact ⟨by rw [HR.out]; rfl, M.below⟩

set_option maxRecDepth 100000 in
set_option maxHeartbeats 1000000 in
theorem akin_sq (q r : Sqr) (w : World) (hq : okS q) (hr : okS r) :
    Calls Try.prog 61 #[.agg (sqs q.n q.t), .agg (sqs r.n r.t)] w fun e w' => e = .returned (.bool (aknB q r)) ∧ Below w.heap.size w w' := by
  have M := Mm.start no w
  have s1 := isSq_true.1 hq.2
  have s2 := isSq_true.1 hr.2
  obtain ⟨N, hN⟩ : ∃ N : Nat, (N : Int) = q.n := ⟨q.n.toNat, Int.toNat_of_nonneg (by have := s1.lo; omega)⟩
  obtain ⟨K, hK⟩ : ∃ K : Nat, (K : Int) = r.n := ⟨r.n.toNat, Int.toNat_of_nonneg (by have := s2.lo; omega)⟩
  have hI := fun w1 => isotopisms_any N K q.t r.t w1 (by rw [hN]; exact s1) (by rw [hK]; exact s2)
  have e1 : q.n.toNat = N := by omega
  have e2 : r.n.toNat = K := by omega
  have HR := Hid2.mk (show aknB q r = decide (0 < (if N = K then ists N q.t r.t else []).length) by
    unfold aknB
    rw [e1, e2]
    split
    · cases ists N q.t r.t <;> simp
    · simp)
  obtain ⟨n, t⟩ := q
  obtain ⟨m, u⟩ := r
  simp only at hN hK hI HR ⊢
  subst hN
  subst hK
  generalize (if N = K then ists N t u else []) = L at hI HR
  clear hq hr s1 s2 e1 e2
  go_enter Try.func61, Try.ntmps61
  go_wp2_with (first | ((with_reducible apply wpM_box' M 43 (sqs (N : Int) t)); rfl; exact ⟨rfl, rfl⟩; clear M; (try clear C); intro bq w9 h_bq M; have C := M.ruleAll; simp only [Go.Proofs.Ytinjjaoikofkdaa.ruleAll] at C) | ((with_reducible apply wpM_box' M 43 (sqs (K : Int) u)); rfl; exact ⟨rfl, rfl⟩; clear M; (try clear C); intro br w9 h_br M; have C := M.ruleAll; simp only [Go.Proofs.Ytinjjaoikofkdaa.ruleAll] at C) | ((with_reducible apply wpM_lda' M 1 43 0 (sqs (N : Int) t)); rfl; rfl; rfl; exact ⟨rfl, inf_sqs.trans (congrArg some (sqs_size ..).symm), _, und_sqs, rfl⟩; exact whole_of rfl) | ((with_reducible apply wpM_lda' M 0 43 0 (sqs (K : Int) u)); rfl; rfl; rfl; exact ⟨rfl, inf_sqs.trans (congrArg some (sqs_size ..).symm), _, und_sqs, rfl⟩; exact whole_of rfl) | (go_at_call 81; fail))
  refine (hI _).mono ?_
  rintro e w1 ⟨v', rfl, hO, hb⟩
  obtain ⟨pp, cap, rfl⟩ := own_form hO
  have M9 := M.later hb
  clear hI hO
  clear M; (try clear C)
  have M := M9
  go_wp2
  go_ret
  exact ⟨by rw [HR.out]; simp, M.below⟩
end Go.Proofs.Ytinjjaoikofkdaa
