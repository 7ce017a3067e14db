/- The program's list of all isotopisms: a contract. -/
import Derived.Test.YtinjjaoikofkdaaC20
import Derived.Test.YtinjjaoikofkdaaK10
import Derived.Test.YtinjjaoikofkdaaC11
import Derived.Test.YtinjjaoikofkdaaC12
import Derived.Test.YtinjjaoikofkdaaK9
import Derived.Test.YtinjjaoikofkdaaM8
namespace Go.Proofs.Ytinjjaoikofkdaa
set_option linter.unusedSimpArgs false
set_option linter.unusedVariables false
open Go Go.RowKit

theorem bsl_trp0 (w : World) : (Instr.buildSlice 100 0 [].toArray).run Try.prog w = .ok (.slice (some ⟨w.heap.size, 0, none⟩) 0 0) (w.alloc (.cells #[] 122)) := by kernel_rfl
theorem bsl_trp1 (f g h : Nat → Nat) (w : World) : (Instr.buildSlice 100 1 [(0, Value.agg (trs f g h))].toArray).run Try.prog w = .ok (.slice (some ⟨w.heap.size, 0, none⟩) 1 1) (w.alloc (.cells (trs f g h) 122)) := by kernel_rfl
theorem und_slt : Try.prog.underlying 100 = some (.slice 122) := by kernel_rfl
theorem inf_elt : (Try.prog.info? 122).map (fun i => (i.zero, i.size, i.bytes)) = some (some (.agg (trs (fun _ => 0) (fun _ => 0) (fun _ => 0))), 30, 30) := by kernel_rfl

def midT (N : Nat) (t : Nat → Nat → Nat) (p : List Nat) : Array Value := trs (thTo (toF N t 0 0) (fun i => p.getD i 0) N) (thTo (toG N t 0 0) (fun i => p.getD i 0) N) (thTo (toH N t 0 0) (fun i => p.getD i 0) N)
def bakT (N : Nat) (u : Nat → Nat → Nat) (a b : Nat) : Array Value := trs (bkTo (toF N u a b) N) (bkTo (toG N u a b) N) (bkTo (toH N u a b) N)
theorem mid_lt {N : Nat} {f : Nat → Nat} {p : List Nat} (hf : Pm N f) (hp : ∀ i, i < N → p.getD i 0 < 10) {i : Nat} (hi : i < N) : thTo f (fun i => p.getD i 0) N i < 10 := by
  unfold thTo; rw [if_pos hi]; exact hp _ (hf.lt i hi)
/-- The list of isomorphisms behind the region that draws. -/
def StP (B : Nat) (P : List (List Nat)) : List Value → List Ent → Prop
  | [], Lg => Lg = []
  | [v], Lg => (∃ pp cap, v = .slice pp P.length cap) ∧ Lg = [.row B v P.length (plCells P) 70 10]
  | v :: u :: _, Lg => (∃ pp cap, v = .slice pp P.length cap) ∧ Lg = [.row B v P.length (plCells P) 70 10] ∧ u = .int .i64 (P.length : Int)
/-- A list of triples in new memory. -/
def TriList (l : List Tri) (w : World) (e : Ending) (w' : World) : Prop :=
  ∃ v', e = .returned v' ∧ w'.ownsRow w.heap.size 122 30 v' l.length (tlCells l) ∧ Below w.heap.size w w'

set_option maxRecDepth 100000 in
set_option maxHeartbeats 4000000 in
theorem isotopisms_any (N K : Nat) (t u : Nat → Nat → Nat) (w : World) (ht : IsSq (N : Int) t) (hu : IsSq (K : Int) u) :
    Calls Try.prog 81 #[.agg (sqs (N : Int) t), .agg (sqs (K : Int) u)] w (TriList (if N = K then ists N t u else []) w) := by
  have M := Mm.start no w
  have so1 := sqs_order (N : Int) t
  have so2 := sqs_order (K : Int) u
  have h0 : 1 ≤ N := by have := ht.lo; omega
  have h1 : N ≤ 10 := by have := ht.hi; omega
  by_cases hNK : N = K
  · subst hNK
    rw [if_pos rfl]
    have hlt := Lat.of_sq ht
    have hlu := Lat.of_sq hu
    have hT0 : ∀ w1, Calls Try.prog 95 #[.agg (sqs (N : Int) t), .int .u8 0, .int .u8 0] w1 fun e w' => e = .returned (.agg (trs (toF N t 0 0) (toG N t 0 0) (toH N t 0 0))) ∧ Below w1.heap.size w1 w' := fun w1 => toLoop_any (N : Int) t 0 0 w1 (by omega) (by omega) (by omega) (by omega) (sq_lt10 ht)
    have hTu : ∀ a b w1, a < N → b < N → Calls Try.prog 95 #[.agg (sqs (N : Int) u), .int .u8 (a : Int), .int .u8 (b : Int)] w1 fun e w' => e = .returned (.agg (trs (toF N u a b) (toG N u a b) (toH N u a b))) ∧ Below w1.heap.size w1 w' := fun a b w1 ha hb => toLoop_any (N : Int) u a b w1 (by omega) (by omega) (by omega) (by omega) (sq_lt10 hu)
    have hI0 : ∀ w1, Calls Try.prog 96 #[.agg (sqs (N : Int) t), .agg (trs (toF N t 0 0) (toG N t 0 0) (toH N t 0 0))] w1 fun e w' => e = .returned (.agg (sqs (N : Int) (loopAt N t 0 0))) ∧ Below w1.heap.size w1 w' := fun w1 => isotope_any (N : Int) t _ _ _ w1 (by omega) (by omega) (fun i hi => by have := (pm_toF hlt (a := 0) (b := 0) (by omega) (by omega)).lt i (by omega); omega) (fun i hi => by have := (pm_toG hlt (a := 0) (b := 0) (by omega) (by omega)).lt i (by omega); omega) (fun x y hx hy => by have := hlt.lt x y (by omega) (by omega); omega)
    have hIu : ∀ a b w1, a < N → b < N → Calls Try.prog 96 #[.agg (sqs (N : Int) u), .agg (trs (toF N u a b) (toG N u a b) (toH N u a b))] w1 fun e w' => e = .returned (.agg (sqs (N : Int) (loopAt N u a b))) ∧ Below w1.heap.size w1 w' := fun a b w1 ha hb => isotope_any (N : Int) u _ _ _ w1 (by omega) (by omega) (fun i hi => by have := (pm_toF hlu ha hb).lt i (by omega); omega) (fun i hi => by have := (pm_toG hlu ha hb).lt i (by omega); omega) (fun x y hx hy => by have := hlu.lt x y (by omega) (by omega); omega)
    have hAl : ∀ a b w1, a < N → b < N → Calls Try.prog 97 #[.agg (sqs (N : Int) (loopAt N t 0 0)), .agg (sqs (N : Int) (loopAt N u a b))] w1 (AllList (istP N t u a b) w1) := fun a b w1 ha hb => by
      have h := allIsomorphisms_any N N (loopAt N t 0 0) (loopAt N u a b) w1 h0 h1 (lat_loopAt hlt (by omega) (by omega)).lt (lat_loopAt hlu ha hb).lt (by rw [isoAll, if_pos rfl]; exact istP_len h0 h1 hlt hlu ha hb)
      rwa [isoAll, if_pos rfl] at h
    have HT0 := Hid2.mk hT0
    have HTU := Hid2.mk hTu
    have HI0 := Hid2.mk hI0
    have HIU := Hid2.mk hIu
    have HAL := Hid2.mk hAl
    have HLT := Hid2.mk hlt
    have HLU := Hid2.mk hlu
    clear hT0 hTu hI0 hIu hAl hlt hlu ht hu
    go_enter Try.func81, Try.ntmps81
    go_wp2_with (first | ((with_reducible apply wpM_box' M 43 (sqs (N : Int) t)); rfl; exact ⟨rfl, rfl⟩; clear M; (try clear C); intro bq w9 h_bq M; have C := M.ruleAll; simp only [Go.Proofs.Ytinjjaoikofkdaa.ruleAll] at C) | ((with_reducible apply wpM_box' M 43 (sqs (N : Int) u)); rfl; exact ⟨rfl, rfl⟩; clear M; (try clear C); intro br w9 h_br M; have C := M.ruleAll; simp only [Go.Proofs.Ytinjjaoikofkdaa.ruleAll] at C) | ((with_reducible apply wpM_bsl' M 100 0 122 ([]) (#[])); rfl; rfl; rfl; exact bsl_trp0; clear M; (try clear C); intro bo w9 h_bo M; have C := M.ruleAll; simp only [Go.Proofs.Ytinjjaoikofkdaa.ruleAll] at C))
    apply wp_region_mma M [0, 1, 2, 3] 4 5 _ 122 (trs (fun _ => 0) (fun _ => 0) (fun _ => 0)) (by kernel_rfl) (by kernel_rfl) rfl rfl rfl zero_trp rfl; (case ht => repeat (first | exact wpTextG_nil | (apply wpTextG_cons; (intro g9 w2 hG; obtain ⟨Lg9, hSt9, G⟩ := hG; have M := G.suffix; have C := M.ruleAll; simp only [Go.Proofs.Ytinjjaoikofkdaa.ruleAll] at C; go_wp2_with (first | ((with_reducible apply wpM_lda' M 2 43 0 (sqs (N : Int) t)); rfl; rfl; rfl; exact ⟨rfl, inf_sqs.trans (congrArg some (sqs_size ..).symm), _, und_sqs, rfl⟩; exact whole_of rfl) | (go_at_call 95; ((with_reducible refine (HT0.out _).mono ?_); rintro e w1 ⟨rfl, hb⟩; have hsz := M.size; (try (have G9 := G.later hb; clear G; have G := G9; clear G9)); have M9 := M.later hb; clear M; (try clear C); have M := M9; clear M9; have C := M.ruleAll; simp only [Go.Proofs.Ytinjjaoikofkdaa.ruleAll] at C))); exact ⟨rfl, rfl, Lg9, hSt9, G⟩); rfl))); (clear M; (try clear C); intro bt w2 h_bt M; simp only [List.drop_succ_cons, List.drop_zero]; have C := M.ruleAll; simp only [Go.Proofs.Ytinjjaoikofkdaa.ruleAll] at C)
    have M9 := M.asRow 1 rfl w.heap.size 0 30 (by assumption) rfl (Nat.zero_le _)
    clear M; (try clear C)
    have M := M9
    clear M9
    simp only [List.set_cons_zero, List.set_cons_succ] at M
    have C := M.ruleAll; simp only [Go.Proofs.Ytinjjaoikofkdaa.ruleAll] at C
    go_wp2_with (first | ((with_reducible apply wpM_sta' M 0 122 (trs (toF N t 0 0) (toG N t 0 0) (toH N t 0 0))); rfl; rfl; rfl; rfl; (first | exact .inl (by assumption) | exact .inr rfl | exact .inr (by assumption)); exact ⟨rfl, inf_trp.trans (congrArg some (trs_size ..).symm), flat_trs _ _ _⟩; (simp only [entCells, List.getElem?_cons_zero, List.getElem?_cons_succ, trs_size, trs_size]); clear M; (try clear C); intro w9 M; simp only [List.set_cons_zero, List.set_cons_succ, entBlk, entT, List.getElem?_cons_zero, List.getElem?_cons_succ] at M; have C := M.ruleAll; simp only [Go.Proofs.Ytinjjaoikofkdaa.ruleAll] at C) | ((with_reducible apply wpM_lda' M 3 43 0 (sqs (N : Int) t)); rfl; rfl; rfl; exact ⟨rfl, inf_sqs.trans (congrArg some (sqs_size ..).symm), _, und_sqs, rfl⟩; exact whole_of rfl) | ((with_reducible apply wpM_lda' M 0 122 0 (trs (toF N t 0 0) (toG N t 0 0) (toH N t 0 0))); rfl; rfl; rfl; exact ⟨rfl, inf_trp.trans (congrArg some (trs_size ..).symm), _, und_trp, rfl⟩; exact whole_of rfl) | (go_at_call 96; ((with_reducible refine (HI0.out _).mono ?_); rintro e w1 ⟨rfl, hb⟩; have hsz := M.size; (try (have G9 := G.later hb; clear G; have G := G9; clear G9)); have M9 := M.later hb; clear M; (try clear C); have M := M9; clear M9; have C := M.ruleAll; simp only [Go.Proofs.Ytinjjaoikofkdaa.ruleAll] at C)) | ((with_reducible apply wpM_alloc' M 43 (sqs 0 fun _ _ => 0)); rfl; exact ⟨rfl, _, zero_sqs _, rfl⟩; clear M; (try clear C); intro bl w9 h_bl M; have C := M.ruleAll; simp only [Go.Proofs.Ytinjjaoikofkdaa.ruleAll] at C) | ((with_reducible apply wpM_sta' M 0 43 (sqs (N : Int) (loopAt N t 0 0))); rfl; rfl; rfl; rfl; (first | exact .inl (by assumption) | exact .inr rfl | exact .inr (by assumption)); exact ⟨rfl, inf_sqs.trans (congrArg some (sqs_size ..).symm), flat_sqs _ _⟩; (simp only [entCells, List.getElem?_cons_zero, List.getElem?_cons_succ, sqs_size, sqs_size]); clear M; (try clear C); intro w9 M; simp only [List.set_cons_zero, List.set_cons_succ, entBlk, entT, List.getElem?_cons_zero, List.getElem?_cons_succ] at M; have C := M.ruleAll; simp only [Go.Proofs.Ytinjjaoikofkdaa.ruleAll] at C) | ((with_reducible apply wpM_lda' M 4 43 0 (sqs (N : Int) t)); rfl; rfl; rfl; exact ⟨rfl, inf_sqs.trans (congrArg some (sqs_size ..).symm), _, und_sqs, rfl⟩; exact whole_of rfl) | (go_at_call 88; ((with_reducible refine (elements_any _ _ _ (by omega) (by omega)).mono ?_); rintro e w1 ⟨g1, cap_g1, rfl, hb, hg, hr⟩; have hsz := M.size; have M9 := M.gain hb (x := .rd g1 (N : Int).toNat (fun j => .int .u8 (j : Int))) hr (fun b h => by cases h; exact hg); clear M; (try clear C); have M := M9; clear M9; (try simp only [List.set_cons_zero, List.set_cons_succ] at M); have C := M.ruleAll; simp only [Go.Proofs.Ytinjjaoikofkdaa.ruleAll] at C; clear hb hg hr)))
    clear so1 so2
    go_loopw [5, 10, 12, 13, 15, 33, 38, 39, 40, 52, 53, 54] (fun o _ _ _ _ i _ _ _ _ _ _ wr => ∃ (a : Nat) (l : List Tri) (pp : Option Addr) (cap : Nat), a ≤ N ∧ i = .int .i64 (a : Int) ∧ o = .slice pp l.length cap ∧ l = (List.range a).flatMap (istA N t u) ∧
      Mm no w wr [.rd g1 N (fun j => .int .u8 (j : Int)), .box bl (sqs (N : Int) (loopAt N t 0 0)) 43, .box bt (trs (toF N t 0 0) (toG N t 0 0) (toH N t 0 0)) 122, .row w.heap.size (.slice pp l.length cap) l.length (tlCells l) 122 30, .box br (sqs (N : Int) u) 43, .box bq (sqs (N : Int) t) 43]) (fun _ _ _ _ _ i _ _ _ _ _ _ _ => N - (intOf i).toNat)
    case atStart => exact ⟨0, [], some ⟨bo, 0, none⟩, 0, by omega, rfl, rfl, rfl, M⟩
    case round =>
      obtain ⟨a, l, pp, cap, ha, rfl, rfl, hl, M9⟩ := hrel
      clear M; (try clear C)
      have M := M9
      clear M9
      have C := M.ruleAll; simp only [Go.Proofs.Ytinjjaoikofkdaa.ruleAll] at C
      have HL := Hid2.mk hl
      clear hl
      by_cases haN : a < N
      · have haN' : (a : Int) < (N : Int) := by omega
        go_wp2_with (first | ((with_reducible apply wpM_lda' M 5 43 0 (sqs (N : Int) t)); rfl; rfl; rfl; exact ⟨rfl, inf_sqs.trans (congrArg some (sqs_size ..).symm), _, und_sqs, rfl⟩; exact whole_of rfl) | (go_at_call 88; ((with_reducible refine (elements_any _ _ _ (by omega) (by omega)).mono ?_); rintro e w1 ⟨g2, cap_g2, rfl, hb, hg, hr⟩; have hsz := M.size; have M9 := M.gain hb (x := .rd g2 (N : Int).toNat (fun j => .int .u8 (j : Int))) hr (fun b h => by cases h; exact hg); clear M; (try clear C); have M := M9; clear M9; (try simp only [List.set_cons_zero, List.set_cons_succ] at M); have C := M.ruleAll; simp only [Go.Proofs.Ytinjjaoikofkdaa.ruleAll] at C; clear hb hg hr)))
        go_loopw [5, 12, 13, 15, 40, 52, 53, 54] (fun o _ _ _ i _ _ _ wr => ∃ (b : Nat) (l : List Tri) (pp : Option Addr) (cap : Nat), b ≤ N ∧ i = .int .i64 (b : Int) ∧ o = .slice pp l.length cap ∧ l = (List.range a).flatMap (istA N t u) ++ (List.range b).flatMap (istB N t u a) ∧
          Mm no w wr [.rd g2 N (fun j => .int .u8 (j : Int)), .rd g1 N (fun j => .int .u8 (j : Int)), .box bl (sqs (N : Int) (loopAt N t 0 0)) 43, .box bt (trs (toF N t 0 0) (toG N t 0 0) (toH N t 0 0)) 122, .row w.heap.size (.slice pp l.length cap) l.length (tlCells l) 122 30, .box br (sqs (N : Int) u) 43, .box bq (sqs (N : Int) t) 43]) (fun _ _ _ _ i _ _ _ _ => N - (intOf i).toNat)
        case atStart => exact ⟨0, l, pp, cap, by omega, rfl, rfl, by rw [HL.out]; simp, M⟩
        case round =>
          clear HL
          obtain ⟨b, l, pp, cap, hb0, rfl, rfl, hl, M9⟩ := hrel
          clear M; (try clear C)
          have M := M9
          clear M9
          have C := M.ruleAll; simp only [Go.Proofs.Ytinjjaoikofkdaa.ruleAll] at C
          have HL := Hid2.mk hl
          clear hl
          by_cases hbN : b < N
          · have hbN' : (b : Int) < (N : Int) := by omega
            go_wp2_with (first | ((with_reducible apply wpM_lda' M 5 43 0 (sqs (N : Int) u)); rfl; rfl; rfl; exact ⟨rfl, inf_sqs.trans (congrArg some (sqs_size ..).symm), _, und_sqs, rfl⟩; exact whole_of rfl) | (go_at_call 95; ((with_reducible refine (HTU.out a b _ haN hbN).mono ?_); rintro e w1 ⟨rfl, hb⟩; have hsz := M.size; (try (have G9 := G.later hb; clear G; have G := G9; clear G9)); have M9 := M.later hb; clear M; (try clear C); have M := M9; clear M9; have C := M.ruleAll; simp only [Go.Proofs.Ytinjjaoikofkdaa.ruleAll] at C)) | ((with_reducible apply wpM_alloc' M 122 (trs (fun _ => 0) (fun _ => 0) (fun _ => 0))); rfl; exact ⟨rfl, _, zero_trp _, rfl⟩; clear M; (try clear C); intro bu w9 h_bu M; have C := M.ruleAll; simp only [Go.Proofs.Ytinjjaoikofkdaa.ruleAll] at C) | ((with_reducible apply wpM_sta' M 0 122 (trs (toF N u a b) (toG N u a b) (toH N u a b))); rfl; rfl; rfl; rfl; (first | exact .inl (by assumption) | exact .inr rfl | exact .inr (by assumption)); exact ⟨rfl, inf_trp.trans (congrArg some (trs_size ..).symm), flat_trs _ _ _⟩; (simp only [entCells, List.getElem?_cons_zero, List.getElem?_cons_succ, trs_size, trs_size]); clear M; (try clear C); intro w9 M; simp only [List.set_cons_zero, List.set_cons_succ, entBlk, entT, List.getElem?_cons_zero, List.getElem?_cons_succ] at M; have C := M.ruleAll; simp only [Go.Proofs.Ytinjjaoikofkdaa.ruleAll] at C))
            have hPl := HAL.out a b
            generalize hP : istP N t u a b = P at hPl
            apply wp_region_mmf2 M [0, 1, 2, 3, 6] 4 5 7 _ _ (StP w.heap.size P) (by kernel_rfl) (by kernel_rfl) rfl rfl rfl rfl rfl
            case ht => (repeat (first | exact wpTextG_nil | (apply wpTextG_cons; (intro g9 w2 hG; obtain ⟨Lg9, hSt9, G⟩ := hG; have M := G.suffix; have C := M.rules; simp only [List.forall_mem_cons, List.not_mem_nil, false_implies, implies_true, and_true, Ent.rules, true_and] at C; go_wp2_with (first | ((with_reducible apply wpM_lda' M 3 43 0 (sqs (N : Int) (loopAt N t 0 0))); rfl; rfl; rfl; exact ⟨rfl, inf_sqs.trans (congrArg some (sqs_size ..).symm), _, und_sqs, rfl⟩; exact whole_of rfl) | ((with_reducible apply wpM_lda' M 6 43 0 (sqs (N : Int) u)); rfl; rfl; rfl; exact ⟨rfl, inf_sqs.trans (congrArg some (sqs_size ..).symm), _, und_sqs, rfl⟩; exact whole_of rfl) | ((with_reducible apply wpM_lda' M 0 122 0 (trs (toF N u a b) (toG N u a b) (toH N u a b))); rfl; rfl; rfl; exact ⟨rfl, inf_trp.trans (congrArg some (trs_size ..).symm), _, und_trp, rfl⟩; exact whole_of rfl) | (go_at_call 96; ((with_reducible refine (HIU.out a b _ haN hbN).mono ?_); rintro e w1 ⟨rfl, hb⟩; have hsz := M.size; (try (have G9 := G.later hb; clear G; have G := G9; clear G9)); have M9 := M.later hb; clear M; (try clear C); have M := M9; clear M9; have C := M.ruleAll; simp only [Go.Proofs.Ytinjjaoikofkdaa.ruleAll] at C))); exact ⟨rfl, rfl, Lg9, hSt9, G⟩); rfl)))
            case hA =>
              intro Lg w2 h M
              obtain rfl : Lg = [] := h
              refine yield_walk (ops := #[]) rfl rfl (by simp [Act.put]) ?_
              go_wp2_with (first | (go_at_call 97; ((with_reducible refine (hPl _ haN hbN).mono ?_); rintro e w1 ⟨v, rfl, hO, hb⟩)))
              obtain ⟨pp3, cap3, rfl⟩ := own_form hO
              exact ⟨_, ⟨⟨_, _, rfl⟩, rfl⟩, M.gain hb (x := .row w.heap.size (.slice pp3 P.length cap3) P.length (plCells P) 70 10) (own_mono hO M.size) fun k hk => (hO.lt k hk).1⟩
            case hA2 =>
              intro v Lg w2 h M
              obtain ⟨⟨pp3, cap3, rfl⟩, rfl⟩ := h
              refine yield_walk (ops := #[]) rfl rfl (by simp [Act.put]) ?_
              go_wp2
              exact ⟨_, ⟨⟨_, _, rfl⟩, rfl, rfl⟩, M⟩
            clear M; (try clear C)
            intro v v9 Lg w2 h M
            obtain ⟨⟨pp3, cap3, rfl⟩, rfl, rfl⟩ := h
            simp only [List.drop_succ_cons, List.drop_zero, List.cons_append, List.nil_append] at M ⊢
            have C := M.ruleAll; simp only [Go.Proofs.Ytinjjaoikofkdaa.ruleAll] at C
            go_wp2
            go_frame
            have hPlen : P.length ≤ 1000000 := by rw [← hP]; exact istP_len h0 h1 HLT.out HLU.out haN hbN
            have hla := flatMap_len (f := istA N t u) (B := N * 1000000) (N := a) fun y hy => flatMap_len (f := istB N t u y) (B := 1000000) (N := N) fun z hz => by
              unfold istB; rw [List.length_map]; exact istP_len h0 h1 HLT.out HLU.out (by omega) hz
            have hlb := flatMap_len (f := istB N t u a) (B := 1000000) (N := b) fun z hz => by
              unfold istB; rw [List.length_map]; exact istP_len h0 h1 HLT.out HLU.out haN (by omega)
            have hl1 : l.length ≤ 110000000 := by
              rw [HL.out, List.length_append]
              have e1 : a * (N * 1000000) ≤ 10 * (10 * 1000000) := Nat.mul_le_mul (by omega) (Nat.mul_le_mul h1 (Nat.le_refl _))
              have e2 : b * 1000000 ≤ 10 * 1000000 := Nat.mul_le_mul (by omega) (Nat.le_refl _)
              omega
            clear hla hlb hPl
            have HP := Hid2.mk hP
            clear hP
            go_loopw [5, 15, 54] (fun o _ i wr => ∃ (k : Nat) (l' : List Tri) (pp : Option Addr) (cap : Nat), k ≤ P.length ∧ i = .int .i64 (k : Int) ∧ o = .slice pp l'.length cap ∧ l' = l ++ (P.take k).map (ownT N t u a b) ∧
              Mm no w wr [.row w.heap.size (.slice pp3 P.length cap3) P.length (plCells P) 70 10, .box bu (trs (toF N u a b) (toG N u a b) (toH N u a b)) 122, .rd g2 N (fun j => .int .u8 (j : Int)), .rd g1 N (fun j => .int .u8 (j : Int)), .box bl (sqs (N : Int) (loopAt N t 0 0)) 43, .box bt (trs (toF N t 0 0) (toG N t 0 0) (toH N t 0 0)) 122, .row w.heap.size (.slice pp l'.length cap) l'.length (tlCells l') 122 30, .box br (sqs (N : Int) u) 43, .box bq (sqs (N : Int) t) 43]) (fun _ _ i _ => P.length - (intOf i).toNat)
            case atStart => exact ⟨0, l, pp, cap, by omega, rfl, rfl, by simp, M⟩
            case round =>
              obtain ⟨k, l', pp', cap', hk, rfl, rfl, hl', M9⟩ := hrel
              clear M; (try clear C)
              have M := M9
              clear M9
              have C := M.ruleAll; simp only [Go.Proofs.Ytinjjaoikofkdaa.ruleAll] at C
              have HL2 := Hid2.mk hl'
              clear hl'
              by_cases hkP : k < P.length
              · have hkP' : (k : Int) < (P.length : Int) := by omega
                obtain ⟨g, cap4, hv4, _, _, hr4⟩ := own_rds (M.row 0 rfl) (by omega)
                obtain ⟨rfl, rfl⟩ : pp3 = some ⟨g, 0, none⟩ ∧ cap3 = cap4 := by simpa using hv4
                clear hv4
                have hcells : ∀ j v, (bys (wf P[k]))[j]? = some v → _ := plc_cells hr4 hkP
                have hp10 : ∀ i, i < N → P[k].getD i 0 < 10 := fun i hi => by
                  have := istP_lt (p := P[k]) (N := N) (t := t) (u := u) (a := a) (b := b) (by rw [HP.out]; exact List.getElem_mem hkP) i
                  omega
                obtain ⟨p, hp⟩ : ∃ p, p = P[k] := ⟨_, rfl⟩
                rw [← hp] at hcells hp10
                have hTk : P.take (k + 1) = P.take k ++ [p] := by rw [hp, List.take_succ_eq_append_getElem hkP]
                have HTK := Hid2.mk hTk
                clear hp hTk
                have hth1 : ∀ w1, Calls Try.prog 98 #[.agg (trs (toF N t 0 0) (toG N t 0 0) (toH N t 0 0)), .agg (trs (wf p) (wf p) (wf p)), .int .i64 (N : Int)] w1 fun e w' => e = .returned (.agg (midT N t p)) ∧ Below w1.heap.size w1 w' := fun w1 => thenTriples_any _ _ _ _ _ _ (N : Int) w1 (by omega) (by omega) (fun i hi => by have := (pm_toF HLT.out (a := 0) (b := 0) (by omega) (by omega)).lt i (by omega); omega) (fun i hi => by have := (pm_toG HLT.out (a := 0) (b := 0) (by omega) (by omega)).lt i (by omega); omega) (fun i hi => by have := (pm_toH HLT.out (a := 0) (b := 0) (by omega) (by omega)).lt i (by omega); omega)
                have hbk : ∀ w1, Calls Try.prog 99 #[.agg (trs (toF N u a b) (toG N u a b) (toH N u a b)), .int .i64 (N : Int)] w1 fun e w' => e = .returned (.agg (bakT N u a b)) ∧ Below w1.heap.size w1 w' := fun w1 => backTriple_any _ _ _ (N : Int) w1 (by omega) (by omega) (fun i hi => by have := (pm_toF HLU.out haN hbN).lt i (by omega); omega) (fun i hi => by have := (pm_toG HLU.out haN hbN).lt i (by omega); omega) (fun i hi => by have := (pm_toH HLU.out haN hbN).lt i (by omega); omega)
                have hth2 : ∀ w1, Calls Try.prog 98 #[.agg (midT N t p), .agg (bakT N u a b), .int .i64 (N : Int)] w1 fun e w' => e = .returned (.agg (trC (ownT N t u a b p))) ∧ Below w1.heap.size w1 w' := fun w1 => thenTriples_any _ _ _ _ _ _ (N : Int) w1 (by omega) (by omega) (fun i hi => mid_lt (pm_toF HLT.out (a := 0) (b := 0) (by omega) (by omega)) hp10 (by omega)) (fun i hi => mid_lt (pm_toG HLT.out (a := 0) (b := 0) (by omega) (by omega)) hp10 (by omega)) (fun i hi => mid_lt (pm_toH HLT.out (a := 0) (b := 0) (by omega) (by omega)) hp10 (by omega))
                have HTH1 := Hid2.mk hth1
                have HBK := Hid2.mk hbk
                have HTH2 := Hid2.mk hth2
                clear hth1 hbk hth2 hp10 hr4
                go_wp2_with (first | (refine wpList_load_part rfl 70 _ rfl (g) (k * 10) rfl (bys (wf p)) _ und_plc rfl inf_plc (hcells) ?_) | ((with_reducible apply wpM_alloc' M 70 (bys fun _ => 0)); rfl; exact ⟨rfl, _, zero_plc _, rfl⟩; clear M; (try clear C); intro bp w9 h_bp M; have C := M.ruleAll; simp only [Go.Proofs.Ytinjjaoikofkdaa.ruleAll] at C) | ((with_reducible apply wpM_sta' M 0 70 (bys (wf p))); rfl; rfl; rfl; rfl; (first | exact .inl (by assumption) | exact .inr rfl | exact .inr (by assumption)); exact ⟨rfl, inf_plc.trans (congrArg some (bys_size ..).symm), flat_bys _⟩; (simp only [entCells, List.getElem?_cons_zero, List.getElem?_cons_succ, bys_size, bys_size]); clear M; (try clear C); intro w9 M; simp only [List.set_cons_zero, List.set_cons_succ, entBlk, entT, List.getElem?_cons_zero, List.getElem?_cons_succ] at M; have C := M.ruleAll; simp only [Go.Proofs.Ytinjjaoikofkdaa.ruleAll] at C))
                go_frame
                apply wp_region_mmb M [0, 1, 2, 3, 4, 5, 6, 7, 8, 9, 10, 11, 12] 13 14 _ 100 1 122 ([(0, .agg (trC (ownT N t u a b p)))]) (trC (ownT N t u a b p)) (by kernel_rfl) (by kernel_rfl) rfl rfl rfl; (case ht => repeat (first | exact wpTextG_nil | (apply wpTextG_cons; (intro g9 w2 hG; obtain ⟨Lg9, hSt9, G⟩ := hG; have M := G.suffix; have C := M.ruleAll; simp only [Go.Proofs.Ytinjjaoikofkdaa.ruleAll] at C; go_wp2_with (first | ((with_reducible apply wpM_lda' M 6 122 0 (trs (toF N t 0 0) (toG N t 0 0) (toH N t 0 0))); rfl; rfl; rfl; exact ⟨rfl, inf_trp.trans (congrArg some (trs_size ..).symm), _, und_trp, rfl⟩; exact whole_of rfl) | ((with_reducible apply wpM_lda' M 0 70 0 (bys (wf p))); rfl; rfl; rfl; exact ⟨rfl, inf_plc.trans (congrArg some (bys_size ..).symm), _, und_plc, rfl⟩; exact whole_of rfl) | (refine wpList_build 122 _ rfl rfl [(0, .agg (bys (wf p))), (1, .agg (bys (wf p))), (2, .agg (bys (wf p)))] rfl _ (build_trp _ _ _ _) ?_) | (go_at_call 98; ((with_reducible refine (HTH1.out _).mono ?_); rintro e w1 ⟨rfl, hb⟩; have hsz := M.size; (try (have G9 := G.later hb; clear G; have G := G9; clear G9)); have M9 := M.later hb; clear M; (try clear C); have M := M9; clear M9; have C := M.ruleAll; simp only [Go.Proofs.Ytinjjaoikofkdaa.ruleAll] at C)) | ((with_reducible apply wpM_lda' M 2 122 0 (trs (toF N u a b) (toG N u a b) (toH N u a b))); rfl; rfl; rfl; exact ⟨rfl, inf_trp.trans (congrArg some (trs_size ..).symm), _, und_trp, rfl⟩; exact whole_of rfl) | (go_at_call 99; ((with_reducible refine (HBK.out _).mono ?_); rintro e w1 ⟨rfl, hb⟩; have hsz := M.size; (try (have G9 := G.later hb; clear G; have G := G9; clear G9)); have M9 := M.later hb; clear M; (try clear C); have M := M9; clear M9; have C := M.ruleAll; simp only [Go.Proofs.Ytinjjaoikofkdaa.ruleAll] at C)) | (go_at_call 98; ((with_reducible refine (HTH2.out _).mono ?_); rintro e w1 ⟨rfl, hb⟩; have hsz := M.size; (try (have G9 := G.later hb; clear G; have G := G9; clear G9)); have M9 := M.later hb; clear M; (try clear C); have M := M9; clear M9; have C := M.ruleAll; simp only [Go.Proofs.Ytinjjaoikofkdaa.ruleAll] at C))); exact ⟨rfl, rfl, Lg9, hSt9, G⟩); rfl))); rfl; exact bsl_trp1 _ _ _; (clear M; (try clear C); intro bx w2 h_bx M; simp only [List.drop_succ_cons, List.drop_zero]; have C := M.ruleAll; simp only [Go.Proofs.Ytinjjaoikofkdaa.ruleAll] at C)
                go_wp2_with (first | ((with_reducible apply wpM_app' M 100 8 0 (w.heap.size) (.slice pp' l'.length cap') (l'.length) (tlCells l') 122 30 30); rfl; rfl; rfl; rfl; rfl; rfl; rfl; (first | exact .inl (Nat.le_refl _) | exact .inl (by assumption) | exact .inr (by assumption) | exact .inr HDv.out); (first | exact M.size | (have hq := M.size; omega)); exact und_slt; exact inf_elt; rfl; decide; decide; rfl; exact trs_size ..; exact flat_trs _ _ _; (have hq2 := congrArg List.length HL2.out; rw [List.length_append, List.length_map, List.length_take] at hq2; omega); clear M; (try clear C); intro v2 w9 far_v2 M; simp only [List.set_cons_zero, List.set_cons_succ, entBlk, entT, List.getElem?_cons_zero, List.getElem?_cons_succ] at M; obtain ⟨pp_v2, cap_v2, rfl⟩ := own_form (M.row 8 rfl); have C := M.ruleAll; simp only [Go.Proofs.Ytinjjaoikofkdaa.ruleAll] at C))
                go_roundw
                case rel => exact ⟨k + 1, l' ++ [ownT N t u a b p], pp_v2, cap_v2, by omega, by go_num, by simp, by rw [HTK.out, List.map_append, ← List.append_assoc, ← HL2.out]; rfl, by rw [List.length_append, List.length_singleton, tlCells_snoc]; exact (M.drop 0).drop 0⟩
                case measure => simp [intOf]; omega
              · obtain rfl : k = P.length := by omega
                have hge : ¬ ((P.length : Int) < (P.length : Int)) := by omega
                go_wp2
                go_roundw
                case rel => exact ⟨b + 1, l', pp', cap', by omega, by go_num, rfl, by rw [HL2.out, List.take_length, HL.out, List.range_succ, List.flatMap_append, List.flatMap_singleton, List.append_assoc]; unfold istB; rw [HP.out], (M.drop 0).drop 0⟩
                case measure => simp [intOf]; omega
          · obtain rfl : b = N := by omega
            have hge : ¬ ((b : Int) < (b : Int)) := by omega
            go_wp2
            go_roundw
            case rel => exact ⟨a + 1, l, pp, cap, by omega, by go_num, rfl, by rw [HL.out, List.range_succ, List.flatMap_append, List.flatMap_singleton]; rfl, M.drop 0⟩
            case measure => simp [intOf]; omega
      · obtain rfl : a = N := by omega
        have hge : ¬ ((a : Int) < (a : Int)) := by omega
        have hle : ists a t u = l := HL.out.symm
        rw [hle]
        go_wp2
        go_ret
        exact ⟨_, rfl, M.row 3 rfl, M.below⟩
  · have hNK' : ¬ ((N : Int) = (K : Int)) := by omega
    rw [if_neg hNK]
    go_enter Try.func81, Try.ntmps81
    go_wp2_with (first | ((with_reducible apply wpM_box' M 43 (sqs (N : Int) t)); rfl; exact ⟨rfl, rfl⟩; clear M; (try clear C); intro bq w9 h_bq M; have C := M.ruleAll; simp only [Go.Proofs.Ytinjjaoikofkdaa.ruleAll] at C) | ((with_reducible apply wpM_box' M 43 (sqs (K : Int) u)); rfl; exact ⟨rfl, rfl⟩; clear M; (try clear C); intro br w9 h_br M; have C := M.ruleAll; simp only [Go.Proofs.Ytinjjaoikofkdaa.ruleAll] at C) | ((with_reducible apply wpM_bsl' M 100 0 122 ([]) (#[])); rfl; rfl; rfl; exact bsl_trp0; clear M; (try clear C); intro bo w9 h_bo M; have C := M.ruleAll; simp only [Go.Proofs.Ytinjjaoikofkdaa.ruleAll] at C))
    go_ret
    exact ⟨_, rfl, own_of_blk (n := 0) (M.box 0 rfl) (by assumption) rfl (Nat.zero_le _), M.below⟩
end Go.Proofs.Ytinjjaoikofkdaa
