/- The order of triples, for the reference: contracts. -/
import Derived.Test.YtjdfjlgjpjgnhaaC3
import Derived.Test.YtjdfjlgjpjgnhaaC10
import Derived.Test.YtjdfjlgjpjgnhaaK9
import Derived.Test.YtjdfjlgjpjgnhaaM8
namespace Go.Proofs.Ytjdfjlgjpjgnhaa
open Go Go.RowKit

/-- Lexicographically less, from place i on, for n places. -/
def lexB (f g : Nat → Nat) : Nat → Nat → Bool
  | 0, _ => false
  | n + 1, i => if f i = g i then lexB f g n (i + 1) else decide (f i < g i)
theorem lexB_succ (f g : Nat → Nat) (n i : Nat) : lexB f g (n + 1) i = if f i = g i then lexB f g n (i + 1) else decide (f i < g i) := rfl
def beforeT (x y : Tri) : Bool := if eqb x.f y.f = false then lexB x.f y.f 10 0 else if eqb x.g y.g = false then lexB x.g y.g 10 0 else lexB x.h y.h 10 0
theorem egt_plc : Try.prog.eqGuardType Try.prog.depth 33 = false := by kernel_rfl
theorem neq_plc (f g : Nat → Nat) (w : World) : (binOp .neq 33 (.agg (bys f)) (.agg (bys g))).run Try.prog w = .ok (.bool (!eqb f g)) w := by
  rw [run_neq_struct, equal_bys 9998 _ und_plc f g w]; rfl

set_option maxRecDepth 100000 in
set_option maxHeartbeats 1000000 in
theorem l02Less_any (f g : Nat → Nat) (w : World) : Calls Try.prog 143 #[.agg (bys f), .agg (bys g)] w fun e w' => e = .returned (.bool (lexB f g 10 0)) ∧ Below w.heap.size w w' := by
  have M := Mm.start no w
  go_enter Try.func143, Try.ntmps143
  go_wp2_with (first | ((with_reducible apply wpM_box' M 33 (bys f)); rfl; exact ⟨rfl, rfl⟩; clear M; (try clear C); intro bf w9 h_bf M; have C := M.rules; simp only [List.forall_mem_cons, List.not_mem_nil, false_implies, implies_true, and_true, Ent.rules, true_and] at C) | ((with_reducible apply wpM_box' M 33 (bys g)); rfl; exact ⟨rfl, rfl⟩; clear M; (try clear C); intro bg w9 h_bg M; have C := M.rules; simp only [List.forall_mem_cons, List.not_mem_nil, false_implies, implies_true, and_true, Ent.rules, true_and] at C))
  go_loopw [5] (fun i wr => ∃ k : Nat, k ≤ 10 ∧ i = .int .i64 (k : Int) ∧ lexB f g (10 - k) k = lexB f g 10 0 ∧ Mm no w wr [.box bg (bys g) 33, .box bf (bys f) 33]) (fun i _ => 10 - (intOf i).toNat)
  case atStart => exact ⟨0, by omega, rfl, rfl, M⟩
  case round =>
    obtain ⟨k, hk, rfl, hl, M9⟩ := hrel
    clear M; (try clear C)
    have M := M9
    clear M9
    have C := M.rules; simp only [List.forall_mem_cons, List.not_mem_nil, false_implies, implies_true, and_true, Ent.rules, true_and] at C
    by_cases hlt : k < 10
    · have hlt' : (k : Int) < 10 := by omega
      have c1 := bys_get (f := f) hlt
      have c2 := bys_get (f := g) hlt
      rw [show 10 - k = (10 - (k + 1)) + 1 by omega, lexB_succ] at hl
      by_cases he : f k = g k
      · rw [if_pos he] at hl
        have HL := Hid2.mk hl
        clear hl
        have he' : ((f k : Int) == (g k : Int)) = true := by simp [he]
        have he2 : (f k : Int) = (g k : Int) := by omega
        have HE := Hid2.mk he
        clear he
        go_wp2
        apply wp_region_mm M 6 (by kernel_rfl) (by kernel_rfl); (simp only [List.take_succ_cons, List.take_zero]; repeat (first | exact wpText_nil | (apply wpText_cons; (intro w2 M; have C := M.rules; simp only [List.forall_mem_cons, List.not_mem_nil, false_implies, implies_true, and_true, Ent.rules, true_and] at C; go_wp2; exact ⟨rfl, rfl, M⟩); rfl))); (clear M; (try clear C); intro w2 M; simp only [List.drop_succ_cons, List.drop_zero]; have C := M.rules; simp only [List.forall_mem_cons, List.not_mem_nil, false_implies, implies_true, and_true, Ent.rules, true_and] at C)
        go_wp2
        go_roundw
        case rel => exact ⟨k + 1, by omega, by go_num, HL.out, M⟩
        case measure => simp [intOf]; omega
      · rw [if_neg he] at hl
        have HL := Hid2.mk hl
        clear hl
        have he' : ((f k : Int) == (g k : Int)) = false := by simp; omega
        have he2 : ¬ ((f k : Int) = (g k : Int)) := by omega
        go_wp2
        apply wp_region_mm M 6 (by kernel_rfl) (by kernel_rfl); (simp only [List.take_succ_cons, List.take_zero]; repeat (first | exact wpText_nil | (apply wpText_cons; (intro w2 M; have C := M.rules; simp only [List.forall_mem_cons, List.not_mem_nil, false_implies, implies_true, and_true, Ent.rules, true_and] at C; go_wp2; exact ⟨rfl, rfl, M⟩); rfl))); (clear M; (try clear C); intro w2 M; simp only [List.drop_succ_cons, List.drop_zero]; have C := M.rules; simp only [List.forall_mem_cons, List.not_mem_nil, false_implies, implies_true, and_true, Ent.rules, true_and] at C)
        go_wp2
        apply wp_region_mm M 6 (by kernel_rfl) (by kernel_rfl); (simp only [List.take_succ_cons, List.take_zero]; repeat (first | exact wpText_nil | (apply wpText_cons; (intro w2 M; have C := M.rules; simp only [List.forall_mem_cons, List.not_mem_nil, false_implies, implies_true, and_true, Ent.rules, true_and] at C; go_wp2; exact ⟨rfl, rfl, M⟩); rfl))); (clear M; (try clear C); intro w2 M; simp only [List.drop_succ_cons, List.drop_zero]; have C := M.rules; simp only [List.forall_mem_cons, List.not_mem_nil, false_implies, implies_true, and_true, Ent.rules, true_and] at C)
        go_wp2
        go_ret
        exact ⟨by rw [← HL.out]; simp, M.below⟩
    · obtain rfl : k = 10 := by omega
      have HL := Hid2.mk hl
      clear hl
      go_wp2
      go_ret
      exact ⟨by rw [← HL.out]; rfl, M.below⟩

set_option maxRecDepth 100000 in
set_option maxHeartbeats 1000000 in
theorem l02Before_any (f g h p q r : Nat → Nat) (w : World) : Calls Try.prog 109 #[.agg (trs f g h), .agg (trs p q r)] w fun e w' => e = .returned (.bool (beforeT ⟨f, g, h⟩ ⟨p, q, r⟩)) ∧ Below w.heap.size w w' := by
  have M := Mm.start no w
  cases e1 : eqb f p with
  | false =>
    have hB : beforeT ⟨f, g, h⟩ ⟨p, q, r⟩ = lexB f p 10 0 := by unfold beforeT; rw [if_pos e1]
    rw [hB]
    go_enter Try.func109, Try.ntmps109
    go_wp2_with (first | ((with_reducible apply wpM_box' M 35 (trs f g h)); rfl; exact ⟨rfl, rfl⟩; clear M; (try clear C); intro bf w9 h_bf M; have C := M.rules; simp only [List.forall_mem_cons, List.not_mem_nil, false_implies, implies_true, and_true, Ent.rules, true_and] at C) | ((with_reducible apply wpM_box' M 35 (trs p q r)); rfl; exact ⟨rfl, rfl⟩; clear M; (try clear C); intro bg w9 h_bg M; have C := M.rules; simp only [List.forall_mem_cons, List.not_mem_nil, false_implies, implies_true, and_true, Ent.rules, true_and] at C) | ((with_reducible apply wpM_lda' M 1 33 (0) (bys f)); rfl; rfl; rfl; exact ⟨rfl, inf_plc.trans (congrArg some (bys_size ..).symm), _, und_plc, rfl⟩; exact trs_first) | ((with_reducible apply wpM_lda' M 0 33 (0) (bys p)); rfl; rfl; rfl; exact ⟨rfl, inf_plc.trans (congrArg some (bys_size ..).symm), _, und_plc, rfl⟩; exact trs_first) | (refine wpList_agg_g .neq 33 _ _ _ rfl rfl (bys f) (bys p) rfl rfl egt_plc _ ((neq_plc _ _ _).trans (by rw [e1])) ?_) | (go_at_call 143; ((with_reducible refine (l02Less_any f p _).mono ?_); rintro e w1 ⟨rfl, hb⟩; have hsz := M.size; (try (have G9 := G.later hb; clear G; have G := G9; clear G9)); have M9 := M.later hb; clear M; (try clear C); have M := M9; clear M9; have C := M.rules; simp only [List.forall_mem_cons, List.not_mem_nil, false_implies, implies_true, and_true, Ent.rules, true_and] at C)))
    go_ret
    exact ⟨rfl, M.below⟩
  | true =>
    cases e2 : eqb g q with
    | false =>
      have hB : beforeT ⟨f, g, h⟩ ⟨p, q, r⟩ = lexB g q 10 0 := by unfold beforeT; rw [if_neg (by rw [e1]; simp), if_pos e2]
      rw [hB]
      go_enter Try.func109, Try.ntmps109
      go_wp2_with (first | ((with_reducible apply wpM_box' M 35 (trs f g h)); rfl; exact ⟨rfl, rfl⟩; clear M; (try clear C); intro bf w9 h_bf M; have C := M.rules; simp only [List.forall_mem_cons, List.not_mem_nil, false_implies, implies_true, and_true, Ent.rules, true_and] at C) | ((with_reducible apply wpM_box' M 35 (trs p q r)); rfl; exact ⟨rfl, rfl⟩; clear M; (try clear C); intro bg w9 h_bg M; have C := M.rules; simp only [List.forall_mem_cons, List.not_mem_nil, false_implies, implies_true, and_true, Ent.rules, true_and] at C) | ((with_reducible apply wpM_lda' M 1 33 (0) (bys f)); rfl; rfl; rfl; exact ⟨rfl, inf_plc.trans (congrArg some (bys_size ..).symm), _, und_plc, rfl⟩; exact trs_first) | ((with_reducible apply wpM_lda' M 0 33 (0) (bys p)); rfl; rfl; rfl; exact ⟨rfl, inf_plc.trans (congrArg some (bys_size ..).symm), _, und_plc, rfl⟩; exact trs_first) | (refine wpList_agg_g .neq 33 _ _ _ rfl rfl (bys f) (bys p) rfl rfl egt_plc _ ((neq_plc _ _ _).trans (by rw [e1])) ?_) | ((with_reducible apply wpM_lda' M 1 33 (10) (bys g)); rfl; rfl; rfl; exact ⟨rfl, inf_plc.trans (congrArg some (bys_size ..).symm), _, und_plc, rfl⟩; exact trs_second) | ((with_reducible apply wpM_lda' M 0 33 (10) (bys q)); rfl; rfl; rfl; exact ⟨rfl, inf_plc.trans (congrArg some (bys_size ..).symm), _, und_plc, rfl⟩; exact trs_second) | (refine wpList_agg_g .neq 33 _ _ _ rfl rfl (bys g) (bys q) rfl rfl egt_plc _ ((neq_plc _ _ _).trans (by rw [e2])) ?_) | (go_at_call 143; ((with_reducible refine (l02Less_any g q _).mono ?_); rintro e w1 ⟨rfl, hb⟩; have hsz := M.size; (try (have G9 := G.later hb; clear G; have G := G9; clear G9)); have M9 := M.later hb; clear M; (try clear C); have M := M9; clear M9; have C := M.rules; simp only [List.forall_mem_cons, List.not_mem_nil, false_implies, implies_true, and_true, Ent.rules, true_and] at C)))
      go_ret
      exact ⟨rfl, M.below⟩
    | true =>
      have hB : beforeT ⟨f, g, h⟩ ⟨p, q, r⟩ = lexB h r 10 0 := by unfold beforeT; rw [if_neg (by rw [e1]; simp), if_neg (by rw [e2]; simp)]
      rw [hB]
      go_enter Try.func109, Try.ntmps109
      go_wp2_with (first | ((with_reducible apply wpM_box' M 35 (trs f g h)); rfl; exact ⟨rfl, rfl⟩; clear M; (try clear C); intro bf w9 h_bf M; have C := M.rules; simp only [List.forall_mem_cons, List.not_mem_nil, false_implies, implies_true, and_true, Ent.rules, true_and] at C) | ((with_reducible apply wpM_box' M 35 (trs p q r)); rfl; exact ⟨rfl, rfl⟩; clear M; (try clear C); intro bg w9 h_bg M; have C := M.rules; simp only [List.forall_mem_cons, List.not_mem_nil, false_implies, implies_true, and_true, Ent.rules, true_and] at C) | ((with_reducible apply wpM_lda' M 1 33 (0) (bys f)); rfl; rfl; rfl; exact ⟨rfl, inf_plc.trans (congrArg some (bys_size ..).symm), _, und_plc, rfl⟩; exact trs_first) | ((with_reducible apply wpM_lda' M 0 33 (0) (bys p)); rfl; rfl; rfl; exact ⟨rfl, inf_plc.trans (congrArg some (bys_size ..).symm), _, und_plc, rfl⟩; exact trs_first) | (refine wpList_agg_g .neq 33 _ _ _ rfl rfl (bys f) (bys p) rfl rfl egt_plc _ ((neq_plc _ _ _).trans (by rw [e1])) ?_) | ((with_reducible apply wpM_lda' M 1 33 (10) (bys g)); rfl; rfl; rfl; exact ⟨rfl, inf_plc.trans (congrArg some (bys_size ..).symm), _, und_plc, rfl⟩; exact trs_second) | ((with_reducible apply wpM_lda' M 0 33 (10) (bys q)); rfl; rfl; rfl; exact ⟨rfl, inf_plc.trans (congrArg some (bys_size ..).symm), _, und_plc, rfl⟩; exact trs_second) | (refine wpList_agg_g .neq 33 _ _ _ rfl rfl (bys g) (bys q) rfl rfl egt_plc _ ((neq_plc _ _ _).trans (by rw [e2])) ?_) | ((with_reducible apply wpM_lda' M 1 33 (20) (bys h)); rfl; rfl; rfl; exact ⟨rfl, inf_plc.trans (congrArg some (bys_size ..).symm), _, und_plc, rfl⟩; exact trs_third) | ((with_reducible apply wpM_lda' M 0 33 (20) (bys r)); rfl; rfl; rfl; exact ⟨rfl, inf_plc.trans (congrArg some (bys_size ..).symm), _, und_plc, rfl⟩; exact trs_third) | (go_at_call 143; ((with_reducible refine (l02Less_any h r _).mono ?_); rintro e w1 ⟨rfl, hb⟩; have hsz := M.size; (try (have G9 := G.later hb; clear G; have G := G9; clear G9)); have M9 := M.later hb; clear M; (try clear C); have M := M9; clear M9; have C := M.rules; simp only [List.forall_mem_cons, List.not_mem_nil, false_implies, implies_true, and_true, Ent.rules, true_and] at C)))
      go_ret
      exact ⟨rfl, M.below⟩
end Go.Proofs.Ytjdfjlgjpjgnhaa
