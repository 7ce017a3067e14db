/- Triples of permutations: contracts. -/
import Derived.Test.YtinjjaoikofkdaaC9
import Derived.Test.YtinjjaoikofkdaaK3
import Derived.Test.YtinjjaoikofkdaaRT
namespace Go.Proofs.Ytinjjaoikofkdaa
set_option linter.unusedSimpArgs false
set_option linter.unusedVariables false
open Go.RowKit

theorem zero_trp (w : World) : (zeroValue 122).run Try.prog w = .ok (.agg (trs (fun _ => 0) (fun _ => 0) (fun _ => 0))) w := by kernel_rfl
theorem und_trp : Try.prog.underlying 122 = some (.struct (Try.prog.fieldsOf 122)) := by kernel_rfl
theorem inf_trp : (Try.prog.info? 122).map (·.size) = some 30 := by kernel_rfl
theorem build_trp (f g h : Nat → Nat) (w : World) : (Instr.build 122 #[(0, .agg (bys f)), (1, .agg (bys g)), (2, .agg (bys h))]).run Try.prog w = .ok (.agg (trs f g h)) w := by kernel_rfl

set_option maxRecDepth 100000 in
set_option maxHeartbeats 600000 in
theorem thenTriples_any (f g h p q r : Nat → Nat) (n : Int) (w : World) (h0 : 0 ≤ n) (h1 : n ≤ 10) (hf : ∀ i : Nat, (i : Int) < n → f i < 10) (hg : ∀ i : Nat, (i : Int) < n → g i < 10) (hh : ∀ i : Nat, (i : Int) < n → h i < 10) :
    Calls Try.prog 98 #[.agg (trs f g h), .agg (trs p q r), .int .i64 n] w fun e w' => e = .returned (.agg (trs (thTo f p n.toNat) (thTo g q n.toNat) (thTo h r n.toNat))) ∧ Below w.heap.size w w' := by
  have hz := zero_trp
  have HF := Hid2.mk hf
  have HG := Hid2.mk hg
  have HH := Hid2.mk hh
  clear hf hg hh
  have hB := ((((Below.refl w.heap.size w).alloc (by simp) (.cells (trs f g h) 122)).alloc (by simp) (.cells (trs p q r) 122)).alloc (by simp; omega) (.cells (trs (fun _ => 0) (fun _ => 0) (fun _ => 0)) 122))
  have a1 := ((blk_new w (trs f g h) 122 w.heap.size rfl).alloc (.cells (trs p q r) 122)).alloc (.cells (trs (fun _ => 0) (fun _ => 0) (fun _ => 0)) 122)
  have a2 := ((blk_new (w.alloc (.cells (trs f g h) 122)) (trs p q r) 122 (w.heap.size + 1) (by simp))).alloc (.cells (trs (fun _ => 0) (fun _ => 0) (fun _ => 0)) 122)
  have a3 := blk_new ((w.alloc (.cells (trs f g h) 122)).alloc (.cells (trs p q r) 122)) (trs (fun _ => 0) (fun _ => 0) (fun _ => 0)) 122 (w.heap.size + 1 + 1) (by simp)
  go_enter Try.func98, Try.ntmps98
  go_wp2
  apply wp_region_text_tail 19 (fun w' => Below w.heap.size w w' ∧ blk w' w.heap.size (trs f g h) 122 ∧ blk w' (w.heap.size + 1) (trs p q r) 122 ∧ blk w' (w.heap.size + 1 + 1) (trs (fun _ => 0) (fun _ => 0) (fun _ => 0)) 122) (by kernel_rfl) (by kernel_rfl) (⟨hB.drew, a1.drew, a2.drew, a3.drew⟩); (simp only [List.take_succ_cons, List.take_zero]; repeat (first | exact wpText_nil | (apply wpText_cons; (intro w2 hS; obtain ⟨hB2, b1, b2, b3⟩ := hS; go_wp2_with (first | (refine wpList_load_part rfl 70 _ rfl (w.heap.size) (0) rfl (bys f) _ und_plc rfl inf_plc (cells_of_blk b1 _ _ trs_first) ?_) | (refine wpList_load_part rfl 70 _ rfl (w.heap.size) (10) rfl (bys g) _ und_plc rfl inf_plc (cells_of_blk b1 _ _ trs_second) ?_) | (refine wpList_load_part rfl 70 _ rfl (w.heap.size) (20) rfl (bys h) _ und_plc rfl inf_plc (cells_of_blk b1 _ _ trs_third) ?_) | (refine wpList_load_part rfl 70 _ rfl (w.heap.size + 1) (0) rfl (bys p) _ und_plc rfl inf_plc (cells_of_blk b2 _ _ trs_first) ?_) | (refine wpList_load_part rfl 70 _ rfl (w.heap.size + 1) (10) rfl (bys q) _ und_plc rfl inf_plc (cells_of_blk b2 _ _ trs_second) ?_) | (refine wpList_load_part rfl 70 _ rfl (w.heap.size + 1) (20) rfl (bys r) _ und_plc rfl inf_plc (cells_of_blk b2 _ _ trs_third) ?_) | (go_at_call 113; ((with_reducible refine (then_any _ _ _ _ h0 h1 HF.out).mono ?_); rintro e w1 ⟨rfl, hb⟩)) | (go_at_call 113; ((with_reducible refine (then_any _ _ _ _ h0 h1 HG.out).mono ?_); rintro e w1 ⟨rfl, hb⟩)) | (go_at_call 113; ((with_reducible refine (then_any _ _ _ _ h0 h1 HH.out).mono ?_); rintro e w1 ⟨rfl, hb⟩)) | (refine wpList_build 122 _ rfl rfl [(0, .agg (bys (thTo f p n.toNat))), (1, .agg (bys (thTo g q n.toNat))), (2, .agg (bys (thTo h r n.toNat)))] rfl _ (build_trp _ _ _ _) ?_)); (first | exact ⟨rfl, rfl, hB2, b1, b2, b3⟩ | exact ⟨rfl, rfl, below_self hB2 hb, b1.later hb, b2.later hb, b3.later hb⟩)); rfl)))
  (intro w2 hS; simp only [List.drop_succ_cons, List.drop_zero]; obtain ⟨hB2, b1, b2, b3⟩ := hS)
  go_wp2_with (first | (refine wpList_store_row rfl 122 _ _ rfl _ rfl _ rfl inf_trp _ _ (b3) (by simp [trs_size]) (flat_trs _ _ _) ?_))
  refine bodyPost_ret (v := .agg (trs (thTo f p n.toNat) (thTo g q n.toNat) (thTo h r n.toNat))) (by exact results_part rfl _ _ _ _ _ _ rfl und_trp rfl inf_trp (cells_of_blk0 (blk_put b3 _))) rfl ?_
  exact ⟨rfl, below_put hB2 (by omega) _ _⟩

set_option maxRecDepth 100000 in
set_option maxHeartbeats 600000 in
theorem backTriple_any (f g h : Nat → Nat) (n : Int) (w : World) (h0 : 0 ≤ n) (h1 : n ≤ 10) (hf : ∀ i : Nat, (i : Int) < n → f i < 10) (hg : ∀ i : Nat, (i : Int) < n → g i < 10) (hh : ∀ i : Nat, (i : Int) < n → h i < 10) :
    Calls Try.prog 99 #[.agg (trs f g h), .int .i64 n] w fun e w' => e = .returned (.agg (trs (bkTo f n.toNat) (bkTo g n.toNat) (bkTo h n.toNat))) ∧ Below w.heap.size w w' := by
  have hz := zero_trp
  have HF := Hid2.mk hf
  have HG := Hid2.mk hg
  have HH := Hid2.mk hh
  clear hf hg hh
  have hB := (((Below.refl w.heap.size w).alloc (by simp) (.cells (trs f g h) 122)).alloc (by simp) (.cells (trs (fun _ => 0) (fun _ => 0) (fun _ => 0)) 122))
  have a1 := (blk_new w (trs f g h) 122 w.heap.size rfl).alloc (.cells (trs (fun _ => 0) (fun _ => 0) (fun _ => 0)) 122)
  have a3 := blk_new (w.alloc (.cells (trs f g h) 122)) (trs (fun _ => 0) (fun _ => 0) (fun _ => 0)) 122 (w.heap.size + 1) (by simp)
  go_enter Try.func99, Try.ntmps99
  go_wp2
  apply wp_region_text_tail 13 (fun w' => Below w.heap.size w w' ∧ blk w' w.heap.size (trs f g h) 122 ∧ blk w' (w.heap.size + 1) (trs (fun _ => 0) (fun _ => 0) (fun _ => 0)) 122) (by kernel_rfl) (by kernel_rfl) (⟨hB.drew, a1.drew, a3.drew⟩); (simp only [List.take_succ_cons, List.take_zero]; repeat (first | exact wpText_nil | (apply wpText_cons; (intro w2 hS; obtain ⟨hB2, b1, b3⟩ := hS; go_wp2_with (first | (refine wpList_load_part rfl 70 _ rfl (w.heap.size) (0) rfl (bys f) _ und_plc rfl inf_plc (cells_of_blk b1 _ _ trs_first) ?_) | (refine wpList_load_part rfl 70 _ rfl (w.heap.size) (10) rfl (bys g) _ und_plc rfl inf_plc (cells_of_blk b1 _ _ trs_second) ?_) | (refine wpList_load_part rfl 70 _ rfl (w.heap.size) (20) rfl (bys h) _ und_plc rfl inf_plc (cells_of_blk b1 _ _ trs_third) ?_) | (go_at_call 117; ((with_reducible refine (back_any _ _ _ h0 h1 HF.out).mono ?_); rintro e w1 ⟨rfl, hb⟩)) | (go_at_call 117; ((with_reducible refine (back_any _ _ _ h0 h1 HG.out).mono ?_); rintro e w1 ⟨rfl, hb⟩)) | (go_at_call 117; ((with_reducible refine (back_any _ _ _ h0 h1 HH.out).mono ?_); rintro e w1 ⟨rfl, hb⟩)) | (refine wpList_build 122 _ rfl rfl [(0, .agg (bys (bkTo f n.toNat))), (1, .agg (bys (bkTo g n.toNat))), (2, .agg (bys (bkTo h n.toNat)))] rfl _ (build_trp _ _ _ _) ?_)); (first | exact ⟨rfl, rfl, hB2, b1, b3⟩ | exact ⟨rfl, rfl, below_self hB2 hb, b1.later hb, b3.later hb⟩)); rfl)))
  (intro w2 hS; simp only [List.drop_succ_cons, List.drop_zero]; obtain ⟨hB2, b1, b3⟩ := hS)
  go_wp2_with (first | (refine wpList_store_row rfl 122 _ _ rfl _ rfl _ rfl inf_trp _ _ (b3) (by simp [trs_size]) (flat_trs _ _ _) ?_))
  refine bodyPost_ret (v := .agg (trs (bkTo f n.toNat) (bkTo g n.toNat) (bkTo h n.toNat))) (by exact results_part rfl _ _ _ _ _ _ rfl und_trp rfl inf_trp (cells_of_blk0 (blk_put b3 _))) rfl ?_
  exact ⟨rfl, below_put hB2 (by omega) _ _⟩

end Go.Proofs.Ytinjjaoikofkdaa
