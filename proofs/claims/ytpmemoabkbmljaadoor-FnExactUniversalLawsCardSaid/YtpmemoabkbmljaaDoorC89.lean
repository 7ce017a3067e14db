/- An identity is read from its text, for the reference: a contract. -/
import Derived.Test.YtpmemoabkbmljaaDoorC88
namespace Go.Proofs.YtpmemoabkbmljaaDoor
set_option linter.unusedSimpArgs false
set_option linter.unusedVariables false
open Go Go.RowKit

section
variable {P : Program} {D : Nat → Prop} {w0 w : World} {a af : Act} {Q : Exit → Act → World → Prop}
/-- ONE OPERATION FLOATS; what is known before and behind it is told by F. -/
theorem wp_region_mmfs {id : Nat} {l : List Oper} (F : List Value → List Ent) (M : Mm D w0 w (F [])) (I : List Nat) (s1 n : Nat) (o1 : Oper) (hm : P.follows .mixedOrders = true) (hB : newI l.toArray I [s1] n = true) (h1 : l[s1]? = some o1) (hg1 : o1.guard = none)
    (ht : wpTextG P (fun g w => Mm D w0 w (F g)) l.toArray (I.filterMap fun i => l[i]?) a af) (hA : ∀ w, Mm D w0 w (F []) → yield P o1 af w fun u w' => Mm D w0 w' (F [u]))
    (hQ : ∀ v w', Mm D w0 w' (F [v]) → wpList P l.toArray Q (l.drop n) (af.put o1.dst v) w') : (Code.region id l.toArray true).wp P Q a w :=
  wp_region_float1 I s1 n o1 (fun g w => Mm D w0 w (F g)) hm hB h1 hg1 hA M.drew ht hQ
end
/-- A box that is written by the floating operation. -/
def fBox (b t : Nat) (z f : Array Value) (L : List Ent) : List Value → List Ent := fun g => .box b (if g.isEmpty then z else f) t :: L

set_option maxRecDepth 100000 in
set_option maxHeartbeats 8000000 in
theorem l03Read_any (l : List Nat) (hlm : l.length ≤ maxLen) (hb : Byts l) (w : World) : Calls Tryd.prog 43 #[.string (str l)] w (RdIPost (rdS l) w) := by
  have M := Mm.start no w
  have hsz := str_size l
  have hm : l.length ≤ 9223372036854775807 := Nat.le_trans hlm (by decide)
  have HR := Hid2.mk (show rdS l = (if 320 < l.length then none else match sideOf l (opK l l.length) 0 with | none => none | some (a, k1) => if l.getD k1 0 ≠ 61 then none else match sideOf l (opK l l.length) (k1 + 1) with | none => none | some (b, k2) => if k2 = l.length ∧ isId a b = true ∧ idT a b = l then some (a, b) else none) from rfl)
  clear hlm
  generalize rdS l = res at HR ⊢
  by_cases hlen : 320 < l.length
  · have h1 : (320 : Int) < (l.length : Int) := by omega
    have hr := HR.out
    rw [if_pos hlen] at hr
    subst hr
    clear HR hb
    go_enter Tryd.func43, Tryd.ntmps43
    go_wp2_with (first | ((with_reducible apply wpM_alloc' M 49 (idV none 0 none 0 0 0)); rfl; exact ⟨rfl, _, zero_idn _, rfl⟩; clear M; (try clear C); intro bz w9 h_bz M; have C := M.ruleAll; simp only [Go.Proofs.YtpmemoabkbmljaaDoor.ruleAll] at C) | (refine wpList_build 49 _ rfl rfl [] rfl _ (build_id0 _) ?_) | ((with_reducible apply wpM_sta' M 0 49 (idV none 0 none 0 0 0)); rfl; rfl; rfl; rfl; (first | exact .inl (by assumption) | exact .inr rfl | exact .inr (by assumption)); exact ⟨rfl, inf_idn.trans (congrArg some (idv_size ..).symm), flat_idv _ _ _ _ _ _⟩; (simp only [entCells, List.getElem?_cons_zero, List.getElem?_cons_succ, idv_size, idv_size]); clear M; (try clear C); intro w9 M; simp only [List.set_cons_zero, List.set_cons_succ, entBlk, entT, List.getElem?_cons_zero, List.getElem?_cons_succ] at M; have C := M.ruleAll; simp only [Go.Proofs.YtpmemoabkbmljaaDoor.ruleAll] at C))
    refine bodyPost_ret (v := .tuple #[.agg (idV none 0 none 0 0 0), .bool false]) (by exact results_part2 rfl _ _ _ _ (idV none 0 none 0 0 0) _ rfl und_idn rfl inf_idn (cells_of_blk0 (M.box 0 rfl)) _ rfl) rfl ?_
    exact ⟨_, _, _, _, _, _, rfl, M.below⟩
  · have h1 : ¬ (320 : Int) < (l.length : Int) := by omega
    have hl : l.length ≤ 1000 := by omega
    have HS1 := Hid2.mk (show ∀ w1, Calls Tryd.prog 61 #[.string (str l), .int .i64 0] w1 (SdPost 0 (sideOf l (opK l l.length) 0) w1) from fun w1 => side_any l hl hb 0 (Nat.zero_le _) w1)
    have b1 := sideOf_b (opK_b l l.length) 0
    have HR2 := Hid2.mk (show res = _ from HR.out.trans (if_neg hlen))
    have HB2 := Hid2.mk (fun k => sideOf_b (opK_b l l.length) k)
    have HS2 := Hid2.mk (show ∀ k : Nat, k + 1 ≤ l.length → ∀ w1, Calls Tryd.prog 61 #[.string (str l), .int .i64 ((k : Int) + 1)] w1 (SdPost (k + 1) (sideOf l (opK l l.length) (k + 1)) w1) from fun k h w1 => by have := side_any l hl hb (k + 1) h w1; rwa [show ((k + 1 : Nat) : Int) = (k : Int) + 1 by omega] at this)
    clear HR hlen
    generalize sideOf l (opK l l.length) = side at *
    rcases hs1 : side 0 with _ | ⟨xs, k1⟩
    · rw [hs1] at HS1 HR2
      have hr : res = none := HR2.out
      subst hr
      clear HR2 HS2 HB2 b1 hs1
      go_enter Tryd.func43, Tryd.ntmps43
      go_wp2_with (first | ((with_reducible apply wpM_alloc' M 49 (idV none 0 none 0 0 0)); rfl; exact ⟨rfl, _, zero_idn _, rfl⟩; clear M; (try clear C); intro bz w9 h_bz M; have C := M.ruleAll; simp only [Go.Proofs.YtpmemoabkbmljaaDoor.ruleAll] at C) | (go_at_call 61; fail))
      refine (HS1.out _).mono ?_
      rintro e w1 ⟨rfl, hb⟩
      have M9 := M.later hb
      clear M; (try clear C)
      have M := M9
      clear M9 hb
      have C := M.ruleAll; simp only [Go.Proofs.YtpmemoabkbmljaaDoor.ruleAll] at C
      go_wp2_with (first | (refine wpList_build 49 _ rfl rfl [] rfl _ (build_id0 _) ?_) | ((with_reducible apply wpM_sta' M 0 49 (idV none 0 none 0 0 0)); rfl; rfl; rfl; rfl; (first | exact .inl (by assumption) | exact .inr rfl | exact .inr (by assumption)); exact ⟨rfl, inf_idn.trans (congrArg some (idv_size ..).symm), flat_idv _ _ _ _ _ _⟩; (simp only [entCells, List.getElem?_cons_zero, List.getElem?_cons_succ, idv_size, idv_size]); clear M; (try clear C); intro w9 M; simp only [List.set_cons_zero, List.set_cons_succ, entBlk, entT, List.getElem?_cons_zero, List.getElem?_cons_succ] at M; have C := M.ruleAll; simp only [Go.Proofs.YtpmemoabkbmljaaDoor.ruleAll] at C))
      refine bodyPost_ret (v := .tuple #[.agg (idV none 0 none 0 0 0), .bool false]) (by exact results_part2 rfl _ _ _ _ (idV none 0 none 0 0 0) _ rfl und_idn rfl inf_idn (cells_of_blk0 (M.box 0 rfl)) _ rfl) rfl ?_
      exact ⟨_, _, _, _, _, _, rfl, M.below⟩
    · obtain ⟨hk1, _, hxl⟩ := b1 xs k1 hs1
      rw [hs1] at HS1 HR2
      have HR3 := Hid2.mk (show res = (if l.getD k1 0 ≠ 61 then none else match side (k1 + 1) with | none => none | some (b, k2) => if k2 = l.length ∧ isId xs b = true ∧ idT xs b = l then some (xs, b) else none) from HR2.out)
      clear HR2 b1 hs1
      go_enter Tryd.func43, Tryd.ntmps43
      go_wp2_with (first | ((with_reducible apply wpM_alloc' M 49 (idV none 0 none 0 0 0)); rfl; exact ⟨rfl, _, zero_idn _, rfl⟩; clear M; (try clear C); intro bz w9 h_bz M; have C := M.ruleAll; simp only [Go.Proofs.YtpmemoabkbmljaaDoor.ruleAll] at C) | (go_at_call 61; fail))
      refine (HS1.out _).mono ?_
      rintro e w1 ⟨v, rfl, M'⟩
      have M9 := M.joinRow M'
      obtain ⟨pp1, cap1, rfl⟩ := own_form (M9.row 0 rfl)
      clear M; (try clear C)
      have M := M9
      clear M9 M' HS1
      have C := M.ruleAll; simp only [Go.Proofs.YtpmemoabkbmljaaDoor.ruleAll] at C
      by_cases hc : l.getD k1 0 = 61
      · have hlt : k1 < l.length := getD_lt (by omega)
        have h2 : ¬ ((l.length : Int) ≤ (k1 : Int)) := by omega
        have hix : ∀ w : World, (Instr.index 9 (.string (str l)) (.int .i64 (k1 : Int))).run Tryd.prog w = .ok (.int .u8 61) w := fun w => by have := ix_str hb k1 hlt w; rw [hc] at this; exact this
        have HR4 := Hid2.mk (show res = _ from HR3.out.trans (if_neg fun h => h hc))
        have HS3 := Hid2.mk (HS2.out k1 (by omega))
        have b2 := HB2.out (k1 + 1)
        clear HR3 HS2 HB2 hc
        rcases hs2 : side (k1 + 1) with _ | ⟨ys, k2⟩
        · rw [hs2] at HS3 HR4
          have hr : res = none := HR4.out
          subst hr
          clear HR4 b2 hs2
          go_wp2_with (first | (go_at_call 61; fail))
          refine (HS3.out _).mono ?_
          rintro e w1 ⟨rfl, hb⟩
          have M9 := M.later hb
          clear M; (try clear C)
          have M := M9
          clear M9 hb
          have C := M.ruleAll; simp only [Go.Proofs.YtpmemoabkbmljaaDoor.ruleAll] at C
          go_wp2_with (first | (refine wpList_build 49 _ rfl rfl [(0, .slice pp1 xs.length cap1), (1, .slice none 0 0)] rfl _ (build_id2 _ _ _ _ _ _ _) ?_) | ((with_reducible apply wpM_alloc' M 49 (idV none 0 none 0 0 0)); rfl; exact ⟨rfl, _, zero_idn _, rfl⟩; clear M; (try clear C); intro bo w9 h_bo M; have C := M.ruleAll; simp only [Go.Proofs.YtpmemoabkbmljaaDoor.ruleAll] at C) | ((with_reducible apply wpM_sta' M 0 49 (idV pp1 cap1 none 0 xs.length 0)); rfl; rfl; rfl; rfl; (first | exact .inl (by assumption) | exact .inr rfl | exact .inr (by assumption)); exact ⟨rfl, inf_idn.trans (congrArg some (idv_size ..).symm), flat_idv _ _ _ _ _ _⟩; (simp only [entCells, List.getElem?_cons_zero, List.getElem?_cons_succ, idv_size, idv_size]); clear M; (try clear C); intro w9 M; simp only [List.set_cons_zero, List.set_cons_succ, entBlk, entT, List.getElem?_cons_zero, List.getElem?_cons_succ] at M; have C := M.ruleAll; simp only [Go.Proofs.YtpmemoabkbmljaaDoor.ruleAll] at C))
          have M9 : Mm no w _ (fBox bz 49 (idV none 0 none 0 0 0) (idV pp1 cap1 none 0 xs.length 0) [.box bo (idV pp1 cap1 none 0 xs.length 0) 49, .row w.heap.size (.slice pp1 xs.length cap1) xs.length (u8s xs) 5 1] []) := M.sub [2, 0, 1] (by decide)
          clear M
          try clear C
          apply wp_region_mmfs (fBox bz 49 (idV none 0 none 0 0 0) (idV pp1 cap1 none 0 xs.length 0) [.box bo (idV pp1 cap1 none 0 xs.length 0) 49, .row w.heap.size (.slice pp1 xs.length cap1) xs.length (u8s xs) 5 1]) M9 [0, 1, 2, 3, 4, 5, 6, 7, 8, 9, 10, 11, 12, 13, 14, 15, 16, 17] 18 19 _ (by kernel_rfl) (by kernel_rfl) rfl rfl
          case ht => (repeat (first | exact wpTextG_nil | (apply wpTextG_cons; (intro g9 w2 M0; have M : Mm no w w2 (.box bz (if g9.isEmpty then idV none 0 none 0 0 0 else idV pp1 cap1 none 0 xs.length 0) 49 :: [.box bo (idV pp1 cap1 none 0 xs.length 0) 49, .row w.heap.size (.slice pp1 xs.length cap1) xs.length (u8s xs) 5 1]) := M0; clear M0; go_wp2_with (first | ((with_reducible apply wpM_lda' M 1 49 0 (idV pp1 cap1 none 0 xs.length 0)); rfl; rfl; rfl; exact ⟨rfl, inf_idn.trans (congrArg some (idv_size ..).symm), _, und_idn, rfl⟩; exact whole_of rfl)); exact ⟨rfl, rfl, M⟩); rfl)))
          case hA =>
            intro w2 M0
            have M : Mm no w w2 (.box bz (idV none 0 none 0 0 0) 49 :: [.box bo (idV pp1 cap1 none 0 xs.length 0) 49, .row w.heap.size (.slice pp1 xs.length cap1) xs.length (u8s xs) 5 1]) := M0
            clear M0
            refine yield_store (ops := #[]) (by exact rfl) (by exact rfl) ?_
            go_wp2_with (first | ((with_reducible apply wpM_sta' M 0 49 (idV pp1 cap1 none 0 xs.length 0)); rfl; rfl; rfl; rfl; (first | exact .inl (by assumption) | exact .inr rfl | exact .inr (by assumption)); exact ⟨rfl, inf_idn.trans (congrArg some (idv_size ..).symm), flat_idv _ _ _ _ _ _⟩; (simp only [entCells, List.getElem?_cons_zero, List.getElem?_cons_succ, idv_size, idv_size]); clear M; (try clear C); intro w9 M; simp only [List.set_cons_zero, List.set_cons_succ, entBlk, entT, List.getElem?_cons_zero, List.getElem?_cons_succ] at M; have C := M.ruleAll; simp only [Go.Proofs.YtpmemoabkbmljaaDoor.ruleAll] at C))
            exact M
          clear M9
          intro v w2 M0
          have M : Mm no w w2 (.box bz (idV pp1 cap1 none 0 xs.length 0) 49 :: [.box bo (idV pp1 cap1 none 0 xs.length 0) 49, .row w.heap.size (.slice pp1 xs.length cap1) xs.length (u8s xs) 5 1]) := M0
          clear M0
          simp only [List.drop_succ_cons, List.drop_zero]
          go_wp2
          refine bodyPost_ret (v := .tuple #[.agg (idV pp1 cap1 none 0 xs.length 0), .bool false]) (by exact results_part2 rfl _ _ _ _ (idV pp1 cap1 none 0 xs.length 0) _ rfl und_idn rfl inf_idn (cells_of_blk0 (M.box 0 rfl)) _ rfl) rfl ?_
          exact ⟨_, _, _, _, _, _, rfl, M.below⟩
        · obtain ⟨hk2, _, hyl⟩ := b2 ys k2 hs2
          rw [hs2] at HS3 HR4
          have HR5 := Hid2.mk (show res = (if k2 = l.length ∧ isId xs ys = true ∧ idT xs ys = l then some (xs, ys) else none) from HR4.out)
          clear HR4 b2 hs2
          go_wp2_with (first | (go_at_call 61; fail))
          refine (HS3.out _).mono ?_
          rintro e w1 ⟨v, rfl, M'⟩
          have M9 := M.joinRow M'
          obtain ⟨pp2, cap2, rfl⟩ := own_form (M9.row 0 rfl)
          clear M; (try clear C)
          have M := M9
          clear M9 M' HS3
          have C := M.ruleAll; simp only [Go.Proofs.YtpmemoabkbmljaaDoor.ruleAll] at C
          by_cases he : k2 = l.length
          · have he' : ((k2 : Int) == (l.length : Int)) = true := by rw [he]; simp
            have HID := Hid2.mk (fun w1 r1 r2 => l03Both_any xs ys (by omega) (by omega) w1 pp1 pp2 cap1 cap2 r1 r2)
            cases hid : isId xs ys with
            | false =>
              rw [hid] at HID
              have hr := HR5.out
              rw [if_neg (by rw [hid]; rintro ⟨_, h, _⟩; cases h)] at hr
              subst hr
              clear HR5 hid he
              go_wp2_with (first | (refine wpList_build 49 _ rfl rfl [(0, .slice pp1 xs.length cap1), (1, .slice pp2 ys.length cap2)] rfl _ (build_id2 _ _ _ _ _ _ _) ?_) | ((with_reducible apply wpM_alloc' M 49 (idV none 0 none 0 0 0)); rfl; exact ⟨rfl, _, zero_idn _, rfl⟩; clear M; (try clear C); intro bo w9 h_bo M; have C := M.ruleAll; simp only [Go.Proofs.YtpmemoabkbmljaaDoor.ruleAll] at C) | ((with_reducible apply wpM_sta' M 0 49 (idV pp1 cap1 pp2 cap2 xs.length ys.length)); rfl; rfl; rfl; rfl; (first | exact .inl (by assumption) | exact .inr rfl | exact .inr (by assumption)); exact ⟨rfl, inf_idn.trans (congrArg some (idv_size ..).symm), flat_idv _ _ _ _ _ _⟩; (simp only [entCells, List.getElem?_cons_zero, List.getElem?_cons_succ, idv_size, idv_size]); clear M; (try clear C); intro w9 M; simp only [List.set_cons_zero, List.set_cons_succ, entBlk, entT, List.getElem?_cons_zero, List.getElem?_cons_succ] at M; have C := M.ruleAll; simp only [Go.Proofs.YtpmemoabkbmljaaDoor.ruleAll] at C))
              have M9 : Mm no w _ (fBox bz 49 (idV none 0 none 0 0 0) (idV pp1 cap1 pp2 cap2 xs.length ys.length) [.box bo (idV pp1 cap1 pp2 cap2 xs.length ys.length) 49, .row w.heap.size (.slice pp2 ys.length cap2) ys.length (u8s ys) 5 1, .row w.heap.size (.slice pp1 xs.length cap1) xs.length (u8s xs) 5 1] []) := M.sub [3, 0, 1, 2] (by decide)
              clear M
              try clear C
              apply wp_region_mmfs (fBox bz 49 (idV none 0 none 0 0 0) (idV pp1 cap1 pp2 cap2 xs.length ys.length) [.box bo (idV pp1 cap1 pp2 cap2 xs.length ys.length) 49, .row w.heap.size (.slice pp2 ys.length cap2) ys.length (u8s ys) 5 1, .row w.heap.size (.slice pp1 xs.length cap1) xs.length (u8s xs) 5 1]) M9 [0, 1, 2, 3, 4, 5, 6, 7, 8, 9, 10, 11, 12, 13, 14, 15, 16, 17] 18 19 _ (by kernel_rfl) (by kernel_rfl) rfl rfl
              case ht => (repeat (first | exact wpTextG_nil | (apply wpTextG_cons; (intro g9 w2 M0; have M : Mm no w w2 (.box bz (if g9.isEmpty then idV none 0 none 0 0 0 else idV pp1 cap1 pp2 cap2 xs.length ys.length) 49 :: [.box bo (idV pp1 cap1 pp2 cap2 xs.length ys.length) 49, .row w.heap.size (.slice pp2 ys.length cap2) ys.length (u8s ys) 5 1, .row w.heap.size (.slice pp1 xs.length cap1) xs.length (u8s xs) 5 1]) := M0; clear M0; go_wp2_with (first | ((with_reducible apply wpM_lda' M 1 49 0 (idV pp1 cap1 pp2 cap2 xs.length ys.length)); rfl; rfl; rfl; exact ⟨rfl, inf_idn.trans (congrArg some (idv_size ..).symm), _, und_idn, rfl⟩; exact whole_of rfl) | (go_at_call 62; ((with_reducible refine (HID.out _ (u8_rdq rfl (M.row 3 rfl)) (u8_rdq rfl (M.row 2 rfl))).mono ?_); rintro e w5 ⟨rfl, hb⟩; have hsz := M.size; (try (have G9 := G.later hb; clear G; have G := G9; clear G9)); have M9 := M.later hb; clear M; (try clear C); have M := M9; clear M9; have C := M.ruleAll; simp only [Go.Proofs.YtpmemoabkbmljaaDoor.ruleAll] at C))); exact ⟨rfl, rfl, M⟩); rfl)))
              case hA =>
                intro w2 M0
                have M : Mm no w w2 (.box bz (idV none 0 none 0 0 0) 49 :: [.box bo (idV pp1 cap1 pp2 cap2 xs.length ys.length) 49, .row w.heap.size (.slice pp2 ys.length cap2) ys.length (u8s ys) 5 1, .row w.heap.size (.slice pp1 xs.length cap1) xs.length (u8s xs) 5 1]) := M0
                clear M0
                refine yield_store (ops := #[]) (by exact rfl) (by exact rfl) ?_
                go_wp2_with (first | ((with_reducible apply wpM_sta' M 0 49 (idV pp1 cap1 pp2 cap2 xs.length ys.length)); rfl; rfl; rfl; rfl; (first | exact .inl (by assumption) | exact .inr rfl | exact .inr (by assumption)); exact ⟨rfl, inf_idn.trans (congrArg some (idv_size ..).symm), flat_idv _ _ _ _ _ _⟩; (simp only [entCells, List.getElem?_cons_zero, List.getElem?_cons_succ, idv_size, idv_size]); clear M; (try clear C); intro w9 M; simp only [List.set_cons_zero, List.set_cons_succ, entBlk, entT, List.getElem?_cons_zero, List.getElem?_cons_succ] at M; have C := M.ruleAll; simp only [Go.Proofs.YtpmemoabkbmljaaDoor.ruleAll] at C))
                exact M
              clear M9
              intro v w2 M0
              have M : Mm no w w2 (.box bz (idV pp1 cap1 pp2 cap2 xs.length ys.length) 49 :: [.box bo (idV pp1 cap1 pp2 cap2 xs.length ys.length) 49, .row w.heap.size (.slice pp2 ys.length cap2) ys.length (u8s ys) 5 1, .row w.heap.size (.slice pp1 xs.length cap1) xs.length (u8s xs) 5 1]) := M0
              clear M0
              simp only [List.drop_succ_cons, List.drop_zero]
              go_wp2
              refine bodyPost_ret (v := .tuple #[.agg (idV pp1 cap1 pp2 cap2 xs.length ys.length), .bool false]) (by exact results_part2 rfl _ _ _ _ (idV pp1 cap1 pp2 cap2 xs.length ys.length) _ rfl und_idn rfl inf_idn (cells_of_blk0 (M.box 0 rfl)) _ rfl) rfl ?_
              exact ⟨_, _, _, _, _, _, rfl, M.below⟩
            | true =>
              rw [hid] at HID
              obtain ⟨hX, hY⟩ := isId_iff.1 hid
              have HTX := Hid2.mk (fun w1 r1 r2 => l03Shown_any xs ys hX hY w1 pp1 pp2 cap1 cap2 r1 r2)
              have hse := str_eq (idT_byts hid) hb
              by_cases heq : idT xs ys = l
              · have hse' : ((str (idT xs ys)).toList == (str l).toList) = true := by rw [hse]; exact decide_eq_true heq
                have hr := HR5.out
                rw [if_pos ⟨he, hid, heq⟩] at hr
                subst hr
                clear HR5 hid hse heq hX hY he
                generalize str (idT xs ys) = si at *
                go_wp2_with (first | (refine wpList_build 49 _ rfl rfl [(0, .slice pp1 xs.length cap1), (1, .slice pp2 ys.length cap2)] rfl _ (build_id2 _ _ _ _ _ _ _) ?_) | ((with_reducible apply wpM_alloc' M 49 (idV none 0 none 0 0 0)); rfl; exact ⟨rfl, _, zero_idn _, rfl⟩; clear M; (try clear C); intro bo w9 h_bo M; have C := M.ruleAll; simp only [Go.Proofs.YtpmemoabkbmljaaDoor.ruleAll] at C) | ((with_reducible apply wpM_sta' M 0 49 (idV pp1 cap1 pp2 cap2 xs.length ys.length)); rfl; rfl; rfl; rfl; (first | exact .inl (by assumption) | exact .inr rfl | exact .inr (by assumption)); exact ⟨rfl, inf_idn.trans (congrArg some (idv_size ..).symm), flat_idv _ _ _ _ _ _⟩; (simp only [entCells, List.getElem?_cons_zero, List.getElem?_cons_succ, idv_size, idv_size]); clear M; (try clear C); intro w9 M; simp only [List.set_cons_zero, List.set_cons_succ, entBlk, entT, List.getElem?_cons_zero, List.getElem?_cons_succ] at M; have C := M.ruleAll; simp only [Go.Proofs.YtpmemoabkbmljaaDoor.ruleAll] at C))
                have M9 : Mm no w _ (fBox bz 49 (idV none 0 none 0 0 0) (idV pp1 cap1 pp2 cap2 xs.length ys.length) [.box bo (idV pp1 cap1 pp2 cap2 xs.length ys.length) 49, .row w.heap.size (.slice pp2 ys.length cap2) ys.length (u8s ys) 5 1, .row w.heap.size (.slice pp1 xs.length cap1) xs.length (u8s xs) 5 1] []) := M.sub [3, 0, 1, 2] (by decide)
                clear M
                try clear C
                apply wp_region_mmfs (fBox bz 49 (idV none 0 none 0 0 0) (idV pp1 cap1 pp2 cap2 xs.length ys.length) [.box bo (idV pp1 cap1 pp2 cap2 xs.length ys.length) 49, .row w.heap.size (.slice pp2 ys.length cap2) ys.length (u8s ys) 5 1, .row w.heap.size (.slice pp1 xs.length cap1) xs.length (u8s xs) 5 1]) M9 [0, 1, 2, 3, 4, 5, 6, 7, 8, 9, 10, 11, 12, 13, 14, 15, 16, 17] 18 19 _ (by kernel_rfl) (by kernel_rfl) rfl rfl
                case ht => (repeat (first | exact wpTextG_nil | (apply wpTextG_cons; (intro g9 w2 M0; have M : Mm no w w2 (.box bz (if g9.isEmpty then idV none 0 none 0 0 0 else idV pp1 cap1 pp2 cap2 xs.length ys.length) 49 :: [.box bo (idV pp1 cap1 pp2 cap2 xs.length ys.length) 49, .row w.heap.size (.slice pp2 ys.length cap2) ys.length (u8s ys) 5 1, .row w.heap.size (.slice pp1 xs.length cap1) xs.length (u8s xs) 5 1]) := M0; clear M0; go_wp2_with (first | ((with_reducible apply wpM_lda' M 1 49 0 (idV pp1 cap1 pp2 cap2 xs.length ys.length)); rfl; rfl; rfl; exact ⟨rfl, inf_idn.trans (congrArg some (idv_size ..).symm), _, und_idn, rfl⟩; exact whole_of rfl) | (go_at_call 62; ((with_reducible refine (HID.out _ (u8_rdq rfl (M.row 3 rfl)) (u8_rdq rfl (M.row 2 rfl))).mono ?_); rintro e w5 ⟨rfl, hb⟩; have hsz := M.size; (try (have G9 := G.later hb; clear G; have G := G9; clear G9)); have M9 := M.later hb; clear M; (try clear C); have M := M9; clear M9; have C := M.ruleAll; simp only [Go.Proofs.YtpmemoabkbmljaaDoor.ruleAll] at C)) | (go_at_call 63; ((with_reducible refine (HTX.out _ (u8_rdq rfl (M.row 3 rfl)) (u8_rdq rfl (M.row 2 rfl))).mono ?_); rintro e w5 ⟨rfl, hb⟩; have hsz := M.size; (try (have G9 := G.later hb; clear G; have G := G9; clear G9)); have M9 := M.later hb; clear M; (try clear C); have M := M9; clear M9; have C := M.ruleAll; simp only [Go.Proofs.YtpmemoabkbmljaaDoor.ruleAll] at C))); exact ⟨rfl, rfl, M⟩); rfl)))
                case hA =>
                  intro w2 M0
                  have M : Mm no w w2 (.box bz (idV none 0 none 0 0 0) 49 :: [.box bo (idV pp1 cap1 pp2 cap2 xs.length ys.length) 49, .row w.heap.size (.slice pp2 ys.length cap2) ys.length (u8s ys) 5 1, .row w.heap.size (.slice pp1 xs.length cap1) xs.length (u8s xs) 5 1]) := M0
                  clear M0
                  refine yield_store (ops := #[]) (by exact rfl) (by exact rfl) ?_
                  go_wp2_with (first | ((with_reducible apply wpM_sta' M 0 49 (idV pp1 cap1 pp2 cap2 xs.length ys.length)); rfl; rfl; rfl; rfl; (first | exact .inl (by assumption) | exact .inr rfl | exact .inr (by assumption)); exact ⟨rfl, inf_idn.trans (congrArg some (idv_size ..).symm), flat_idv _ _ _ _ _ _⟩; (simp only [entCells, List.getElem?_cons_zero, List.getElem?_cons_succ, idv_size, idv_size]); clear M; (try clear C); intro w9 M; simp only [List.set_cons_zero, List.set_cons_succ, entBlk, entT, List.getElem?_cons_zero, List.getElem?_cons_succ] at M; have C := M.ruleAll; simp only [Go.Proofs.YtpmemoabkbmljaaDoor.ruleAll] at C))
                  exact M
                clear M9
                intro v w2 M0
                have M : Mm no w w2 (.box bz (idV pp1 cap1 pp2 cap2 xs.length ys.length) 49 :: [.box bo (idV pp1 cap1 pp2 cap2 xs.length ys.length) 49, .row w.heap.size (.slice pp2 ys.length cap2) ys.length (u8s ys) 5 1, .row w.heap.size (.slice pp1 xs.length cap1) xs.length (u8s xs) 5 1]) := M0
                clear M0
                simp only [List.drop_succ_cons, List.drop_zero]
                go_wp2
                refine bodyPost_ret (v := .tuple #[.agg (idV pp1 cap1 pp2 cap2 xs.length ys.length), .bool true]) (by exact results_part2 rfl _ _ _ _ (idV pp1 cap1 pp2 cap2 xs.length ys.length) _ rfl und_idn rfl inf_idn (cells_of_blk0 (M.box 0 rfl)) _ rfl) rfl ?_
                exact ⟨pp1, cap1, pp2, cap2, rfl, M.sub [3, 2] (by decide)⟩
              · have hse' : ((str (idT xs ys)).toList == (str l).toList) = false := by rw [hse]; exact decide_eq_false heq
                have hr := HR5.out
                rw [if_neg (fun h => heq h.2.2)] at hr
                subst hr
                clear HR5 hid hse heq hX hY he
                generalize str (idT xs ys) = si at *
                go_wp2_with (first | (refine wpList_build 49 _ rfl rfl [(0, .slice pp1 xs.length cap1), (1, .slice pp2 ys.length cap2)] rfl _ (build_id2 _ _ _ _ _ _ _) ?_) | ((with_reducible apply wpM_alloc' M 49 (idV none 0 none 0 0 0)); rfl; exact ⟨rfl, _, zero_idn _, rfl⟩; clear M; (try clear C); intro bo w9 h_bo M; have C := M.ruleAll; simp only [Go.Proofs.YtpmemoabkbmljaaDoor.ruleAll] at C) | ((with_reducible apply wpM_sta' M 0 49 (idV pp1 cap1 pp2 cap2 xs.length ys.length)); rfl; rfl; rfl; rfl; (first | exact .inl (by assumption) | exact .inr rfl | exact .inr (by assumption)); exact ⟨rfl, inf_idn.trans (congrArg some (idv_size ..).symm), flat_idv _ _ _ _ _ _⟩; (simp only [entCells, List.getElem?_cons_zero, List.getElem?_cons_succ, idv_size, idv_size]); clear M; (try clear C); intro w9 M; simp only [List.set_cons_zero, List.set_cons_succ, entBlk, entT, List.getElem?_cons_zero, List.getElem?_cons_succ] at M; have C := M.ruleAll; simp only [Go.Proofs.YtpmemoabkbmljaaDoor.ruleAll] at C))
                have M9 : Mm no w _ (fBox bz 49 (idV none 0 none 0 0 0) (idV pp1 cap1 pp2 cap2 xs.length ys.length) [.box bo (idV pp1 cap1 pp2 cap2 xs.length ys.length) 49, .row w.heap.size (.slice pp2 ys.length cap2) ys.length (u8s ys) 5 1, .row w.heap.size (.slice pp1 xs.length cap1) xs.length (u8s xs) 5 1] []) := M.sub [3, 0, 1, 2] (by decide)
                clear M
                try clear C
                apply wp_region_mmfs (fBox bz 49 (idV none 0 none 0 0 0) (idV pp1 cap1 pp2 cap2 xs.length ys.length) [.box bo (idV pp1 cap1 pp2 cap2 xs.length ys.length) 49, .row w.heap.size (.slice pp2 ys.length cap2) ys.length (u8s ys) 5 1, .row w.heap.size (.slice pp1 xs.length cap1) xs.length (u8s xs) 5 1]) M9 [0, 1, 2, 3, 4, 5, 6, 7, 8, 9, 10, 11, 12, 13, 14, 15, 16, 17] 18 19 _ (by kernel_rfl) (by kernel_rfl) rfl rfl
                case ht => (repeat (first | exact wpTextG_nil | (apply wpTextG_cons; (intro g9 w2 M0; have M : Mm no w w2 (.box bz (if g9.isEmpty then idV none 0 none 0 0 0 else idV pp1 cap1 pp2 cap2 xs.length ys.length) 49 :: [.box bo (idV pp1 cap1 pp2 cap2 xs.length ys.length) 49, .row w.heap.size (.slice pp2 ys.length cap2) ys.length (u8s ys) 5 1, .row w.heap.size (.slice pp1 xs.length cap1) xs.length (u8s xs) 5 1]) := M0; clear M0; go_wp2_with (first | ((with_reducible apply wpM_lda' M 1 49 0 (idV pp1 cap1 pp2 cap2 xs.length ys.length)); rfl; rfl; rfl; exact ⟨rfl, inf_idn.trans (congrArg some (idv_size ..).symm), _, und_idn, rfl⟩; exact whole_of rfl) | (go_at_call 62; ((with_reducible refine (HID.out _ (u8_rdq rfl (M.row 3 rfl)) (u8_rdq rfl (M.row 2 rfl))).mono ?_); rintro e w5 ⟨rfl, hb⟩; have hsz := M.size; (try (have G9 := G.later hb; clear G; have G := G9; clear G9)); have M9 := M.later hb; clear M; (try clear C); have M := M9; clear M9; have C := M.ruleAll; simp only [Go.Proofs.YtpmemoabkbmljaaDoor.ruleAll] at C)) | (go_at_call 63; ((with_reducible refine (HTX.out _ (u8_rdq rfl (M.row 3 rfl)) (u8_rdq rfl (M.row 2 rfl))).mono ?_); rintro e w5 ⟨rfl, hb⟩; have hsz := M.size; (try (have G9 := G.later hb; clear G; have G := G9; clear G9)); have M9 := M.later hb; clear M; (try clear C); have M := M9; clear M9; have C := M.ruleAll; simp only [Go.Proofs.YtpmemoabkbmljaaDoor.ruleAll] at C))); exact ⟨rfl, rfl, M⟩); rfl)))
                case hA =>
                  intro w2 M0
                  have M : Mm no w w2 (.box bz (idV none 0 none 0 0 0) 49 :: [.box bo (idV pp1 cap1 pp2 cap2 xs.length ys.length) 49, .row w.heap.size (.slice pp2 ys.length cap2) ys.length (u8s ys) 5 1, .row w.heap.size (.slice pp1 xs.length cap1) xs.length (u8s xs) 5 1]) := M0
                  clear M0
                  refine yield_store (ops := #[]) (by exact rfl) (by exact rfl) ?_
                  go_wp2_with (first | ((with_reducible apply wpM_sta' M 0 49 (idV pp1 cap1 pp2 cap2 xs.length ys.length)); rfl; rfl; rfl; rfl; (first | exact .inl (by assumption) | exact .inr rfl | exact .inr (by assumption)); exact ⟨rfl, inf_idn.trans (congrArg some (idv_size ..).symm), flat_idv _ _ _ _ _ _⟩; (simp only [entCells, List.getElem?_cons_zero, List.getElem?_cons_succ, idv_size, idv_size]); clear M; (try clear C); intro w9 M; simp only [List.set_cons_zero, List.set_cons_succ, entBlk, entT, List.getElem?_cons_zero, List.getElem?_cons_succ] at M; have C := M.ruleAll; simp only [Go.Proofs.YtpmemoabkbmljaaDoor.ruleAll] at C))
                  exact M
                clear M9
                intro v w2 M0
                have M : Mm no w w2 (.box bz (idV pp1 cap1 pp2 cap2 xs.length ys.length) 49 :: [.box bo (idV pp1 cap1 pp2 cap2 xs.length ys.length) 49, .row w.heap.size (.slice pp2 ys.length cap2) ys.length (u8s ys) 5 1, .row w.heap.size (.slice pp1 xs.length cap1) xs.length (u8s xs) 5 1]) := M0
                clear M0
                simp only [List.drop_succ_cons, List.drop_zero]
                go_wp2
                refine bodyPost_ret (v := .tuple #[.agg (idV pp1 cap1 pp2 cap2 xs.length ys.length), .bool false]) (by exact results_part2 rfl _ _ _ _ (idV pp1 cap1 pp2 cap2 xs.length ys.length) _ rfl und_idn rfl inf_idn (cells_of_blk0 (M.box 0 rfl)) _ rfl) rfl ?_
                exact ⟨_, _, _, _, _, _, rfl, M.below⟩
          · have he' : ((k2 : Int) == (l.length : Int)) = false := by simp; omega
            have hr := HR5.out
            rw [if_neg (fun h => he h.1)] at hr
            subst hr
            clear HR5 he
            go_wp2_with (first | (refine wpList_build 49 _ rfl rfl [(0, .slice pp1 xs.length cap1), (1, .slice pp2 ys.length cap2)] rfl _ (build_id2 _ _ _ _ _ _ _) ?_) | ((with_reducible apply wpM_alloc' M 49 (idV none 0 none 0 0 0)); rfl; exact ⟨rfl, _, zero_idn _, rfl⟩; clear M; (try clear C); intro bo w9 h_bo M; have C := M.ruleAll; simp only [Go.Proofs.YtpmemoabkbmljaaDoor.ruleAll] at C) | ((with_reducible apply wpM_sta' M 0 49 (idV pp1 cap1 pp2 cap2 xs.length ys.length)); rfl; rfl; rfl; rfl; (first | exact .inl (by assumption) | exact .inr rfl | exact .inr (by assumption)); exact ⟨rfl, inf_idn.trans (congrArg some (idv_size ..).symm), flat_idv _ _ _ _ _ _⟩; (simp only [entCells, List.getElem?_cons_zero, List.getElem?_cons_succ, idv_size, idv_size]); clear M; (try clear C); intro w9 M; simp only [List.set_cons_zero, List.set_cons_succ, entBlk, entT, List.getElem?_cons_zero, List.getElem?_cons_succ] at M; have C := M.ruleAll; simp only [Go.Proofs.YtpmemoabkbmljaaDoor.ruleAll] at C))
            have M9 : Mm no w _ (fBox bz 49 (idV none 0 none 0 0 0) (idV pp1 cap1 pp2 cap2 xs.length ys.length) [.box bo (idV pp1 cap1 pp2 cap2 xs.length ys.length) 49, .row w.heap.size (.slice pp2 ys.length cap2) ys.length (u8s ys) 5 1, .row w.heap.size (.slice pp1 xs.length cap1) xs.length (u8s xs) 5 1] []) := M.sub [3, 0, 1, 2] (by decide)
            clear M
            try clear C
            apply wp_region_mmfs (fBox bz 49 (idV none 0 none 0 0 0) (idV pp1 cap1 pp2 cap2 xs.length ys.length) [.box bo (idV pp1 cap1 pp2 cap2 xs.length ys.length) 49, .row w.heap.size (.slice pp2 ys.length cap2) ys.length (u8s ys) 5 1, .row w.heap.size (.slice pp1 xs.length cap1) xs.length (u8s xs) 5 1]) M9 [0, 1, 2, 3, 4, 5, 6, 7, 8, 9, 10, 11, 12, 13, 14, 15, 16, 17] 18 19 _ (by kernel_rfl) (by kernel_rfl) rfl rfl
            case ht => (repeat (first | exact wpTextG_nil | (apply wpTextG_cons; (intro g9 w2 M0; have M : Mm no w w2 (.box bz (if g9.isEmpty then idV none 0 none 0 0 0 else idV pp1 cap1 pp2 cap2 xs.length ys.length) 49 :: [.box bo (idV pp1 cap1 pp2 cap2 xs.length ys.length) 49, .row w.heap.size (.slice pp2 ys.length cap2) ys.length (u8s ys) 5 1, .row w.heap.size (.slice pp1 xs.length cap1) xs.length (u8s xs) 5 1]) := M0; clear M0; go_wp2_with (first | ((with_reducible apply wpM_lda' M 1 49 0 (idV pp1 cap1 pp2 cap2 xs.length ys.length)); rfl; rfl; rfl; exact ⟨rfl, inf_idn.trans (congrArg some (idv_size ..).symm), _, und_idn, rfl⟩; exact whole_of rfl)); exact ⟨rfl, rfl, M⟩); rfl)))
            case hA =>
              intro w2 M0
              have M : Mm no w w2 (.box bz (idV none 0 none 0 0 0) 49 :: [.box bo (idV pp1 cap1 pp2 cap2 xs.length ys.length) 49, .row w.heap.size (.slice pp2 ys.length cap2) ys.length (u8s ys) 5 1, .row w.heap.size (.slice pp1 xs.length cap1) xs.length (u8s xs) 5 1]) := M0
              clear M0
              refine yield_store (ops := #[]) (by exact rfl) (by exact rfl) ?_
              go_wp2_with (first | ((with_reducible apply wpM_sta' M 0 49 (idV pp1 cap1 pp2 cap2 xs.length ys.length)); rfl; rfl; rfl; rfl; (first | exact .inl (by assumption) | exact .inr rfl | exact .inr (by assumption)); exact ⟨rfl, inf_idn.trans (congrArg some (idv_size ..).symm), flat_idv _ _ _ _ _ _⟩; (simp only [entCells, List.getElem?_cons_zero, List.getElem?_cons_succ, idv_size, idv_size]); clear M; (try clear C); intro w9 M; simp only [List.set_cons_zero, List.set_cons_succ, entBlk, entT, List.getElem?_cons_zero, List.getElem?_cons_succ] at M; have C := M.ruleAll; simp only [Go.Proofs.YtpmemoabkbmljaaDoor.ruleAll] at C))
              exact M
            clear M9
            intro v w2 M0
            have M : Mm no w w2 (.box bz (idV pp1 cap1 pp2 cap2 xs.length ys.length) 49 :: [.box bo (idV pp1 cap1 pp2 cap2 xs.length ys.length) 49, .row w.heap.size (.slice pp2 ys.length cap2) ys.length (u8s ys) 5 1, .row w.heap.size (.slice pp1 xs.length cap1) xs.length (u8s xs) 5 1]) := M0
            clear M0
            simp only [List.drop_succ_cons, List.drop_zero]
            go_wp2
            refine bodyPost_ret (v := .tuple #[.agg (idV pp1 cap1 pp2 cap2 xs.length ys.length), .bool false]) (by exact results_part2 rfl _ _ _ _ (idV pp1 cap1 pp2 cap2 xs.length ys.length) _ rfl und_idn rfl inf_idn (cells_of_blk0 (M.box 0 rfl)) _ rfl) rfl ?_
            exact ⟨_, _, _, _, _, _, rfl, M.below⟩
      · have hr := HR3.out
        rw [if_pos hc] at hr
        subst hr
        clear HR3 HS2 HB2
        by_cases hlt : k1 < l.length
        · have h2 : ¬ ((l.length : Int) ≤ (k1 : Int)) := by omega
          have hix := ix_str hb k1 hlt
          have e4 : (((l.getD k1 0 : Nat) : Int) == 61) = false := neI hc
          have e5 : (((l.getD k1 0 : Nat) : Int) != 61) = true := by rw [bne, e4]; rfl
          have e6 : ((l.getD k1 0 : Nat) : Int) ≠ 61 := by have := hc; omega
          generalize l.getD k1 0 = b at *
          clear hc
          go_wp2_with (first | (refine wpList_build 49 _ rfl rfl [] rfl _ (build_id0 _) ?_) | ((with_reducible apply wpM_sta' M 1 49 (idV none 0 none 0 0 0)); rfl; rfl; rfl; rfl; (first | exact .inl (by assumption) | exact .inr rfl | exact .inr (by assumption)); exact ⟨rfl, inf_idn.trans (congrArg some (idv_size ..).symm), flat_idv _ _ _ _ _ _⟩; (simp only [entCells, List.getElem?_cons_zero, List.getElem?_cons_succ, idv_size, idv_size]); clear M; (try clear C); intro w9 M; simp only [List.set_cons_zero, List.set_cons_succ, entBlk, entT, List.getElem?_cons_zero, List.getElem?_cons_succ] at M; have C := M.ruleAll; simp only [Go.Proofs.YtpmemoabkbmljaaDoor.ruleAll] at C))
          refine bodyPost_ret (v := .tuple #[.agg (idV none 0 none 0 0 0), .bool false]) (by exact results_part2 rfl _ _ _ _ (idV none 0 none 0 0 0) _ rfl und_idn rfl inf_idn (cells_of_blk0 (M.box 1 rfl)) _ rfl) rfl ?_
          exact ⟨_, _, _, _, _, _, rfl, M.below⟩
        · have h2 : (l.length : Int) ≤ (k1 : Int) := by omega
          clear hc
          go_wp2_with (first | (refine wpList_build 49 _ rfl rfl [] rfl _ (build_id0 _) ?_) | ((with_reducible apply wpM_sta' M 1 49 (idV none 0 none 0 0 0)); rfl; rfl; rfl; rfl; (first | exact .inl (by assumption) | exact .inr rfl | exact .inr (by assumption)); exact ⟨rfl, inf_idn.trans (congrArg some (idv_size ..).symm), flat_idv _ _ _ _ _ _⟩; (simp only [entCells, List.getElem?_cons_zero, List.getElem?_cons_succ, idv_size, idv_size]); clear M; (try clear C); intro w9 M; simp only [List.set_cons_zero, List.set_cons_succ, entBlk, entT, List.getElem?_cons_zero, List.getElem?_cons_succ] at M; have C := M.ruleAll; simp only [Go.Proofs.YtpmemoabkbmljaaDoor.ruleAll] at C))
          refine bodyPost_ret (v := .tuple #[.agg (idV none 0 none 0 0 0), .bool false]) (by exact results_part2 rfl _ _ _ _ (idV none 0 none 0 0 0) _ rfl und_idn rfl inf_idn (cells_of_blk0 (M.box 1 rfl)) _ rfl) rfl ?_
          exact ⟨_, _, _, _, _, _, rfl, M.below⟩
end Go.Proofs.YtpmemoabkbmljaaDoor
