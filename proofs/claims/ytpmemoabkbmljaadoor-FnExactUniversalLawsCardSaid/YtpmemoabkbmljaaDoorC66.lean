/- The first place where an identity does not hold, for the reference: a contract. -/
import Derived.Test.YtpmemoabkbmljaaDoorC65
namespace Go.Proofs.YtpmemoabkbmljaaDoor
set_option linter.unusedSimpArgs false
set_option linter.unusedVariables false
open Go Go.RowKit

/-- A new list of the three numbers, or no list. -/
def FailPost (o : Option (Nat × Nat × Nat)) (w : World) (e : Ending) (w' : World) : Prop :=
  match o with
  | none => e = .returned (.slice none 0 0) ∧ Below w.heap.size w w'
  | some (x, y, z) => ∃ g, e = .returned (.slice (some ⟨g, 0, none⟩) 3 3) ∧ w.heap.size ≤ g ∧ Mm no w w' [.box g #[.int .i64 (x : Int), .int .i64 (y : Int), .int .i64 (z : Int)] 2]
theorem rngB_le {n : Nat} (h : 1 ≤ n) (f : Nat → Nat) (m : Nat) (g : Nat → Nat) (l b : Nat) : rngB n f m g l b ≤ n := by unfold rngB; split <;> omega
theorem bsl_i3 (x y z : Int) (w : World) : (Instr.buildSlice 26 3 [(0, Value.int .i64 x), (1, Value.int .i64 y), (2, Value.int .i64 z)].toArray).run Tryd.prog w = .ok (.slice (some ⟨w.heap.size, 0, none⟩) 3 3) (w.alloc (.cells #[.int .i64 x, .int .i64 y, .int .i64 z] 2)) := by kernel_rfl
theorem neB_true {t : Nat → Nat → Nat} {f g : Nat → Nat} {m l x y z : Nat} (h : evB t x y z f m ≠ evB t x y z g l) : neB t f m g l x y z = true := by unfold neB; exact decide_eq_true h
theorem neB_false {t : Nat → Nat → Nat} {f g : Nat → Nat} {m l x y z : Nat} (h : evB t x y z f m = evB t x y z g l) : neB t f m g l x y z = false := by unfold neB; exact decide_eq_false fun h2 => h2 h

set_option maxRecDepth 100000 in
set_option maxHeartbeats 4000000 in
theorem l03Fails_any (n : Nat) (t : Nat → Nat → Nat) (hs : IsSq (n : Int) t) (xs ys : List Nat) (hX : isTm (elB xs) xs.length = true) (hY : isTm (elB ys) ys.length = true) (w : World) (p1 p2 : Option Addr) (c1 c2 : Nat) (r1 : rdq w p1 xs.length (bytF xs)) (r2 : rdq w p2 ys.length (bytF ys)) :
    Calls Tryd.prog 26 #[.agg (sqs n t), .agg (idV p1 c1 p2 c2 xs.length ys.length)] w fun e w' => FailPost (fst3 (neB t (elB xs) xs.length (elB ys) ys.length) n n n) w e w' := by
  have M := Mm.start no w
  have so := sqs_order (n : Int) t
  have hn1 : 1 ≤ n := by have := hs.lo; omega
  have hn2 : n ≤ 10 := by have := hs.hi; omega
  have h40 := (isTm_iff.1 hX).2
  have h41 := (isTm_iff.1 hY).2
  have R1 : ∀ w1, Below w.heap.size w w1 → Calls Tryd.prog 41 #[.agg (sqs n t), .agg (idV p1 c1 p2 c2 xs.length ys.length), .int .u8 120] w1 _ := fun w1 hb => l03Range_any n t hn1 hn2 xs ys h40 h41 120 w1 p1 p2 c1 c2 (r1.later hb) (r2.later hb)
  have R2 : ∀ w1, Below w.heap.size w w1 → Calls Tryd.prog 41 #[.agg (sqs n t), .agg (idV p1 c1 p2 c2 xs.length ys.length), .int .u8 121] w1 _ := fun w1 hb => l03Range_any n t hn1 hn2 xs ys h40 h41 121 w1 p1 p2 c1 c2 (r1.later hb) (r2.later hb)
  have R3 : ∀ w1, Below w.heap.size w w1 → Calls Tryd.prog 41 #[.agg (sqs n t), .agg (idV p1 c1 p2 c2 xs.length ys.length), .int .u8 122] w1 _ := fun w1 hb => l03Range_any n t hn1 hn2 xs ys h40 h41 122 w1 p1 p2 c1 c2 (r1.later hb) (r2.later hb)
  have V1 := Hid2.mk (fun x y z (hx : x < n) (hy : y < n) (hz : z < n) w1 (hb : Below w.heap.size w w1) => l03Value_any n t hs x y z (by omega) (by omega) (by omega) xs hX w1 p1 c1 (r1.later hb))
  have V2 := Hid2.mk (fun x y z (hx : x < n) (hy : y < n) (hz : z < n) w1 (hb : Below w.heap.size w w1) => l03Value_any n t hs x y z (by omega) (by omega) (by omega) ys hY w1 p2 c2 (r2.later hb))
  have hI1 := idv_0 p1 c1 p2 c2 xs.length ys.length
  have hI2 := idv_1 p1 c1 p2 c2 xs.length ys.length
  rw [← fails_same hn1]
  have l1 := rngB_le hn1 (elB xs) xs.length (elB ys) ys.length 120
  have l2 := rngB_le hn1 (elB xs) xs.length (elB ys) ys.length 121
  have l3 := rngB_le hn1 (elB xs) xs.length (elB ys) ys.length 122
  have HNT := Hid2.mk (fun {x y z} => @neB_true t (elB xs) (elB ys) xs.length ys.length x y z)
  have HNF := Hid2.mk (fun {x y z} => @neB_false t (elB xs) (elB ys) xs.length ys.length x y z)
  generalize rngB n (elB xs) xs.length (elB ys) ys.length 120 = A at R1 l1 ⊢
  generalize rngB n (elB xs) xs.length (elB ys) ys.length 121 = B at R2 l2 ⊢
  generalize rngB n (elB xs) xs.length (elB ys) ys.length 122 = Cc at R3 l3 ⊢
  generalize neB t (elB xs) xs.length (elB ys) ys.length = p at HNT HNF ⊢
  have L1 := Hid2.mk l1
  have L2 := Hid2.mk l2
  have L3 := Hid2.mk l3
  have hA10 : (A : Int) ≤ 10 := by omega
  have hB10 : (B : Int) ≤ 10 := by omega
  have hC10 : (Cc : Int) ≤ 10 := by omega
  clear r1 r2 hX hY hs h40 h41 l1 l2 l3
  generalize hG : (fun x => fstTo (fun y => fstTo (fun z => if p x y z = true then some (x, y, z) else none) Cc) B) = G
  have HG := Hid2.mk hG
  have hF3 : fst3 p A B Cc = fstTo G A := by rw [← hG]; rfl
  rw [hF3]
  clear hF3 hG
  go_enter Tryd.func26, Tryd.ntmps26
  go_wp2_with (first | ((with_reducible apply wpM_box' M 31 (sqs n t)); rfl; exact ⟨rfl, rfl⟩; clear M; (try clear C); intro bq w9 h_bq M; have C := M.ruleAll; simp only [Go.Proofs.YtpmemoabkbmljaaDoor.ruleAll] at C) | ((with_reducible apply wpM_box' M 49 (idV p1 c1 p2 c2 xs.length ys.length)); rfl; exact ⟨rfl, rfl⟩; clear M; (try clear C); intro bi w9 h_bi M; have C := M.ruleAll; simp only [Go.Proofs.YtpmemoabkbmljaaDoor.ruleAll] at C))
  apply wp_region_mm M 9 (by kernel_rfl) (by kernel_rfl); (simp only [List.take_succ_cons, List.take_zero]; repeat (first | exact wpText_nil | (apply wpText_cons; (intro w2 M; have C := M.ruleAll; simp only [Go.Proofs.YtpmemoabkbmljaaDoor.ruleAll] at C; go_wp2_with (first | ((with_reducible apply wpM_lda' M 1 31 0 (sqs n t)); rfl; rfl; rfl; exact ⟨rfl, inf_sqs.trans (congrArg some (sqs_size ..).symm), _, und_sqs, rfl⟩; exact whole_of rfl) | ((with_reducible apply wpM_lda' M 0 49 0 (idV p1 c1 p2 c2 xs.length ys.length)); rfl; rfl; rfl; exact ⟨rfl, inf_idn.trans (congrArg some (idv_size ..).symm), _, und_idn, rfl⟩; exact whole_of rfl) | (go_at_call 41; ((with_reducible refine (R1 _ M.below).mono ?_); rintro e w1 ⟨rfl, hb⟩; have hsz := M.size; (try (have G9 := G.later hb; clear G; have G := G9; clear G9)); have M9 := M.later hb; clear M; (try clear C); have M := M9; clear M9; have C := M.ruleAll; simp only [Go.Proofs.YtpmemoabkbmljaaDoor.ruleAll] at C)) | (go_at_call 41; ((with_reducible refine (R2 _ M.below).mono ?_); rintro e w1 ⟨rfl, hb⟩; have hsz := M.size; (try (have G9 := G.later hb; clear G; have G := G9; clear G9)); have M9 := M.later hb; clear M; (try clear C); have M := M9; clear M9; have C := M.ruleAll; simp only [Go.Proofs.YtpmemoabkbmljaaDoor.ruleAll] at C)) | (go_at_call 41; ((with_reducible refine (R3 _ M.below).mono ?_); rintro e w1 ⟨rfl, hb⟩; have hsz := M.size; (try (have G9 := G.later hb; clear G; have G := G9; clear G9)); have M9 := M.later hb; clear M; (try clear C); have M := M9; clear M9; have C := M.ruleAll; simp only [Go.Proofs.YtpmemoabkbmljaaDoor.ruleAll] at C))); exact ⟨rfl, rfl, M⟩); rfl))); (clear M; (try clear C); intro w2 M; simp only [List.drop_succ_cons, List.drop_zero]; have C := M.ruleAll; simp only [Go.Proofs.YtpmemoabkbmljaaDoor.ruleAll] at C)
  clear R1 R2 R3
  go_wp2
  go_loopw [8, 9, 10] (fun i _ _ wr => ∃ x : Nat, x ≤ A ∧ i = .int .u8 (x : Int) ∧ (∀ j, j < x → G j = none) ∧ Mm no w wr [.box bi (idV p1 c1 p2 c2 xs.length ys.length) 49, .box bq (sqs n t) 31]) (fun i _ _ _ => A - (intOf i).toNat)
  case atStart => exact ⟨0, by omega, rfl, fun j h => by omega, M⟩
  case round =>
    obtain ⟨x, hx, rfl, hg, M9⟩ := hrel
    clear M; (try clear C)
    have M := M9
    clear M9
    have C := M.ruleAll; simp only [Go.Proofs.YtpmemoabkbmljaaDoor.ruleAll] at C
    have HX := Hid2.mk hg
    clear hg
    by_cases hxA : x < A
    · have hxA' : (x : Int) < (A : Int) := by omega
      have hx10 : (x : Int) < 10 := by omega
      have dlt : decide ((x : Int) < (A : Int)) = true := decide_eq_true hxA'
      have HXN := Hid2.mk (Nat.lt_of_lt_of_le hxA L1.out)
      have HXA := Hid2.mk hxA
      clear hxA hx
      generalize hF : (fun y => fstTo (fun z => if p x y z = true then some (x, y, z) else none) Cc) = F
      have HGx := Hid2.mk (show G x = fstTo F B by rw [← HG.out, ← hF])
      have HF := Hid2.mk hF
      clear hF
      go_wp2
      obtain ⟨wo, rfl⟩ : ∃ wo : World, wo = wr := ⟨_, rfl⟩
      clear dlt
      go_loopw [9, 10] (fun i _ wr => ∃ y : Nat, y ≤ B ∧ i = .int .u8 (y : Int) ∧ (∀ j, j < y → F j = none) ∧ Mm no w wr [.box bi (idV p1 c1 p2 c2 xs.length ys.length) 49, .box bq (sqs n t) 31]) (fun i _ _ => B - (intOf i).toNat)
      case atStart => exact ⟨0, by omega, rfl, fun j h => by omega, M⟩
      case round =>
        obtain ⟨y, hy, rfl, hg, M9⟩ := hrel
        clear M; (try clear C)
        have M := M9
        clear M9
        have C := M.ruleAll; simp only [Go.Proofs.YtpmemoabkbmljaaDoor.ruleAll] at C
        have HY := Hid2.mk hg
        clear hg
        by_cases hyB : y < B
        · have hyB' : (y : Int) < (B : Int) := by omega
          have hy10 : (y : Int) < 10 := by omega
          have dlt : decide ((y : Int) < (B : Int)) = true := decide_eq_true hyB'
          have HYN := Hid2.mk (Nat.lt_of_lt_of_le hyB L2.out)
          have HYB := Hid2.mk hyB
          clear hyB hy
          generalize hE : (fun z => if p x y z = true then some (x, y, z) else none) = E
          have HFy := Hid2.mk (show F y = fstTo E Cc by rw [← HF.out, ← hE])
          have HE := Hid2.mk hE
          clear hE
          go_wp2
          obtain ⟨wo2, rfl⟩ : ∃ wo : World, wo = wr := ⟨_, rfl⟩
          clear dlt
          go_loopw [10] (fun i wr => ∃ z : Nat, z ≤ Cc ∧ i = .int .u8 (z : Int) ∧ (∀ j, j < z → E j = none) ∧ Mm no w wr [.box bi (idV p1 c1 p2 c2 xs.length ys.length) 49, .box bq (sqs n t) 31]) (fun i _ => Cc - (intOf i).toNat)
          case atStart => exact ⟨0, by omega, rfl, fun j h => by omega, M⟩
          case round =>
            obtain ⟨z, hz, rfl, hg, M9⟩ := hrel
            clear M; (try clear C)
            have M := M9
            clear M9
            have C := M.ruleAll; simp only [Go.Proofs.YtpmemoabkbmljaaDoor.ruleAll] at C
            have HZ := Hid2.mk hg
            clear hg
            by_cases hzC : z < Cc
            · have hzC' : (z : Int) < (Cc : Int) := by omega
              have hz10 : (z : Int) < 10 := by omega
              have HZN := Hid2.mk (Nat.lt_of_lt_of_le hzC L3.out)
              have HZC := Hid2.mk hzC
              have A1 := V1.out x y z HXN.out HYN.out HZN.out
              have A2 := V2.out x y z HXN.out HYN.out HZN.out
              clear hzC hz
              have hEz : E z = if p x y z = true then some (x, y, z) else none := by rw [← HE.out]
              by_cases hne : evB t x y z (elB xs) xs.length = evB t x y z (elB ys) ys.length
              · have HEz := Hid2.mk (show E z = none by rw [hEz, if_neg (by rw [HNF.out hne]; exact Bool.false_ne_true)])
                rw [hne] at A1
                generalize evB t x y z (elB ys) ys.length = v at A1 A2
                have hd : ((v : Int) == (v : Int)) = true := by simp
                have hd2 : ((v : Int) != (v : Int)) = false := by simp
                clear hne hEz
                go_wp2
                apply wp_region_mm M 14 (by kernel_rfl) (by kernel_rfl); (simp only [List.take_succ_cons, List.take_zero]; repeat (first | exact wpText_nil | (apply wpText_cons; (intro w2 M; have C := M.ruleAll; simp only [Go.Proofs.YtpmemoabkbmljaaDoor.ruleAll] at C; go_wp2_with (first | ((with_reducible apply wpM_lda' M 1 31 0 (sqs n t)); rfl; rfl; rfl; exact ⟨rfl, inf_sqs.trans (congrArg some (sqs_size ..).symm), _, und_sqs, rfl⟩; exact whole_of rfl) | (go_at_call 42; ((with_reducible refine (A1 _ M.below).mono ?_); rintro e w1 ⟨rfl, hb⟩; have hsz := M.size; (try (have G9 := G.later hb; clear G; have G := G9; clear G9)); have M9 := M.later hb; clear M; (try clear C); have M := M9; clear M9; have C := M.ruleAll; simp only [Go.Proofs.YtpmemoabkbmljaaDoor.ruleAll] at C)) | (go_at_call 42; ((with_reducible refine (A2 _ M.below).mono ?_); rintro e w1 ⟨rfl, hb⟩; have hsz := M.size; (try (have G9 := G.later hb; clear G; have G := G9; clear G9)); have M9 := M.later hb; clear M; (try clear C); have M := M9; clear M9; have C := M.ruleAll; simp only [Go.Proofs.YtpmemoabkbmljaaDoor.ruleAll] at C))); exact ⟨rfl, rfl, M⟩); rfl))); (clear M; (try clear C); intro w2 M; simp only [List.drop_succ_cons, List.drop_zero]; have C := M.ruleAll; simp only [Go.Proofs.YtpmemoabkbmljaaDoor.ruleAll] at C)
                go_wp2
                go_roundw
                case rel => exact ⟨z + 1, by have := HZC.out; omega, by go_num, fun j hj => if e : j = z then e ▸ HEz.out else HZ.out j (by omega), M⟩
                case measure => have := HZC.out; simp [intOf]; omega
              · have HEz := Hid2.mk (show E z = some (x, y, z) by rw [hEz, if_pos (HNT.out hne)])
                have HRES := Hid2.mk (show fstTo G A = some (x, y, z) from fstTo_at HX.out (by rw [HGx.out]; exact fstTo_at HY.out (by rw [HFy.out]; exact fstTo_at HZ.out HEz.out _ HZC.out) _ HYB.out) _ HXA.out)
                generalize hv1 : evB t x y z (elB xs) xs.length = v1 at A1 hne
                generalize hv2 : evB t x y z (elB ys) ys.length = v2 at A2 hne
                have hd : ((v1 : Int) == (v2 : Int)) = false := neI hne
                have hd2 : ((v1 : Int) != (v2 : Int)) = true := by simp [bne, hd]
                clear hne hEz hv1 hv2
                go_wp2
                apply wp_region_mm M 14 (by kernel_rfl) (by kernel_rfl); (simp only [List.take_succ_cons, List.take_zero]; repeat (first | exact wpText_nil | (apply wpText_cons; (intro w2 M; have C := M.ruleAll; simp only [Go.Proofs.YtpmemoabkbmljaaDoor.ruleAll] at C; go_wp2_with (first | ((with_reducible apply wpM_lda' M 1 31 0 (sqs n t)); rfl; rfl; rfl; exact ⟨rfl, inf_sqs.trans (congrArg some (sqs_size ..).symm), _, und_sqs, rfl⟩; exact whole_of rfl) | (go_at_call 42; ((with_reducible refine (A1 _ M.below).mono ?_); rintro e w1 ⟨rfl, hb⟩; have hsz := M.size; (try (have G9 := G.later hb; clear G; have G := G9; clear G9)); have M9 := M.later hb; clear M; (try clear C); have M := M9; clear M9; have C := M.ruleAll; simp only [Go.Proofs.YtpmemoabkbmljaaDoor.ruleAll] at C)) | (go_at_call 42; ((with_reducible refine (A2 _ M.below).mono ?_); rintro e w1 ⟨rfl, hb⟩; have hsz := M.size; (try (have G9 := G.later hb; clear G; have G := G9; clear G9)); have M9 := M.later hb; clear M; (try clear C); have M := M9; clear M9; have C := M.ruleAll; simp only [Go.Proofs.YtpmemoabkbmljaaDoor.ruleAll] at C))); exact ⟨rfl, rfl, M⟩); rfl))); (clear M; (try clear C); intro w2 M; simp only [List.drop_succ_cons, List.drop_zero]; have C := M.ruleAll; simp only [Go.Proofs.YtpmemoabkbmljaaDoor.ruleAll] at C)
                go_wp2_with (first | ((with_reducible apply wpM_bsl' M 26 3 2 ([(0, .int .i64 (x : Int)), (1, .int .i64 (y : Int)), (2, .int .i64 (z : Int))]) (#[.int .i64 (x : Int), .int .i64 (y : Int), .int .i64 (z : Int)])); rfl; rfl; rfl; exact bsl_i3 _ _ _; clear M; (try clear C); intro bo w9 h_bo M; have C := M.ruleAll; simp only [Go.Proofs.YtpmemoabkbmljaaDoor.ruleAll] at C))
                go_ret
                rw [HRES.out]
                exact ⟨bo, rfl, h_bo, (M.drop 1).drop 1⟩
            · have hge : ¬ ((z : Int) < (Cc : Int)) := by omega
              have HFN := Hid2.mk (show F y = none by rw [HFy.out, fstTo_none]; exact fun k hk => HZ.out k (by omega))
              clear hzC hz
              go_wp2
              go_roundw
              case rel => exact ⟨y + 1, by have := HYB.out; omega, by go_num, fun j hj => if e : j = y then e ▸ HFN.out else HY.out j (by omega), M⟩
              case measure => have := HYB.out; simp [intOf]; omega
        · have hge : ¬ ((y : Int) < (B : Int)) := by omega
          have HGN := Hid2.mk (show G x = none by rw [HGx.out, fstTo_none]; exact fun k hk => HY.out k (by omega))
          clear hyB hy
          go_wp2
          go_roundw
          case rel => exact ⟨x + 1, by have := HXA.out; omega, by go_num, fun j hj => if e : j = x then e ▸ HGN.out else HX.out j (by omega), M⟩
          case measure => have := HXA.out; simp [intOf]; omega
    · have hge : ¬ ((x : Int) < (A : Int)) := by omega
      have HRES := Hid2.mk (show fstTo G A = none by rw [fstTo_none]; exact fun k hk => HX.out k (by omega))
      clear hxA hx
      go_wp2
      go_ret
      rw [HRES.out]
      exact ⟨rfl, M.below⟩
end Go.Proofs.YtpmemoabkbmljaaDoor
