/- The lengths of the cycles of two rows, for the reference: a contract. -/
import Derived.Test.YteonahoboligdaaE6
import Derived.Test.YteonahoboligdaaE7
import Derived.Test.YteonahoboligdaaU1
namespace Go.Proofs.Yteonahoboligdaa
set_option linter.unusedSimpArgs false
set_option linter.unusedVariables false
open Go Go.RowKit

/-- The cells of eleven numbers. -/
def n11 (f : Nat → Nat) : Array Value := tab 11 fun i => .int .i64 (f i : Nat)
theorem n11_size (f : Nat → Nat) : (n11 f).size = 11 := tab_size _ _
theorem n11_get {f : Nat → Nat} {i : Nat} (h : i < 11) : (n11 f)[i]? = some (.int .i64 (f i : Nat)) := tab_get h
theorem n11_set (f : Nat → Nat) (i v : Nat) : (n11 f).setIfInBounds i (.int .i64 (v : Nat)) = n11 (fun j => if j = i then v else f j) := by
  unfold n11; rw [tab_set]; exact tab_ext fun j _ => by dsimp only; split <;> rfl
theorem flat_n11 (f : Nat → Nat) : flat (n11 f) := flat_tab fun _ _ => rfl
theorem zero_i11 (w : World) : (zeroValue 68).run Try.prog w = .ok (.agg (n11 fun _ => 0)) w := by kernel_rfl
theorem und_i11 : Try.prog.underlying 68 = some (.array 11 2) := by kernel_rfl
theorem inf_i11 : (Try.prog.info? 68).map (·.size) = some 11 := by kernel_rfl
theorem build_i11 (w : World) : (Instr.build 68 #[]).run Try.prog w = .ok (.agg (n11 fun _ => 0)) w := by kernel_rfl

/-- How often each length is met among the cycles of the numbers below k. -/
noncomputable def lcn (p : Nat → Nat) (k : Nat) : Nat → Nat := fun j => (lens p k).count j
theorem lcn_le (p : Nat → Nat) (k j : Nat) : lcn p k j ≤ k := Nat.le_trans List.count_le_length (lens_len p k)
theorem lcn_zero (p : Nat → Nat) : n11 (lcn p 0) = n11 fun _ => 0 := by congr 1
theorem lcn_skip {p : Nat → Nat} {k : Nat} (h : metC p k k) : lcn p (k + 1) = lcn p k := by
  classical
  unfold lcn; rw [lens, if_pos h]
theorem lcn_more {p : Nat → Nat} {k : Nat} (h : ¬ metC p k k) : (n11 (lcn p k)).setIfInBounds (clen p k) (.int .i64 ((lcn p k (clen p k) + 1 : Nat) : Int)) = n11 (lcn p (k + 1)) := by
  classical
  rw [n11_set]
  congr 1
  funext j
  unfold lcn
  rw [lens, if_neg h, List.count_append]
  by_cases e : j = clen p k
  · subst e; rw [if_pos rfl, List.count_singleton_self]
  · rw [if_neg e]
    have h0 : List.count j [clen p k] = 0 := List.count_eq_zero.2 (by simp; exact e)
    rw [h0]; rfl
/-- Marks, and those of the first i of a list. -/
def mksL (m : Nat) (l : List Nat) (i : Nat) : Nat → Bool := fun y => m.testBit y || decide (y ∈ l.take i)
theorem mksL_zero (m : Nat) (l : List Nat) : mksL m l 0 = fun y => m.testBit y := by funext y; simp [mksL]
theorem mksL_set {m : Nat} {l : List Nat} {i x : Nat} (hx : l[i]? = some x) : (bls (mksL m l i)).setIfInBounds x (.bool true) = bls (mksL m l (i + 1)) := by
  rw [bls_set]
  congr 1
  funext y
  unfold mksL
  rw [List.take_add_one, hx, Option.toList_some]
  by_cases e : y = x
  · subst e; simp
  · rw [if_neg e]
    simp [e]
theorem mksL_all {m : Nat} {c : Nat} {i : Nat} (hi : i = (tdL (fun y => c.testBit y) 10).length) : bls (mksL m (tdL (fun y => c.testBit y) 10) i) = bls fun y => (m ||| c).testBit y := by
  subst hi
  refine tab_ext fun y hy => ?_
  congr 1
  unfold mksL
  rw [List.take_length]
  show (m.testBit y || _) = (m ||| c).testBit y
  rw [Nat.testBit_or]
  congr 1
  have := tdL_mem (p := fun y => c.testBit y) (x := y) (k := 10)
  rw [Bool.eq_iff_iff, decide_eq_true_iff, this]
  exact ⟨fun h => h.2, fun h => ⟨hy, h⟩⟩
theorem i64N_len (l : List Nat) : (i64N l).length = l.length := by simp [i64N]
theorem i64N_at {l : List Nat} {j : Nat} (h : j < l.length) : (i64N l).getD j undef = i64F l j := by
  unfold i64F i64N
  rw [List.getD_eq_getElem?_getD, List.getD_eq_getElem?_getD, List.getElem?_map, List.getElem?_eq_getElem h]; rfl
theorem ctL_len {cnt : Nat → Nat} (h : ∀ j, cnt j ≤ 10) : ∀ m, (ctL cnt m).length ≤ m * 10
  | 0 => by simp [ctL]
  | m + 1 => by
    have := ctL_len h m
    have := h (m + 1)
    rw [ctL, List.length_append, List.length_replicate]; omega
theorem i64N_get {l : List Nat} {i x : Nat} (h : l[i]? = some x) : (i64N l)[i]? = some (.int .i64 (x : Int)) := by simp [i64N, h]

set_option maxRecDepth 100000 in
set_option maxHeartbeats 4000000 in
theorem l09Lengths_any (n : Nat) (t : Nat → Nat → Nat) (hs : IsSq (n : Int) t) (a b : Nat) (ha : a < n) (hb : b < n) (w : World) :
    Calls Try.prog 29 #[.agg (sqs (n : Int) t), .int .u8 (a : Int), .int .u8 (b : Int)] w fun e w' => ∃ v, e = .returned v ∧ Mm no w w' [.row w.heap.size v (ctL (lcn (plW t a b n) n) 10).length (i64N (ctL (lcn (plW t a b n) n) 10)) 2 1] := by
  have M := Mm.start no w
  have hn : n ≤ 10 := by have := hs.hi; omega
  have h1n : 1 ≤ n := by have := hs.lo; omega
  have hpm := plW_pm (Lat.of_sq hs) ha hb
  have HROW := Hid2.mk (fun w1 => l09Rows_any n t hs a b ha hb w1)
  have HCY := Hid2.mk (fun c (hc : c < n) w1 => l09Cycle_any n _ hpm hn c hc w1)
  have HTD := Hid2.mk (fun (c : Nat) w1 => l05Told_any (fun y => c.testBit y) w1)
  have HCZ := Hid2.mk (fun c (hc : c < n) => cyM_size hpm hn hc)
  have HCL := Hid2.mk (fun c (hc : c < n) => (clen_is hpm hc).2)
  have HKB := Hid2.mk (fun c (hc : c < n) => (cyM_bit hpm hc (y := c)).2 (inO_refl _ c))
  have HSK := Hid2.mk (fun k m (h : MetM (plW t a b n) k m) (hm : metC (plW t a b n) k k) => h.skip hm)
  have HMO := Hid2.mk (fun k m (hk : k < n) (h : MetM (plW t a b n) k m) => h.more hpm hn hk)
  have HM0 := MetM.start (plW t a b n)
  have so := sqs_order (n : Int) t
  have hn' : (n : Int) ≤ 10 := by omega
  generalize plW t a b n = p at *
  clear hs hpm
  have hzo := zero_b10
  have hzp := zero_plc
  have hzi := zero_i11
  go_enter Try.func29, Try.ntmps29
  go_wp2_with (first | ((with_reducible apply wpM_box' M 30 (sqs (n : Int) t)); rfl; exact ⟨rfl, rfl⟩; clear M; (try clear C); intro bq w9 h_bq M; have C := M.ruleAll; simp only [Go.Proofs.Yteonahoboligdaa.ruleAll] at C) | ((with_reducible apply wpM_lda' M 0 30 0 (sqs (n : Int) t)); rfl; rfl; rfl; exact ⟨rfl, inf_sqs.trans (congrArg some (sqs_size ..).symm), _, und_sqs, rfl⟩; exact whole_of rfl) | (go_at_call 52; ((with_reducible refine (HROW.out _).mono ?_); rintro e w1 ⟨rfl, hb⟩; have hsz := M.size; (try (have G9 := G.later hb; clear G; have G := G9; clear G9)); have M9 := M.later hb; clear M; (try clear C); have M := M9; clear M9; have C := M.ruleAll; simp only [Go.Proofs.Yteonahoboligdaa.ruleAll] at C)) | (refine wpList_build 56 _ rfl rfl [] rfl _ (build_b10 _) ?_) | (refine wpList_build 68 _ rfl rfl [] rfl _ (build_i11 _) ?_) | ((with_reducible apply wpM_bsl' M 33 0 2 ([]) (#[])); rfl; rfl; rfl; exact bsl_n0; clear M; (try clear C); intro bo w9 h_bo M; have C := M.ruleAll; simp only [Go.Proofs.Yteonahoboligdaa.ruleAll] at C) | ((with_reducible apply wpM_alloc' M 66 (bys fun _ => 0)); rfl; exact ⟨rfl, _, zero_plc _, rfl⟩; clear M; (try clear C); intro bp w9 h_bp M; have C := M.ruleAll; simp only [Go.Proofs.Yteonahoboligdaa.ruleAll] at C) | ((with_reducible apply wpM_alloc' M 56 (bls fun _ => false)); rfl; exact ⟨rfl, _, zero_b10 _, rfl⟩; clear M; (try clear C); intro bm w9 h_bm M; have C := M.ruleAll; simp only [Go.Proofs.Yteonahoboligdaa.ruleAll] at C) | ((with_reducible apply wpM_alloc' M 68 (n11 fun _ => 0)); rfl; exact ⟨rfl, _, zero_i11 _, rfl⟩; clear M; (try clear C); intro bc w9 h_bc M; have C := M.ruleAll; simp only [Go.Proofs.Yteonahoboligdaa.ruleAll] at C) | ((with_reducible apply wpM_sta' M 2 66 (bys p)); rfl; rfl; rfl; rfl; (first | exact .inl (by assumption) | exact .inr rfl | exact .inr (by assumption)); exact ⟨rfl, inf_plc.trans (congrArg some (bys_size ..).symm), flat_bys _⟩; (simp only [entCells, List.getElem?_cons_zero, List.getElem?_cons_succ, bys_size, bys_size]); clear M; (try clear C); intro w9 M; simp only [List.set_cons_zero, List.set_cons_succ, entBlk, entT, List.getElem?_cons_zero, List.getElem?_cons_succ] at M; have C := M.ruleAll; simp only [Go.Proofs.Yteonahoboligdaa.ruleAll] at C) | ((with_reducible apply wpM_sta' M 1 56 (bls fun _ => false)); rfl; rfl; rfl; rfl; (first | exact .inl (by assumption) | exact .inr rfl | exact .inr (by assumption)); exact ⟨rfl, inf_b10.trans (congrArg some (bls_size ..).symm), flat_bls _⟩; (simp only [entCells, List.getElem?_cons_zero, List.getElem?_cons_succ, bls_size, bls_size]); clear M; (try clear C); intro w9 M; simp only [List.set_cons_zero, List.set_cons_succ, entBlk, entT, List.getElem?_cons_zero, List.getElem?_cons_succ] at M; have C := M.ruleAll; simp only [Go.Proofs.Yteonahoboligdaa.ruleAll] at C) | ((with_reducible apply wpM_sta' M 0 68 (n11 fun _ => 0)); rfl; rfl; rfl; rfl; (first | exact .inl (by assumption) | exact .inr rfl | exact .inr (by assumption)); exact ⟨rfl, inf_i11.trans (congrArg some (n11_size ..).symm), flat_n11 _⟩; (simp only [entCells, List.getElem?_cons_zero, List.getElem?_cons_succ, n11_size, n11_size]); clear M; (try clear C); intro w9 M; simp only [List.set_cons_zero, List.set_cons_succ, entBlk, entT, List.getElem?_cons_zero, List.getElem?_cons_succ] at M; have C := M.ruleAll; simp only [Go.Proofs.Yteonahoboligdaa.ruleAll] at C))
  have M9 := M.asRow 3 rfl w.heap.size 0 1 h_bo rfl (Nat.zero_le _)
  simp only [List.set_cons_zero, List.set_cons_succ] at M9
  have M8 := M9.sub [3, 0, 1, 2, 4] (by decide)
  clear M; (try clear C)
  clear M9 hzo hzp hzi
  have L0 := lcn_zero p
  have LS := Hid2.mk (fun k (h : metC p k k) => lcn_skip h)
  have LM := Hid2.mk (fun k (h : ¬ metC p k k) => lcn_more h)
  have LL := Hid2.mk (fun k j => lcn_le p k j)
  have HBL := Hid2.mk (show (bls fun _ => false) = bls fun y => (0 : Nat).testBit y by congr 1; funext y; simp)
  go_loopw [11, 12, 13] (fun v _ _ wr => ∃ k m : Nat, k ≤ n ∧ v = .int .u8 (k : Int) ∧ MetM p k m ∧ Mm no w wr [.row w.heap.size (.slice (some ⟨bo, 0, none⟩) 0 0) 0 [] 2 1, .box bc (n11 (lcn p k)) 68, .box bm (bls fun y => m.testBit y) 56, .box bp (bys p) 66, .box bq (sqs (n : Int) t) 30]) (fun v _ _ _ => n - (intOf v).toNat)
  case atStart => exact ⟨0, 0, by omega, rfl, HM0, M8.eq (by rw [L0, ← HBL.out]; rfl)⟩
  case round =>
    clear M8 L0 HBL
    obtain ⟨k, m, hk, rfl, hmet, M9⟩ := hrel
    have M := M9
    clear M9
    have C := M.ruleAll; simp only [Go.Proofs.Yteonahoboligdaa.ruleAll] at C
    by_cases hlt : k < n
    · have hlt' : (k : Int) < (n : Int) := by omega
      have hk10 : (k : Int) < 10 := by omega
      have dlt : decide ((k : Int) < (n : Int)) = true := decide_eq_true hlt'
      have hbit := hmet.2 k
      have q1 := bls_get (f := fun y => m.testBit y) (i := k) (by omega)
      cases hb : m.testBit k with
      | true =>
        rw [hb] at q1
        have hm := hbit.1 hb
        have HST := Hid2.mk (HSK.out k m hmet hm)
        have HE := Hid2.mk (LS.out k hm)
        clear hm hbit hb hmet
        go_wp2
        go_roundw
        case rel => exact ⟨k + 1, m, by omega, by go_num, HST.out, by rw [HE.out]; exact M⟩
        case measure => simp [intOf]; omega
      | false =>
        rw [hb] at q1
        have hm : ¬ metC p k k := fun h => by have := hbit.2 h; rw [hb] at this; cases this
        have HST := Hid2.mk (HMO.out k m hlt hmet)
        have HE := Hid2.mk (LM.out k hm)
        have HC1 := Hid2.mk (HCY.out k hlt)
        have hz2 := HCZ.out k hlt
        have hcl := HCL.out k hlt
        have hlc := LL.out k (clen p k)
        have hll := tdL_len (fun y => (cyM p k).testBit y) 10
        rw [hz2] at hll
        have HT1 := Hid2.mk (HTD.out (cyM p k))
        have HMA := Hid2.mk (fun (i : Nat) hi => mksL_all (m := m) (c := cyM p k) (i := i) hi)
        have HEL := Hid2.mk (fun x (h : x ∈ tdL (fun y => (cyM p k).testBit y) 10) => (tdL_mem.1 h).1)
        have hpos : 0 < clen p k := by
          rcases Nat.eq_zero_or_pos (clen p k) with h0 | h0
          · exfalso
            rw [h0] at hz2
            have := tdL_len (fun y => (cyM p k).testBit y) 10
            rw [hz2] at this
            have h5 := List.eq_nil_of_length_eq_zero this
            have h6 : k ∈ tdL (fun y => (cyM p k).testBit y) 10 := tdL_mem.2 ⟨by omega, HKB.out k hlt⟩
            rw [h5] at h6; cases h6
          · exact h0
        clear hm hbit hb hmet hz2
        generalize tdL (fun y => (cyM p k).testBit y) 10 = l at *
        generalize cyM p k = cy at *
        generalize clen p k = cl at *
        go_wp2_with (first | ((with_reducible apply wpM_lda' M 3 66 0 (bys p)); rfl; rfl; rfl; exact ⟨rfl, inf_plc.trans (congrArg some (bys_size ..).symm), _, und_plc, rfl⟩; exact whole_of rfl) | (go_at_call 53; ((with_reducible refine (HC1.out _).mono ?_); rintro e w1 ⟨rfl, hb⟩; have hsz := M.size; (try (have G9 := G.later hb; clear G; have G := G9; clear G9)); have M9 := M.later hb; clear M; (try clear C); have M := M9; clear M9; have C := M.ruleAll; simp only [Go.Proofs.Yteonahoboligdaa.ruleAll] at C)) | (go_at_call 46; fail))
        refine (HT1.out _).mono ?_
        rintro e w5 ⟨vc, rfl, M'⟩
        have M9 := M.joinRow M'
        obtain ⟨gc, cc, rfl, M8⟩ := M9.rowRd 0 rfl (by omega) (i64F l) (fun j hj => i64N_at hj)
        simp only [List.set_cons_zero] at M8
        clear M; (try clear C)
        clear M9 M' dlt q1
        subst hll
        go_wp2
        go_loopw [13] (fun i wr => ∃ j : Nat, j ≤ l.length ∧ i = .int .i64 (j : Int) ∧ Mm no w wr [.rd gc l.length (i64F l), .row w.heap.size (.slice (some ⟨bo, 0, none⟩) 0 0) 0 [] 2 1, .box bc (n11 (lcn p k)) 68, .box bm (bls (mksL m l j)) 56, .box bp (bys p) 66, .box bq (sqs (n : Int) t) 30]) (fun i _ => l.length - (intOf i).toNat)
        case atStart => exact ⟨0, by omega, rfl, M8.eq (by rw [mksL_zero])⟩
        case round =>
          clear M8
          obtain ⟨j, hj, rfl, M9⟩ := hrel
          have M := M9
          clear M9
          have C := M.ruleAll; simp only [Go.Proofs.Yteonahoboligdaa.ruleAll] at C
          by_cases hjl : j < l.length
          · have hjl' : (j : Int) < (l.length : Int) := by omega
            have hx := List.getElem?_eq_getElem hjl
            have hx10 := HEL.out _ (List.getElem_mem hjl)
            generalize l[j] = x at hx hx10
            have HS := Hid2.mk (mksL_set (m := m) hx)
            have c1 := i64F_at hx
            have hx10' : (x : Int) < 10 := by omega
            clear hx
            go_wp2_with (first | ((with_reducible apply wpM_st' M 3 4 (x) (bls (mksL m l (j + 1)))); rfl; rfl; rfl; (first | exact .inl (by assumption) | exact .inr rfl | exact .inr (by assumption)); exact ⟨rfl, rfl, by kernel_rfl⟩; (exact Nat.lt_of_lt_of_eq (by omega) (bls_size _).symm); exact HS.out; clear M; (try clear C); intro w9 M; simp only [List.set_cons_zero, List.set_cons_succ, entBlk, entT, List.getElem?_cons_zero, List.getElem?_cons_succ] at M; have C := M.ruleAll; simp only [Go.Proofs.Yteonahoboligdaa.ruleAll] at C))
            go_roundw
            case rel => exact ⟨j + 1, by omega, by go_num, M⟩
            case measure => simp [intOf]; omega
          · obtain rfl : j = l.length := by omega
            have hge : ¬ ((l.length : Int) < (l.length : Int)) := by omega
            have q3 := n11_get (f := lcn p k) (i := l.length) (by omega)
            have HE2 := Hid2.mk (show (n11 (lcn p k)).setIfInBounds l.length (.int .i64 ((lcn p k l.length : Int) + 1)) = n11 (lcn p (k + 1)) from HE.out)
            have hA := HMA.out l.length rfl
            generalize lcn p k l.length = cv at *
            go_wp2_with (first | ((with_reducible apply wpM_st' M 2 2 (l.length) (n11 (lcn p (k + 1)))); rfl; rfl; rfl; (first | exact .inl (by assumption) | exact .inr rfl | exact .inr (by assumption)); exact ⟨rfl, rfl, by kernel_rfl⟩; (exact Nat.lt_of_lt_of_eq (by omega) (n11_size _).symm); exact HE2.out; clear M; (try clear C); intro w9 M; simp only [List.set_cons_zero, List.set_cons_succ, entBlk, entT, List.getElem?_cons_zero, List.getElem?_cons_succ] at M; have C := M.ruleAll; simp only [Go.Proofs.Yteonahoboligdaa.ruleAll] at C))
            go_roundw
            case rel => exact ⟨k + 1, m ||| cy, by omega, by go_num, HST.out, (M.sub [1, 2, 3, 4, 5] (by decide)).eq (by rw [hA]; rfl)⟩
            case measure => simp [intOf]; omega
    · obtain rfl : k = n := by omega
      have dge : decide ((k : Int) < (k : Int)) = false := decide_eq_false (by omega)
      clear hmet
      have HCN := Hid2.mk (fun j => LL.out k j)
      generalize hcnt : lcn p k = cnt at *
      have HCQ := Hid2.mk hcnt
      clear hcnt
      have HCT := Hid2.mk (fun m => ctL_len (cnt := cnt) (fun j => Nat.le_trans (HCN.out j) (by omega)) m)
      go_wp2
      have M8 := M.sub [0, 1] (by decide)
      clear M; (try clear C)
      clear dge
      go_loopw [14, 15, 10] (fun i _ o wr => ∃ (j : Nat) (v : Value), j ≤ 10 ∧ i = .int .i64 ((j : Int) + 1) ∧ o = v ∧ Mm no w wr [.row w.heap.size v (ctL cnt j).length (i64N (ctL cnt j)) 2 1, .box bc (n11 cnt) 68]) (fun i _ _ _ => 11 - (intOf i).toNat)
      case atStart => exact ⟨0, _, by omega, rfl, rfl, M8⟩
      case round =>
        clear M8
        obtain ⟨j, v, hj, rfl, rfl, M9⟩ := hrel
        obtain ⟨pp, cc, rfl⟩ := own_form (M9.row 0 rfl)
        have M := M9
        clear M9
        have C := M.ruleAll; simp only [Go.Proofs.Yteonahoboligdaa.ruleAll] at C
        by_cases hj10 : j < 10
        · have q4 := n11_get (f := cnt) (i := j + 1) (by omega)
          have hcn := HCN.out (j + 1)
          have hj10' : (j : Int) < 10 := by omega
          have dle : decide ((j : Int) + 1 ≤ 10) = true := decide_eq_true (by omega)
          have hcn' : ((cnt (j + 1) : Nat) : Int) ≤ 10 := by omega
          have HNX := Hid2.mk (show ctL cnt (j + 1) = ctL cnt j ++ List.replicate (cnt (j + 1)) (j + 1) from rfl)
          have hlo := HCT.out j
          generalize cnt (j + 1) = c at *
          generalize ctL cnt j = out at *
          go_wp2
          have M8 := M
          clear M; (try clear C)
          clear dle
          go_loopw [15, 10] (fun i o wr => ∃ (r s : Nat) (v : Value), r + s = c ∧ i = .int .i64 (s : Int) ∧ o = v ∧ Mm no w wr [.row w.heap.size v (out ++ List.replicate r (j + 1)).length (i64N (out ++ List.replicate r (j + 1))) 2 1, .box bc (n11 cnt) 68]) (fun i _ _ => (intOf i).toNat)
          case atStart => exact ⟨0, c, _, by omega, rfl, rfl, M8.eq (by simp)⟩
          case round =>
            clear M8
            obtain ⟨r, s, v, hr, rfl, rfl, M9⟩ := hrel
            obtain ⟨pp2, cc2, rfl⟩ := own_form (M9.row 0 rfl)
            have M := M9
            clear M9
            have C := M.ruleAll; simp only [Go.Proofs.Yteonahoboligdaa.ruleAll] at C
            by_cases hrc : 0 < s
            · have hg : (0 : Int) < (s : Int) := by omega
              have hs10 : (s : Int) ≤ 10 := by omega
              have hle : (out ++ List.replicate r (j + 1)).length ≤ 200 := by rw [List.length_append, List.length_replicate]; omega
              have HRP := Hid2.mk (show out ++ List.replicate (r + 1) (j + 1) = (out ++ List.replicate r (j + 1)) ++ [j + 1] by rw [List.append_assoc, List.replicate_succ'])
              generalize out ++ List.replicate r (j + 1) = o2 at *
              go_wp2_with (first | ((with_reducible apply wpM_bsl' M 33 1 2 ([(0, .int .i64 ((j : Int) + 1))]) (#[.int .i64 ((j : Int) + 1)])); rfl; rfl; rfl; exact bsl_n1 _; clear M; (try clear C); intro bb w9 h_bb M; have C := M.ruleAll; simp only [Go.Proofs.Yteonahoboligdaa.ruleAll] at C) | ((with_reducible apply wpM_app' M 33 1 0 (w.heap.size) (.slice pp2 o2.length cc2) (o2.length) (i64N o2) 2 1 8); rfl; rfl; rfl; rfl; rfl; rfl; rfl; (first | exact .inl (Nat.le_refl _) | exact .inl (by assumption) | exact .inr (by assumption) | exact .inr HDv.out); (first | exact M.size | (have hq := M.size; omega)); exact und_sln; exact inf_eln; rfl; decide; decide; rfl; exact rfl; exact flat_n1 _; omega; clear M; (try clear C); intro v2 w9 far_v2 M; simp only [List.set_cons_zero, List.set_cons_succ, entBlk, entT, List.getElem?_cons_zero, List.getElem?_cons_succ] at M; obtain ⟨pp_v2, cap_v2, rfl⟩ := own_form (M.row 1 rfl); have C := M.ruleAll; simp only [Go.Proofs.Yteonahoboligdaa.ruleAll] at C))
              go_roundw
              case rel => exact ⟨r + 1, s - 1, _, by omega, by go_num, rfl, (M.sub [1, 2] (by decide)).eq (by rw [HRP.out, i64N_app]; simp only [List.length_append, List.length_singleton]; rfl)⟩
              case measure => simp [intOf]; omega
            · obtain rfl : s = 0 := by omega
              obtain rfl : r = c := by omega
              go_wp2
              go_roundw
              case rel => exact ⟨j + 1, _, by omega, by go_num, rfl, by rw [HNX.out]; exact M⟩
              case measure => simp [intOf]; omega
        · obtain rfl : j = 10 := by omega
          go_wp2
          go_ret
          exact ⟨_, rfl, by rw [HCQ.out]; exact M.sub [0] (by decide)⟩
end Go.Proofs.Yteonahoboligdaa
