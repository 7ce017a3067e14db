/- The cycles of two rows, for the program: a contract. -/
import Derived.Test.YteonahoboligdaaE1
import Derived.Test.YteonahoboligdaaK12
namespace Go.Proofs.Yteonahoboligdaa
set_option linter.unusedSimpArgs false
set_option linter.unusedVariables false
open Go Go.RowKit

def i64N (l : List Nat) : List Value := l.map fun (x : Nat) => Value.int .i64 (x : Int)
theorem i64N_app (l : List Nat) (x : Nat) : i64N (l ++ [x]) = i64N l ++ [.int .i64 (x : Int)] := by simp [i64N]
theorem bsl_n0 (w : World) : (Instr.buildSlice 33 0 [].toArray).run Try.prog w = .ok (.slice (some ⟨w.heap.size, 0, none⟩) 0 0) (w.alloc (.cells #[] 2)) := by kernel_rfl
theorem bsl_n1 (x : Int) (w : World) : (Instr.buildSlice 33 1 [(0, Value.int .i64 x)].toArray).run Try.prog w = .ok (.slice (some ⟨w.heap.size, 0, none⟩) 1 1) (w.alloc (.cells #[.int .i64 x] 2)) := by kernel_rfl
theorem und_sln : Try.prog.underlying 33 = some (.slice 2) := by kernel_rfl
theorem inf_eln : (Try.prog.info? 2).map (fun i => (i.zero, i.size, i.bytes)) = some (some (.int .i64 0), 1, 8) := by kernel_rfl
theorem flat_n1 (x : Int) : flat #[.int .i64 x] := fun u hu => by
  have : u = .int .i64 x := by simpa using hu
  subst this; rfl
/-- A mask with the bits of the numbers met. -/
def MetM (f : Nat → Nat) (k m : Nat) : Prop := m < 1024 ∧ ∀ y, m.testBit y = true ↔ metC f k y
theorem MetM.start (f : Nat → Nat) : MetM f 0 0 := ⟨by decide, fun y => ⟨fun h => by simp at h, fun ⟨c, h, _⟩ => by omega⟩⟩
theorem MetM.skip {f : Nat → Nat} {k m : Nat} (h : MetM f k m) (hm : metC f k k) : MetM f (k + 1) m := ⟨h.1, fun y => (h.2 y).trans ⟨fun ⟨c, hc, e⟩ => ⟨c, by omega, e⟩, fun ⟨c, hc, e⟩ => by
  rcases Nat.lt_or_ge c k with h3 | h3
  · exact ⟨c, h3, e⟩
  · obtain rfl : c = k := by omega
    obtain ⟨d, hd, hdc⟩ := hm
    exact ⟨d, hd, inO_trans hdc e⟩⟩⟩
theorem MetM.more {n : Nat} {f : Nat → Nat} (hf : Pm n f) (hn : n ≤ 10) {k m : Nat} (hk : k < n) (h : MetM f k m) : MetM f (k + 1) (m ||| cyM f k) :=
  ⟨Nat.or_lt_two_pow (n := 10) h.1 (cyM_lt hf hn hk _), fun y => by
    rw [Nat.testBit_or, Bool.or_eq_true, h.2, cyM_bit hf hk]
    exact ⟨fun h => h.elim (fun ⟨c, hc, e⟩ => ⟨c, by omega, e⟩) fun e => ⟨k, by omega, e⟩, fun ⟨c, hc, e⟩ => by
      rcases Nat.lt_or_ge c k with h3 | h3
      · exact .inl ⟨c, h3, e⟩
      · obtain rfl : c = k := by omega
        exact .inr e⟩⟩

set_option maxRecDepth 100000 in
set_option maxHeartbeats 4000000 in
theorem cycles_any (n : Nat) (t : Nat → Nat → Nat) (hs : IsSq (n : Int) t) (a b : Nat) (ha : a < n) (hb : b < n) (w : World) (S : List Nat)
    (HSORT : ∀ w1 v, w.heap.size ≤ w1.heap.size → w1.ownsRow w.heap.size 2 1 v (lens (sg t a b) n).length (i64N (lens (sg t a b) n)) → Calls Try.prog 60 #[v] w1 fun e w' => e = .returned (.tuple #[]) ∧ Below w.heap.size w1 w' ∧ w'.ownsRow w.heap.size 2 1 v (lens (sg t a b) n).length (i64N S)) :
    Calls Try.prog 34 #[.agg (sqs (n : Int) t), .int .u8 (a : Int), .int .u8 (b : Int)] w fun e w' => ∃ v, e = .returned v ∧ w'.ownsRow w.heap.size 2 1 v (lens (sg t a b) n).length (i64N S) ∧ Below w.heap.size w w' := by
  have M := Mm.start no w
  have hn : n ≤ 10 := by have := hs.hi; omega
  have h1' : (1 : Int) ≤ n := hs.lo
  have hn' : (n : Int) ≤ 10 := by omega
  have hf := sg_pm hs ha hb
  have HC := Hid2.mk (fun c (hc : c < n) w1 => cycle_any n t hs a b c ha hb hc w1)
  have HZ := Hid2.mk (fun c (hc : c < n) w1 => cyM_size hf hn hc ▸ size_any (cyM (sg t a b) c) (cyM_lt hf hn hc _) w1)
  have HLS := Hid2.mk (fun k => lens_len (sg t a b) k)
  have HN := Hid2.mk (show ∀ k, lens (sg t a b) (k + 1) = lens (sg t a b) k ∨ True from fun _ => .inr trivial)
  have HSK := Hid2.mk (fun k m (h : MetM (sg t a b) k m) (hm : metC (sg t a b) k k) => h.skip hm)
  have HMO := Hid2.mk (fun k m (hk : k < n) (h : MetM (sg t a b) k m) => h.more hf hn hk)
  have HM0 := MetM.start (sg t a b)
  have HCL := Hid2.mk (fun c (hc : c < n) => cyM_lt hf hn hc (clen (sg t a b) c))
  have L0 : lens (sg t a b) 0 = [] := by simp [lens]
  have LS := Hid2.mk (show ∀ k, metC (sg t a b) k k → lens (sg t a b) (k + 1) = lens (sg t a b) k from fun k h => by rw [lens, if_pos h])
  have LM := Hid2.mk (show ∀ k, ¬ metC (sg t a b) k k → lens (sg t a b) (k + 1) = lens (sg t a b) k ++ [clen (sg t a b) k] from fun k h => by rw [lens, if_neg h])
  have HSO := Hid2.mk HSORT
  clear HSORT HN
  generalize sg t a b = f at *
  clear hs hf
  go_enter Try.func34, Try.ntmps34
  go_wp2_with (first | ((with_reducible apply wpM_box' M 30 (sqs (n : Int) t)); rfl; exact ⟨rfl, rfl⟩; clear M; (try clear C); intro bq w9 h_bq M; have C := M.ruleAll; simp only [Go.Proofs.Yteonahoboligdaa.ruleAll] at C) | ((with_reducible apply wpM_bsl' M 33 0 2 ([]) (#[])); rfl; rfl; rfl; exact bsl_n0; clear M; (try clear C); intro bo w9 h_bo M; have C := M.ruleAll; simp only [Go.Proofs.Yteonahoboligdaa.ruleAll] at C) | ((with_reducible apply wpM_lda' M 1 30 0 (sqs (n : Int) t)); rfl; rfl; rfl; exact ⟨rfl, inf_sqs.trans (congrArg some (sqs_size ..).symm), _, und_sqs, rfl⟩; exact whole_of rfl) | (go_at_call 56; ((with_reducible refine (elements_any _ _ _ (by omega) (by omega)).mono ?_); rintro e w1 ⟨g1, cap_g1, rfl, hb, hg, hr⟩; have hsz := M.size; have M9 := M.gain hb (x := .rd g1 n (fun j => .int .u8 (j : Int))) hr (fun b h => by cases h; exact hg); clear M; (try clear C); have M := M9; clear M9; (try simp only [List.set_cons_zero, List.set_cons_succ] at M); have C := M.ruleAll; simp only [Go.Proofs.Yteonahoboligdaa.ruleAll] at C; clear hb hg hr)))
  have M9 := M.asRow 1 rfl w.heap.size 0 1 h_bo rfl (Nat.zero_le _)
  simp only [List.set_cons_zero, List.set_cons_succ] at M9
  have M8 := M9.sub [1, 0, 2] (by decide)
  clear M; (try clear C)
  clear M9
  go_loopw [16, 7, 8, 10, 11] (fun i o m _ _ wr => ∃ (k : Nat) (v : Value) (mm : Nat), k ≤ n ∧ i = .int .i64 (k : Int) ∧ o = v ∧ m = .int .i64 (mm : Int) ∧ MetM f k mm ∧ Mm no w wr [.row w.heap.size v (lens f k).length (i64N (lens f k)) 2 1, .rd g1 n (fun j => .int .u8 (j : Int)), .box bq (sqs (n : Int) t) 30]) (fun i _ _ _ _ _ => n - (intOf i).toNat)
  case atStart => exact ⟨0, _, 0, by omega, rfl, rfl, rfl, HM0, by rw [L0]; exact M8⟩
  case round =>
    clear M8
    obtain ⟨k, v, mm, hk, rfl, rfl, rfl, hmet, M9⟩ := hrel
    obtain ⟨pp, cc, rfl⟩ := own_form (M9.row 0 rfl)
    have M := M9
    clear M9
    have C := M.ruleAll; simp only [Go.Proofs.Yteonahoboligdaa.ruleAll] at C
    by_cases hlt : k < n
    · have hlt' : (k : Int) < (n : Int) := by omega
      have hk10 : (k : Int) < 10 := by omega
      have dlt : decide ((k : Int) < (n : Int)) = true := decide_eq_true hlt'
      have HH := Hid2.mk (fun w1 => has_any mm k hmet.1 (by omega) w1)
      have hbit := hmet.2 k
      have hlen := HLS.out k
      cases hb : mm.testBit k with
      | true =>
        rw [hb] at HH
        have hm := hbit.1 hb
        have HST := Hid2.mk (HSK.out k mm hmet hm)
        have HE := Hid2.mk (LS.out k hm)
        clear hm hbit hb hmet
        go_wp2_with (first | (go_at_call 57; ((with_reducible refine (HH.out _).mono ?_); rintro e w1 ⟨rfl, rfl⟩)))
        go_roundw
        case rel => exact ⟨k + 1, _, mm, by omega, by go_num, rfl, rfl, HST.out, by rw [HE.out]; exact M⟩
        case measure => simp [intOf]; omega
      | false =>
        rw [hb] at HH
        have hm : ¬ metC f k k := fun h => by have := hbit.2 h; rw [hb] at this; cases this
        have HST := Hid2.mk (HMO.out k mm hlt hmet)
        have HE := Hid2.mk (LM.out k hm)
        have HC1 := Hid2.mk (HC.out k hlt)
        have HZ1 := Hid2.mk (HZ.out k hlt)
        have hml := hmet.1
        have hcl : cyM f k < 1024 := HCL.out k hlt
        have hor := bits_or_i64_nat mm (cyM f k) (by omega) (by omega)
        clear hm hbit hb hmet
        generalize cyM f k = cy at *
        generalize clen f k = cl at *
        generalize lens f k = out at *
        have hcy : (cy : Int) < 1024 := by omega
        have hmm : (mm : Int) < 1024 := by omega
        go_wp2_with (first | (go_at_call 57; ((with_reducible refine (HH.out _).mono ?_); rintro e w1 ⟨rfl, rfl⟩)) | (go_at_call 59; ((with_reducible refine (HZ1.out _).mono ?_); rintro e w1 ⟨rfl, rfl⟩)) | ((with_reducible apply wpM_lda' M 2 30 0 (sqs (n : Int) t)); rfl; rfl; rfl; exact ⟨rfl, inf_sqs.trans (congrArg some (sqs_size ..).symm), _, und_sqs, rfl⟩; exact whole_of rfl) | (go_at_call 58; ((with_reducible refine (HC1.out _).mono ?_); rintro e w1 ⟨rfl, hb⟩; have hsz := M.size; (try (have G9 := G.later hb; clear G; have G := G9; clear G9)); have M9 := M.later hb; clear M; (try clear C); have M := M9; clear M9; have C := M.ruleAll; simp only [Go.Proofs.Yteonahoboligdaa.ruleAll] at C)) | ((with_reducible apply wpM_bsl' M 33 1 2 ([(0, .int .i64 (cl : Int))]) (#[.int .i64 (cl : Int)])); rfl; rfl; rfl; exact bsl_n1 _; clear M; (try clear C); intro bb w9 h_bb M; have C := M.ruleAll; simp only [Go.Proofs.Yteonahoboligdaa.ruleAll] at C) | ((with_reducible apply wpM_app' M 33 1 0 (w.heap.size) (.slice pp out.length cc) (out.length) (i64N out) 2 1 8); rfl; rfl; rfl; rfl; rfl; rfl; rfl; (first | exact .inl (Nat.le_refl _) | exact .inl (by assumption) | exact .inr (by assumption) | exact .inr HDv.out); (first | exact M.size | (have hq := M.size; omega)); exact und_sln; exact inf_eln; rfl; decide; decide; rfl; exact rfl; exact flat_n1 _; omega; clear M; (try clear C); intro v2 w9 far_v2 M; simp only [List.set_cons_zero, List.set_cons_succ, entBlk, entT, List.getElem?_cons_zero, List.getElem?_cons_succ] at M; obtain ⟨pp_v2, cap_v2, rfl⟩ := own_form (M.row 1 rfl); have C := M.ruleAll; simp only [Go.Proofs.Yteonahoboligdaa.ruleAll] at C))
        go_roundw
        case rel => exact ⟨k + 1, _, mm ||| cy, by omega, by go_num, rfl, by first | rfl | exact congrArg (Value.int .i64) hor, HST.out, by rw [HE.out]; exact (M.sub [1, 2, 3] (by decide)).eq (by rw [i64N_app]; simp only [List.length_append, List.length_singleton]; rfl)⟩
        case measure => simp [intOf]; omega
    · obtain rfl : k = n := by omega
      have hge : ¬ ((k : Int) < (k : Int)) := by omega
      go_wp2_with (first | (go_at_call 60; fail))
      refine (HSO.out _ _ M.size (M.row 0 rfl)).mono ?_
      rintro e w5 ⟨rfl, hb, hown⟩
      have hB := M.below.trans hb
      clear M; (try clear C)
      go_wp2
      go_ret
      exact ⟨_, rfl, hown, hB⟩
end Go.Proofs.Yteonahoboligdaa
