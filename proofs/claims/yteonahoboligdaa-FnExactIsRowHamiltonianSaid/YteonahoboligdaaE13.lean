/- IsRowHamiltonian, on both sides, and the law: contracts. -/
import Derived.Test.YteonahoboligdaaE10
import Derived.Test.YteonahoboligdaaE12
import Derived.Test.YteonahoboligdaaU0
import Derived.Test.YteonahoboligdaaC5
namespace Go.Proofs.Yteonahoboligdaa
set_option linter.unusedSimpArgs false
set_option linter.unusedVariables false
open Go Go.RowKit

/-! ### One cycle, both ways round -/
theorem lens_mono (f : Nat → Nat) (k : Nat) : (lens f k).length ≤ (lens f (k + 1)).length := by
  rw [lens]
  split
  · exact Nat.le_refl _
  · rw [List.length_append]; omega
theorem lens_ge (f : Nat → Nat) {k m : Nat} (h : k ≤ m) : (lens f k).length ≤ (lens f m).length := by
  induction h with
  | refl => exact Nat.le_refl _
  | step _ ih => exact Nat.le_trans ih (lens_mono f _)
theorem lens_first (f : Nat → Nat) : (lens f 1).length = 1 := by
  rw [lens, if_neg (fun ⟨c, hc, _⟩ => by omega)]
  simp [lens]
theorem one_cycle {f : Nat → Nat} {n : Nat} (hn : 1 ≤ n) : (lens f n).length = 1 ↔ ∀ y, y < n → inO f 0 y := by
  constructor
  · intro h
    have hmet : ∀ k, 1 ≤ k → k < n → metC f k k := fun k h1 h2 => by
      apply Classical.byContradiction
      intro hm
      have e : (lens f (k + 1)).length = (lens f k).length + 1 := by rw [lens, if_neg hm, List.length_append, List.length_singleton]
      have h3 := lens_ge f (show k + 1 ≤ n from h2)
      have h4 := lens_ge f h1
      rw [lens_first] at h4
      omega
    intro y
    induction y using Nat.strongRecOn with
    | ind y ih =>
      intro hy
      rcases Nat.eq_zero_or_pos y with h0 | h0
      · subst h0; exact inO_refl f 0
      · obtain ⟨c, hc, hcy⟩ := hmet y h0 hy
        exact inO_trans (ih c hc (by omega)) hcy
  · intro h
    have key : ∀ k, k < n → (lens f (k + 1)).length = 1 := fun k => by
      induction k with
      | zero => intro _; exact lens_first f
      | succ k ih =>
        intro hk
        rw [lens, if_pos ⟨0, by omega, h _ hk⟩]
        exact ih (by omega)
    obtain ⟨m, rfl⟩ : ∃ m, n = m + 1 := ⟨n - 1, by omega⟩
    exact key m (by omega)
theorem inO_inv {n : Nat} {f g : Nat → Nat} (hf : Pm n f) (hg : Pm n g) (h : ∀ y, y < n → g (f y) = y) {y : Nat} (h0 : 0 < n) (hy : inO f 0 y) : inO g 0 y := by
  obtain ⟨i, rfl⟩ := hy
  have key : ∀ i, it g i (it f i 0) = 0 := fun i => by
    induction i with
    | zero => rfl
    | succ i ih =>
      rw [it_add g _ i 1]
      show it g i (g (f (it f i 0))) = 0
      rw [h _ (it_lt hf h0 i), ih]
  exact inO_symm hg (it_lt hf h0 i) ⟨i, key i⟩
theorem sg_inv {n : Nat} {t : Nat → Nat → Nat} (hs : IsSq (n : Int) t) {a b : Nat} (ha : a < n) (hb : b < n) (y : Nat) (hy : y < n) : sg t b a (sg t a b y) = y := by
  have hl := Lat.of_sq hs
  have h1 := hl.lt b y hb hy
  have e1 := lq_lt hs (x := a) (z := t b y) (by omega) (by omega)
  show lq t b (t a (lq t a (t b y))) = y
  rw [e1.2.1]
  have e2 := lq_lt hs (x := b) (z := t b y) (by omega) (by omega)
  exact hl.left b _ _ hb (by omega) hy e2.2.1
theorem rc_symm {n : Nat} {t : Nat → Nat → Nat} (hs : IsSq (n : Int) t) {a b : Nat} (ha : a < n) (hb : b < n) : (rcL n t a b).length = 1 → (rcL n t b a).length = 1 := by
  have h1 : 1 ≤ n := by have := hs.lo; omega
  rw [← srt_rcL n t hs ha hb, ← srt_rcL n t hs hb ha, srtL_len, srtL_len, one_cycle h1, one_cycle h1]
  exact fun h y hy => inO_inv (sg_pm hs ha hb) (sg_pm hs hb ha) (sg_inv hs ha hb) h1 (h y hy)

/-- Whether any two rows have one cycle. -/
noncomputable def rhP (n : Nat) (t : Nat → Nat → Nat) (m : Nat) : Bool := (m / n == m % n) || ((rcL n t (m / n) (m % n)).length == 1)
noncomputable def rhB (n : Nat) (t : Nat → Nat → Nat) : Bool := (List.range (n * n)).all (rhP n t)
theorem rhP_at {n : Nat} (t : Nat → Nat → Nat) (x : Nat) {y : Nat} (hy : y < n) : rhP n t (x * n + y) = ((x == y) || ((rcL n t x y).length == 1)) := by
  unfold rhP
  have h1 : (x * n + y) / n = x := by rw [Nat.mul_comm, Nat.mul_add_div (by omega), Nat.div_eq_of_lt hy, Nat.add_zero]
  have h2 : (x * n + y) % n = y := by rw [Nat.mul_comm, Nat.mul_add_mod, Nat.mod_eq_of_lt hy]
  rw [h1, h2]
theorem rhB_true {n : Nat} {t : Nat → Nat → Nat} (hs : IsSq (n : Int) t) (h : ∀ a b, a < n → b < a → (rcL n t a b).length = 1) : rhB n t = true := by
  have h0 : 1 ≤ n := by have := hs.lo; omega
  refine all_lt fun m hm => ?_
  have hx : m / n < n := Nat.div_lt_of_lt_mul hm
  have hy : m % n < n := Nat.mod_lt _ h0
  unfold rhP
  rcases Nat.lt_trichotomy (m / n) (m % n) with h3 | h3 | h3
  · rw [rc_symm hs hy hx (h _ _ hy h3)]; simp
  · rw [h3]; simp
  · rw [h _ _ hx h3]; simp
theorem rhB_false {n : Nat} {t : Nat → Nat → Nat} {a b : Nat} (ha : a < n) (hb : b < a) (h : (rcL n t a b).length ≠ 1) : rhB n t = false := by
  refine all_no (pair_lt ha (show b < n by omega)) ?_
  rw [rhP_at t a (by omega)]
  have h1 : (a == b) = false := beq_eq_false_iff_ne.2 (by omega)
  have h2 : ((rcL n t a b).length == 1) = false := beq_eq_false_iff_ne.2 h
  rw [h1, h2]; rfl
noncomputable def rhRes (n : Int) (t : Nat → Nat → Nat) : Bool × Int := if isSq n t = true then (rhB n.toNat t, 0) else (false, 1)

set_option maxRecDepth 100000 in
set_option maxHeartbeats 2000000 in
theorem specIsRowHam_any (n : Int) (t : Nat → Nat → Nat) (hby : Byt2 t) (w : World) :
    Calls Try.prog 9 #[.agg (sqs n t)] w fun e w' => e = .returned (.tuple #[.bool (rhRes n t).1, .int .i64 (rhRes n t).2]) ∧ Below w.heap.size w w' := by
  have M := Mm.start no w
  have H1 := Hid2.mk (fun w1 => l01Is_any n t w1 hby)
  unfold rhRes
  cases hq : isSq n t with
  | false =>
    rw [hq] at H1
    rw [if_neg (by decide)]
    clear hby hq
    go_enter Try.func9, Try.ntmps9
    go_wp2_with (first | ((with_reducible apply wpM_box' M 30 (sqs n t)); rfl; exact ⟨rfl, rfl⟩; clear M; (try clear C); intro bq w9 h_bq M; have C := M.ruleAll; simp only [Go.Proofs.Yteonahoboligdaa.ruleAll] at C) | ((with_reducible apply wpM_lda' M 0 30 0 (sqs n t)); rfl; rfl; rfl; exact ⟨rfl, inf_sqs.trans (congrArg some (sqs_size ..).symm), _, und_sqs, rfl⟩; exact whole_of rfl) | (go_at_call 28; ((with_reducible refine (H1.out _).mono ?_); rintro e w1 ⟨rfl, hb⟩; have hsz := M.size; (try (have G9 := G.later hb; clear G; have G := G9; clear G9)); have M9 := M.later hb; clear M; (try clear C); have M := M9; clear M9; have C := M.ruleAll; simp only [Go.Proofs.Yteonahoboligdaa.ruleAll] at C)))
    go_ret2
    exact ⟨rfl, M.below⟩
  | true =>
    rw [hq] at H1
    rw [if_pos rfl]
    have hs := isSq_true.1 hq
    have hlo : (1 : Int) ≤ n := hs.lo
    have hhi : n ≤ 10 := hs.hi
    obtain ⟨N, rfl⟩ : ∃ N : Nat, n = N := ⟨n.toNat, by omega⟩
    rw [Int.toNat_natCast]
    have HB := Hid2.mk (fun (h : ∀ a b, a < N → b < a → (rcL N t a b).length = 1) => rhB_true hs h)
    have HN := Hid2.mk (fun a b (ha : a < N) (hb : b < a) (h : (rcL N t a b).length ≠ 1) => rhB_false ha hb h)
    have HL : Hid2 (∀ a b, a < N → b < N → ∀ w1, Calls Try.prog 29 #[.agg (sqs (N : Int) t), .int .u8 (a : Int), .int .u8 (b : Int)] w1 fun e w' => ∃ v, e = .returned v ∧ Mm no w1 w' [.row w1.heap.size v (rcL N t a b).length (i64N (rcL N t a b)) 2 1]) := ⟨fun a b ha hb w1 => l09Lengths_any N t hs a b ha hb w1⟩
    have HLN := Hid2.mk (fun a b => rcL_len N (by omega) t a b)
    have so := sqs_order (N : Int) t
    generalize rhB N t = res at *
    generalize hrc : rcL N t = rc at *
    clear hby hq hs hrc
    go_enter Try.func9, Try.ntmps9
    go_wp2_with (first | ((with_reducible apply wpM_box' M 30 (sqs (N : Int) t)); rfl; exact ⟨rfl, rfl⟩; clear M; (try clear C); intro bq w9 h_bq M; have C := M.ruleAll; simp only [Go.Proofs.Yteonahoboligdaa.ruleAll] at C) | ((with_reducible apply wpM_lda' M 0 30 0 (sqs (N : Int) t)); rfl; rfl; rfl; exact ⟨rfl, inf_sqs.trans (congrArg some (sqs_size ..).symm), _, und_sqs, rfl⟩; exact whole_of rfl) | (go_at_call 28; ((with_reducible refine (H1.out _).mono ?_); rintro e w1 ⟨rfl, hb⟩; have hsz := M.size; (try (have G9 := G.later hb; clear G; have G := G9; clear G9)); have M9 := M.later hb; clear M; (try clear C); have M := M9; clear M9; have C := M.ruleAll; simp only [Go.Proofs.Yteonahoboligdaa.ruleAll] at C)))
    go_loopw [4, 5] (fun i _ wr => ∃ k : Nat, k ≤ N ∧ i = .int .u8 (k : Int) ∧ Hid2 (∀ a b, a < k → b < a → (rc a b).length = 1) ∧ Mm no w wr [.box bq (sqs (N : Int) t) 30]) (fun i _ _ => N - (intOf i).toNat)
    case atStart => exact ⟨0, by omega, rfl, ⟨fun a b h => by omega⟩, M⟩
    case round =>
      obtain ⟨k, hk, rfl, HK, M9⟩ := hrel
      clear M; (try clear C)
      have M := M9
      clear M9
      have C := M.ruleAll; simp only [Go.Proofs.Yteonahoboligdaa.ruleAll] at C
      by_cases hlt : k < N
      · have hlt' : (k : Int) < (N : Int) := by omega
        have hk10 : (k : Int) < 10 := by omega
        have dlt : decide ((k : Int) < (N : Int)) = true := decide_eq_true hlt'
        go_wp2
        clear dlt
        go_loopw [5] (fun j wr => ∃ l : Nat, l ≤ k ∧ j = .int .u8 (l : Int) ∧ Hid2 (∀ b, b < l → (rc k b).length = 1) ∧ Mm no w wr [.box bq (sqs (N : Int) t) 30]) (fun j _ => k - (intOf j).toNat)
        case atStart => exact ⟨0, by omega, rfl, ⟨fun b h => by omega⟩, M⟩
        case round =>
          obtain ⟨l, hl, rfl, HI, M9⟩ := hrel
          clear M; (try clear C)
          have M := M9
          clear M9
          have C := M.ruleAll; simp only [Go.Proofs.Yteonahoboligdaa.ruleAll] at C
          by_cases hl2 : l < k
          · have hl2' : (l : Int) < (k : Int) := by omega
            have hl10 : (l : Int) < 10 := by omega
            have dlt : decide ((l : Int) < (k : Int)) = true := decide_eq_true hl2'
            have HC := Hid2.mk (HL.out k l hlt (by omega))
            have HN1 := Hid2.mk (HN.out k l hlt hl2)
            have hle := HLN.out k l
            have HST := Hid2.mk (fun (h : (rc k l).length = 1) => show ∀ b, b < l + 1 → (rc k b).length = 1 from fun b hb => if e : b = l then by rw [e]; exact h else HI.out b (by omega))
            generalize rc k l = out at HC HN1 HST hle
            go_wp2_with (first | ((with_reducible apply wpM_lda' M 0 30 0 (sqs (N : Int) t)); rfl; rfl; rfl; exact ⟨rfl, inf_sqs.trans (congrArg some (sqs_size ..).symm), _, und_sqs, rfl⟩; exact whole_of rfl) | (go_at_call 29; fail))
            refine (HC.out _).mono ?_
            rintro e w2 ⟨v, rfl, M'⟩
            have M9 := M.joinRow M'
            obtain ⟨pp, cc, rfl⟩ := own_form (M9.row 0 rfl)
            clear M; (try clear C)
            have M := M9
            clear M9 M'
            by_cases h1 : out.length = 1
            · have HE := Hid2.mk (HST.out h1)
              have d1 : ((out.length : Int) == 1) = true := by rw [h1]; rfl
              have d2 : ((out.length : Int) != 1) = false := by rw [h1]; rfl
              clear HN1 HST
              generalize out.length = ol at *
              go_wp2
              go_roundw
              case rel => exact ⟨l + 1, by omega, by go_num, HE, M.sub [1] (by decide)⟩
              case measure => simp [intOf]; omega
            · have HE := Hid2.mk (HN1.out h1)
              have d1 : ((out.length : Int) == 1) = false := by simp; omega
              have d2 : ((out.length : Int) != 1) = true := by rw [bne, d1]; rfl
              clear HN1 HST
              generalize out.length = ol at *
              go_wp2
              go_ret2
              exact ⟨by rw [HE.out]; rfl, M.below⟩
          · obtain rfl : l = k := by omega
            have hge : ¬ ((l : Int) < (l : Int)) := by omega
            have HE := Hid2.mk (show ∀ a b, a < l + 1 → b < a → (rc a b).length = 1 from fun a b ha hb => if e : a = l then by rw [e]; exact HI.out b (by omega) else HK.out a b (by omega) hb)
            go_wp2
            go_roundw
            case rel => exact ⟨l + 1, by omega, by go_num, HE, M⟩
            case measure => simp [intOf]; omega
      · obtain rfl : k = N := by omega
        have hge : ¬ ((k : Int) < (k : Int)) := by omega
        have HE := Hid2.mk (HB.out HK.out)
        go_wp2
        go_ret2
        exact ⟨by rw [HE.out]; rfl, M.below⟩

set_option maxRecDepth 100000 in
set_option maxHeartbeats 2000000 in
theorem rhFn_any (n : Nat) (t : Nat → Nat → Nat) (hs : IsSq (n : Int) t) (x y bq : Nat) (hx : x < n) (hy : y < n) (w0 w : World) (L : List Ent) (M0 : Mm no w0 w (.box bq (sqs (n : Int) t) 30 :: L)) :
    Calls Try.prog 33 #[.int .u8 (x : Int), .int .u8 (y : Int), .pointer (some ⟨bq, 0, none⟩)] w fun e w' => e = .returned (.bool (rhP n t (x * n + y))) ∧ Mm no w0 w' (.box bq (sqs (n : Int) t) 30 :: L) := by
  have M := M0
  have hn : n ≤ 10 := by have := hs.hi; omega
  have HC := Hid2.mk (fun w1 => implCycles_any n t hs x y hx hy w1)
  rw [srt_rcL n t hs hx hy] at HC
  rw [rhP_at t x hy]
  have hle := rcL_len n hn t x y
  generalize rcL n t x y = out at HC hle ⊢
  have hx10 : (x : Int) < 10 := by omega
  have hy10 : (y : Int) < 10 := by omega
  clear M0 hs
  have C := M.ruleAll; simp only [Go.Proofs.Yteonahoboligdaa.ruleAll] at C
  go_enter Try.func33, Try.ntmps33
  by_cases e : x = y
  · subst e
    have hd : ((x : Int) == (x : Int)) = true := by simp
    go_wp2
    go_ret
    exact ⟨by simp, M⟩
  · have hd : ((x : Int) == (y : Int)) = false := neqI e
    have he : (x == y) = false := beq_eq_false_iff_ne.2 e
    rw [he, Bool.false_or]
    clear e he
    go_wp2_with (first | ((with_reducible apply wpM_lda' M 0 30 0 (sqs (n : Int) t)); rfl; rfl; rfl; exact ⟨rfl, inf_sqs.trans (congrArg some (sqs_size ..).symm), _, und_sqs, rfl⟩; exact whole_of rfl) | (go_at_call 34; fail))
    refine (HC.out _).mono ?_
    rintro e w2 ⟨v, rfl, hown, hbel⟩
    obtain ⟨pp, cc, rfl⟩ := own_form hown
    have M9 := M.later hbel
    clear M; (try clear C)
    have M := M9
    clear M9 hown hbel
    have hd2 : ((out.length : Int) == 1) = (out.length == 1) := by
      rw [Bool.eq_iff_iff]; simp; omega
    generalize hr : (out.length == 1) = r at hd2
    have HR := Hid2.mk hr
    clear hr
    generalize out.length = ol at hd2
    go_wp2
    go_ret
    exact ⟨by rw [HR.out]; rfl, M⟩

set_option maxRecDepth 100000 in
set_option maxHeartbeats 2000000 in
theorem implIsRowHam_any (n : Int) (t : Nat → Nat → Nat) (hby : Byt2 t) (w : World) :
    Calls Try.prog 11 #[.agg (sqs n t)] w fun e w' => e = .returned (.tuple #[.bool (rhRes n t).1, .int .i64 (rhRes n t).2]) ∧ Below w.heap.size w w' := by
  have M := Mm.start no w
  have H1 := Hid2.mk (fun w1 => isSquare_any n t w1 hby)
  unfold rhRes
  cases hq : isSq n t with
  | false =>
    rw [hq] at H1
    rw [if_neg (by decide)]
    clear hby hq
    go_enter Try.func11, Try.ntmps11
    go_wp2_with (first | ((with_reducible apply wpM_box' M 30 (sqs n t)); rfl; exact ⟨rfl, rfl⟩; clear M; (try clear C); intro bq w9 h_bq M; have C := M.ruleAll; simp only [Go.Proofs.Yteonahoboligdaa.ruleAll] at C) | ((with_reducible apply wpM_lda' M 0 30 0 (sqs n t)); rfl; rfl; rfl; exact ⟨rfl, inf_sqs.trans (congrArg some (sqs_size ..).symm), _, und_sqs, rfl⟩; exact whole_of rfl) | (go_at_call 31; ((with_reducible refine (H1.out _).mono ?_); rintro e w1 ⟨rfl, hb⟩; have hsz := M.size; (try (have G9 := G.later hb; clear G; have G := G9; clear G9)); have M9 := M.later hb; clear M; (try clear C); have M := M9; clear M9; have C := M.ruleAll; simp only [Go.Proofs.Yteonahoboligdaa.ruleAll] at C)))
    go_ret2
    exact ⟨rfl, M.below⟩
  | true =>
    rw [hq] at H1
    rw [if_pos rfl]
    have hs := isSq_true.1 hq
    have hlo : (1 : Int) ≤ n := hs.lo
    have hhi : n ≤ 10 := hs.hi
    obtain ⟨N, rfl⟩ : ∃ N : Nat, n = N := ⟨n.toNat, by omega⟩
    rw [Int.toNat_natCast]
    have hmf : ∀ (fn : Fn) (first cap : Array Value) (w : World), (Instr.makeFunc fn first cap).run Try.prog w = .ok (.func fn first cap) w := fun _ _ _ _ => rfl
    have HF := Hid2.mk (fun w1 bq (M1 : Mm no w w1 [.box bq (sqs (N : Int) t) 30]) => forPairsG N t (by omega) (by omega) 33 #[] #[.pointer (some ⟨bq, 0, none⟩)] (enters_of (P := Try.prog) (f := 33) (by exact Try.func33) (by kernel_rfl) rfl) (rhP N t) (fun _ L => L = [.box bq (sqs (N : Int) t) 30]) w w1 _ rfl M1
      (fun x y hx hy L X w2 hL M2 => by
        subst hL
        exact (rhFn_any N t hs x y bq hx hy w w2 X M2).mono fun e w' ⟨h1, h2⟩ => ⟨h1, _, fun _ => rfl, h2⟩))
    have HR := Hid2.mk (show rhB N t = (List.range (N * N)).all (rhP N t) from rfl)
    rw [← HR.out] at HF
    generalize rhB N t = res at HF ⊢
    clear hby hq hs HR
    go_enter Try.func11, Try.ntmps11
    go_wp2_with (first | ((with_reducible apply wpM_box' M 30 (sqs (N : Int) t)); rfl; exact ⟨rfl, rfl⟩; clear M; (try clear C); intro bq w9 h_bq M; have C := M.ruleAll; simp only [Go.Proofs.Yteonahoboligdaa.ruleAll] at C) | ((with_reducible apply wpM_lda' M 0 30 0 (sqs (N : Int) t)); rfl; rfl; rfl; exact ⟨rfl, inf_sqs.trans (congrArg some (sqs_size ..).symm), _, und_sqs, rfl⟩; exact whole_of rfl) | (go_at_call 31; ((with_reducible refine (H1.out _).mono ?_); rintro e w1 ⟨rfl, hb⟩; have hsz := M.size; (try (have G9 := G.later hb; clear G; have G := G9; clear G9)); have M9 := M.later hb; clear M; (try clear C); have M := M9; clear M9; have C := M.ruleAll; simp only [Go.Proofs.Yteonahoboligdaa.ruleAll] at C)) | (go_at_call 32; fail))
    refine (HF.out _ _ M).mono ?_
    rintro e w2 ⟨rfl, L', _, M'⟩
    have hB := M'.below
    clear M; (try clear C)
    clear M'
    go_wp2
    go_ret2
    exact ⟨rfl, hB⟩

set_option maxRecDepth 100000 in
set_option maxHeartbeats 4000000 in
theorem lawIsRowHam_any (n : Int) (t : Nat → Nat → Nat) (hby : Byt2 t) (w : World) :
    Calls Try.prog 3 #[.agg (sqs n t)] w fun e w' => e = .returned (.bool true) ∧ Below w.heap.size w w' := by
  have M := Mm.start no w
  have HSP := Hid2.mk (fun w1 => specIsRowHam_any n t hby w1)
  have HIM := Hid2.mk (fun w1 => implIsRowHam_any n t hby w1)
  have HTQ := Hid2.mk (fun w1 => toSquare_any n t w1)
  clear hby
  generalize (rhRes n t).1 = r at HSP HIM
  generalize (rhRes n t).2 = code at HSP HIM
  have hcc : (code == code) = true := by simp
  have hcn : (code != code) = false := by simp
  have hrc : (r == r) = true := by simp
  have hrn : (r != r) = false := by simp
  go_enter Try.func3, Try.ntmps3
  go_wp2_with (first | ((with_reducible apply wpM_box' M 25 (sqs n t)); rfl; exact ⟨rfl, rfl⟩; clear M; (try clear C); intro bq w9 h_bq M; have C := M.ruleAll; simp only [Go.Proofs.Yteonahoboligdaa.ruleAll] at C) | ((with_reducible apply wpM_lda' M 0 25 0 (sqs n t)); rfl; rfl; rfl; exact ⟨rfl, inf_sq0.trans (congrArg some (sqs_size ..).symm), _, und_sq0, rfl⟩; exact whole_of rfl) | (go_at_call 10; ((with_reducible refine (HTQ.out _).mono ?_); rintro e w1 ⟨rfl, hb⟩; have hsz := M.size; (try (have G9 := G.later hb; clear G; have G := G9; clear G9)); have M9 := M.later hb; clear M; (try clear C); have M := M9; clear M9; have C := M.ruleAll; simp only [Go.Proofs.Yteonahoboligdaa.ruleAll] at C)) | (go_at_call 9; ((with_reducible refine (HSP.out _).mono ?_); rintro e w1 ⟨rfl, hb⟩; have hsz := M.size; (try (have G9 := G.later hb; clear G; have G := G9; clear G9)); have M9 := M.later hb; clear M; (try clear C); have M := M9; clear M9; have C := M.ruleAll; simp only [Go.Proofs.Yteonahoboligdaa.ruleAll] at C)) | (go_at_call 11; ((with_reducible refine (HIM.out _).mono ?_); rintro e w1 ⟨rfl, hb⟩; have hsz := M.size; (try (have G9 := G.later hb; clear G; have G := G9; clear G9)); have M9 := M.later hb; clear M; (try clear C); have M := M9; clear M9; have C := M.ruleAll; simp only [Go.Proofs.Yteonahoboligdaa.ruleAll] at C)))
  go_ret
  exact ⟨rfl, M.below⟩
end Go.Proofs.Yteonahoboligdaa
