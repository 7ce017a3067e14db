/- FrattiniOf, for the program: contracts. -/
import Derived.Test.YteonahoboligdaaG11
import Derived.Test.YteonahoboligdaaG9
namespace Go.Proofs.Yteonahoboligdaa
set_option linter.unusedSimpArgs false
set_option linter.unusedVariables false
open Go Go.RowKit

theorem i64N_sG (l : List Nat) : i64N l = i64s (l.map fun x : Nat => (x : Int)) := by simp [i64N, i64s]
theorem eqN (a b : Nat) : ((a : Int) == (b : Int)) = (a == b) := by rw [Bool.eq_iff_iff]; simp; omega
theorem neN (a b : Nat) : ((a : Int) != (b : Int)) = (a != b) := by rw [bne, bne, eqN]
/-- What the test says behind the first j sets. -/
def grTo (L : List Nat) (A s j : Nat) : Bool := (s != A) && (L.take j).all fun t => (t == s) || (t == A) || ((s &&& t) != s)
theorem grTo_succ {L : List Nat} {A s j u : Nat} (h : L[j]? = some u) : grTo L A s (j + 1) = (grTo L A s j && ((u == s) || (u == A) || ((s &&& u) != s))) := by
  unfold grTo
  rw [List.take_add_one, h, Option.toList_some, List.all_append]
  simp [Bool.and_assoc]
theorem grTo_all (L : List Nat) (A s : Nat) : grTo L A s L.length = grt L A s := by unfold grTo grt; rw [List.take_length]

set_option maxRecDepth 100000 in
set_option maxHeartbeats 4000000 in
theorem frattini_any (n : Nat) (t : Nat → Nat → Nat) (hs : IsSq (n : Int) t) (w : World) :
    Calls Try.prog 48 #[.agg (sqs (n : Int) t)] w fun e w' => e = .returned (.int .i64 (fraM n t : Nat)) ∧ Below w.heap.size w w' := by
  have M := Mm.start no w
  have hn : n ≤ 10 := by have := hs.hi; omega
  have h1n : 1 ≤ n := by have := hs.lo; omega
  have HA := Hid2.mk (fun w1 => show Calls Try.prog 73 #[.agg (sqs (n : Int) t)] w1 fun e w' => e = .returned (.int .i64 (allM n : Nat)) ∧ Below w1.heap.size w1 w' from all_any n t h1n hn w1)
  have HS := Hid2.mk (fun w1 => subloops_any n t hs w1)
  have hAl := allM_lt hn
  have hAl' : (allM n : Int) < 1024 := by omega
  have hpos : 0 < (subs n t).length := List.length_pos_of_mem (subs_mem.2 (allM_sub hs))
  have hlen : (subs n t).length ≤ 1024 := by rw [subs_len]; exact allL_len n t hs
  have HLT := Hid2.mk (fun m (h : m ∈ subs n t) => (subs_mem.1 h).1)
  unfold fraM
  have HFL := Hid2.mk (fun k => fraTo_lt (L := subs n t) hAl k)
  have HF0 : fraTo (subs n t) (allM n) 0 = allM n := rfl
  have HFS := Hid2.mk (fun k s (h : (subs n t)[k]? = some s) => fraTo_succ (A := allM n) h)
  have HG0 := Hid2.mk (fun s => show grTo (subs n t) (allM n) s 0 = (s != allM n) by simp [grTo])
  have HGS := Hid2.mk (fun s j u (h : (subs n t)[j]? = some u) => grTo_succ (A := allM n) (s := s) h)
  have HGA := Hid2.mk (fun s => grTo_all (subs n t) (allM n) s)
  generalize hfr : fraTo (subs n t) (allM n) = FR at *
  generalize hgr : grTo (subs n t) (allM n) = GR at *
  generalize hgt : grt (subs n t) (allM n) = GT at *
  generalize subs n t = L at *
  generalize allM n = A at *
  clear hs hfr hgr hgt
  go_enter Try.func48, Try.ntmps48
  go_wp2_with (first | ((with_reducible apply wpM_box' M 30 (sqs (n : Int) t)); rfl; exact ⟨rfl, rfl⟩; clear M; (try clear C); intro bq w9 h_bq M; have C := M.ruleAll; simp only [Go.Proofs.Yteonahoboligdaa.ruleAll] at C))
  apply wp_region_mm M 3 (by kernel_rfl) (by kernel_rfl); (simp only [List.take_succ_cons, List.take_zero]; repeat (first | exact wpText_nil | (apply wpText_cons; (intro w2 M; have C := M.ruleAll; simp only [Go.Proofs.Yteonahoboligdaa.ruleAll] at C; go_wp2_with (first | ((with_reducible apply wpM_lda' M 0 30 0 (sqs (n : Int) t)); rfl; rfl; rfl; exact ⟨rfl, inf_sqs.trans (congrArg some (sqs_size ..).symm), _, und_sqs, rfl⟩; exact whole_of rfl) | (go_at_call 73; ((with_reducible refine (HA.out _).mono ?_); rintro e w1 ⟨rfl, hb⟩; have hsz := M.size; (try (have G9 := G.later hb; clear G; have G := G9; clear G9)); have M9 := M.later hb; clear M; (try clear C); have M := M9; clear M9; have C := M.ruleAll; simp only [Go.Proofs.Yteonahoboligdaa.ruleAll] at C))); exact ⟨rfl, rfl, M⟩); rfl))); (clear M; (try clear C); intro w2 M; simp only [List.drop_succ_cons, List.drop_zero]; have C := M.ruleAll; simp only [Go.Proofs.Yteonahoboligdaa.ruleAll] at C)
  go_wp2_with (first | (go_at_call 43; fail))
  refine (HS.out _).mono ?_
  rintro e w5 ⟨v, rfl, M'⟩
  have M9 := M.joinRow M'
  obtain ⟨g, cc, rfl, M8⟩ := M9.rowRd 0 rfl hpos (i64F L) (fun j hj => i64N_at hj)
  simp only [List.set_cons_zero] at M8
  clear M; (try clear C)
  have M := M8
  clear M9 M8 M'
  have C := M.ruleAll; simp only [Go.Proofs.Yteonahoboligdaa.ruleAll] at C
  go_wp2
  go_loopw [16, 6, 7, 26, 9, 3] (fun i _ _ _ _ o wr => ∃ k : Nat, k ≤ L.length ∧ i = .int .i64 (k : Int) ∧ o = .int .i64 (FR k : Nat) ∧ Mm no w wr [.rd g L.length (i64F L), .box bq (sqs (n : Int) t) 30]) (fun i _ _ _ _ _ _ => L.length - (intOf i).toNat)
  case atStart => exact ⟨0, by omega, rfl, by rw [HF0], M⟩
  case round =>
    clear HF0
    obtain ⟨k, hk, rfl, rfl, M9⟩ := hrel
    clear M; (try clear C)
    have M := M9
    clear M9
    have C := M.ruleAll; simp only [Go.Proofs.Yteonahoboligdaa.ruleAll] at C
    have hfk := HFL.out k
    have hfk' : (FR k : Int) < 1024 := by omega
    by_cases hlt : k < L.length
    · have hlt' : (k : Int) < (L.length : Int) := by omega
      have dlt : decide ((k : Int) < (L.length : Int)) = true := decide_eq_true hlt'
      have e1 := List.getElem?_eq_getElem hlt
      have hs := HLT.out _ (List.getElem_mem hlt)
      generalize L[k] = s at e1 hs
      have hs' : (s : Int) < 1024 := by omega
      have c1 := i64F_at e1
      have HNX := Hid2.mk (HFS.out k s e1)
      have HG00 := Hid2.mk (HG0.out s)
      have HGS1 := Hid2.mk (fun j u h => HGS.out s j u h)
      have HGA1 := Hid2.mk (HGA.out s)
      have hsA := neN s A
      have hand := bits_and_i64_nat (FR k) s (by omega) (by omega)
      clear e1
      generalize hgs : GR s = GS at *
      have HAN := Hid2.mk hand
      clear hgs hand
      generalize hs0 : (s != A) = b0 at hsA HG00
      clear hs0
      go_wp2_with (first | ((with_reducible apply wpM_lda' M 1 30 0 (sqs (n : Int) t)); rfl; rfl; rfl; exact ⟨rfl, inf_sqs.trans (congrArg some (sqs_size ..).symm), _, und_sqs, rfl⟩; exact whole_of rfl) | (go_at_call 73; ((with_reducible refine (HA.out _).mono ?_); rintro e w1 ⟨rfl, hb⟩; have hsz := M.size; (try (have G9 := G.later hb; clear G; have G := G9; clear G9)); have M9 := M.later hb; clear M; (try clear C); have M := M9; clear M9; have C := M.ruleAll; simp only [Go.Proofs.Yteonahoboligdaa.ruleAll] at C)))
      clear dlt
      go_loopw [26, 9, 7] (fun j _ gv wr => ∃ l : Nat, l ≤ L.length ∧ j = .int .i64 (l : Int) ∧ gv = .bool (GS l) ∧ Mm no w wr [.rd g L.length (i64F L), .box bq (sqs (n : Int) t) 30]) (fun j _ _ _ => L.length - (intOf j).toNat)
      case atStart => exact ⟨0, by omega, rfl, by rw [HG00.out], M⟩
      case round =>
        clear hsA
        obtain ⟨l, hl, rfl, rfl, M9⟩ := hrel
        clear M; (try clear C)
        have M := M9
        clear M9
        have C := M.ruleAll; simp only [Go.Proofs.Yteonahoboligdaa.ruleAll] at C
        by_cases hl2 : l < L.length
        · have hl2' : (l : Int) < (L.length : Int) := by omega
          have e2 := List.getElem?_eq_getElem hl2
          have hu := HLT.out _ (List.getElem_mem hl2)
          generalize L[l] = u at e2 hu
          have hu' : (u : Int) < 1024 := by omega
          have c2 := i64F_at e2
          have HN := Hid2.mk (HGS1.out l u e2)
          clear e2
          cases hb0 : GS l with
          | false =>
            rw [hb0] at HN
            have HN2 := Hid2.mk (HN.out.trans (Bool.false_and _))
            clear HN hb0
            go_wp2
            go_roundw
            case rel => exact ⟨l + 1, by omega, by go_num, by rw [HN2.out], M⟩
            case measure => simp [intOf]; omega
          | true =>
            rw [hb0] at HN
            have HN2 := Hid2.mk (HN.out.trans (Bool.true_and _))
            clear HN hb0
            have d1 := eqN u s
            have d2 := eqN u A
            have d3 := bits_and_i64_nat s u (by omega) (by omega)
            have d4 := neN (s &&& u) s
            have hd5 : ((s &&& u : Nat) : Int) < 1024 := by have := and_lt (b := u) hs; omega
            generalize s &&& u = su at *
            generalize (u == s) = b1 at *
            generalize (u == A) = b2 at *
            generalize (su != s) = b3 at *
            cases b1 with
            | true =>
              clear d2 d3 d4
              go_wp2
              go_roundw
              case rel => exact ⟨l + 1, by omega, by go_num, by rw [HN2.out]; rfl, M⟩
              case measure => simp [intOf]; omega
            | false =>
              cases b2 with
              | true =>
                clear d3 d4
                go_wp2_with (first | ((with_reducible apply wpM_lda' M 1 30 0 (sqs (n : Int) t)); rfl; rfl; rfl; exact ⟨rfl, inf_sqs.trans (congrArg some (sqs_size ..).symm), _, und_sqs, rfl⟩; exact whole_of rfl) | (go_at_call 73; ((with_reducible refine (HA.out _).mono ?_); rintro e w1 ⟨rfl, hb⟩; have hsz := M.size; (try (have G9 := G.later hb; clear G; have G := G9; clear G9)); have M9 := M.later hb; clear M; (try clear C); have M := M9; clear M9; have C := M.ruleAll; simp only [Go.Proofs.Yteonahoboligdaa.ruleAll] at C)))
                go_roundw
                case rel => exact ⟨l + 1, by omega, by go_num, by rw [HN2.out]; rfl, M⟩
                case measure => simp [intOf]; omega
              | false =>
                go_wp2_with (first | ((with_reducible apply wpM_lda' M 1 30 0 (sqs (n : Int) t)); rfl; rfl; rfl; exact ⟨rfl, inf_sqs.trans (congrArg some (sqs_size ..).symm), _, und_sqs, rfl⟩; exact whole_of rfl) | (go_at_call 73; ((with_reducible refine (HA.out _).mono ?_); rintro e w1 ⟨rfl, hb⟩; have hsz := M.size; (try (have G9 := G.later hb; clear G; have G := G9; clear G9)); have M9 := M.later hb; clear M; (try clear C); have M := M9; clear M9; have C := M.ruleAll; simp only [Go.Proofs.Yteonahoboligdaa.ruleAll] at C)))
                go_roundw
                case rel => exact ⟨l + 1, by omega, by go_num, by rw [HN2.out]; rfl, M⟩
                case measure => simp [intOf]; omega
        · obtain rfl : l = L.length := by omega
          have hge : ¬ ((L.length : Int) < (L.length : Int)) := by omega
          have HGE := Hid2.mk (HGA1.out)
          cases hb0 : GS L.length with
          | true =>
            have HE := Hid2.mk (HNX.out.trans (if_pos (by rw [← HGE.out, hb0])))
            clear hb0
            go_wp2
            go_roundw
            case rel => exact ⟨k + 1, by omega, by go_num, by rw [HE.out]; first | rfl | exact congrArg (Value.int .i64) HAN.out, M⟩
            case measure => simp [intOf]; omega
          | false =>
            have HE := Hid2.mk (HNX.out.trans (if_neg (by rw [← HGE.out, hb0]; decide)))
            clear hb0
            go_wp2
            go_roundw
            case rel => exact ⟨k + 1, by omega, by go_num, by rw [HE.out], M⟩
            case measure => simp [intOf]; omega
    · obtain rfl : k = L.length := by omega
      have hge : ¬ ((L.length : Int) < (L.length : Int)) := by omega
      go_wp2
      go_ret
      exact ⟨rfl, M.below⟩

set_option maxRecDepth 100000 in
set_option maxHeartbeats 1000000 in
theorem loopSet_any (n : Int) (t : Nat → Nat → Nat) (hby : Byt2 t) (f : Nat) (hen : ∀ (args : Array Value) (w : World), (callFunc f args).run Try.prog w = .ok (.enter f args) w) (m : Nat → Nat) (hm : ∀ N : Nat, IsSq (N : Int) t → m N < 1024)
    (hf : ∀ N : Nat, IsSq (N : Int) t → ∀ w1, Calls Try.prog f #[.agg (sqs (N : Int) t)] w1 fun e w' => e = .returned (.int .i64 (m N : Nat)) ∧ Below w1.heap.size w1 w') (w : World) :
    Calls Try.prog 47 #[.agg (sqs n t), .func (.func f) #[] #[]] w (FaPost (lsRes n t m).1 (lsRes n t m).2 w) := by
  unfold lsRes
  have M := Mm.start no w
  have H1 := Hid2.mk (fun w1 => isLoop_any n t w1 hby)
  cases hl : isLp n t with
  | false =>
    rw [hl] at H1
    rw [if_neg (by decide)]
    clear hby hl hf
    go_enter Try.func47, Try.ntmps47
    go_wp2_with (first | ((with_reducible apply wpM_box' M 30 (sqs n t)); rfl; exact ⟨rfl, rfl⟩; clear M; (try clear C); intro bq w9 h_bq M; have C := M.ruleAll; simp only [Go.Proofs.Yteonahoboligdaa.ruleAll] at C) | ((with_reducible apply wpM_lda' M 0 30 0 (sqs n t)); rfl; rfl; rfl; exact ⟨rfl, inf_sqs.trans (congrArg some (sqs_size ..).symm), _, und_sqs, rfl⟩; exact whole_of rfl) | (go_at_call 39; ((with_reducible refine (H1.out _).mono ?_); rintro e w1 ⟨rfl, hb⟩; have hsz := M.size; (try (have G9 := G.later hb; clear G; have G := G9; clear G9)); have M9 := M.later hb; clear M; (try clear C); have M := M9; clear M9; have C := M.ruleAll; simp only [Go.Proofs.Yteonahoboligdaa.ruleAll] at C)))
    go_ret2
    exact FaPost.nil2 M.below 1
  | true =>
    obtain ⟨N, rfl, hs⟩ := lp_natG hl
    rw [hl] at H1
    rw [if_pos rfl]
    have H2 := Hid2.mk (hf N hs)
    have H3 := Hid2.mk (list_anyD (m N) (hm N hs))
    simp only [Int.toNat_natCast]
    have H3' : Hid2 (∀ w1, Calls Try.prog 72 #[.int .i64 (m N : Int)] w1 fun e w' => ∃ v, e = .returned v ∧ Mm no w1 w' [.row w1.heap.size v (mL (m N)).length (i64s ((mL (m N)).map fun x : Nat => (x : Int))) 2 1]) := ⟨fun w1 => (H3.out w1).mono fun e w' ⟨v, h1, _, h2⟩ => ⟨v, h1, by rw [← i64N_sG]; exact h2⟩⟩
    have hml := hm N hs
    have hml' : (m N : Int) < 1024 := by omega
    generalize mL (m N) = out at H3' ⊢
    generalize m N = r at *
    clear hby hl hs H3 hf hm
    go_enter Try.func47, Try.ntmps47
    go_wp2_with (first | ((with_reducible apply wpM_box' M 30 (sqs (N : Int) t)); rfl; exact ⟨rfl, rfl⟩; clear M; (try clear C); intro bq w9 h_bq M; have C := M.ruleAll; simp only [Go.Proofs.Yteonahoboligdaa.ruleAll] at C) | ((with_reducible apply wpM_lda' M 0 30 0 (sqs (N : Int) t)); rfl; rfl; rfl; exact ⟨rfl, inf_sqs.trans (congrArg some (sqs_size ..).symm), _, und_sqs, rfl⟩; exact whole_of rfl) | (go_at_call 39; ((with_reducible refine (H1.out _).mono ?_); rintro e w1 ⟨rfl, hb⟩; have hsz := M.size; (try (have G9 := G.later hb; clear G; have G := G9; clear G9)); have M9 := M.later hb; clear M; (try clear C); have M := M9; clear M9; have C := M.ruleAll; simp only [Go.Proofs.Yteonahoboligdaa.ruleAll] at C)))
    refine (H2.out _).mono ?_
    rintro e w2 ⟨rfl, hb⟩
    have M9 := M.later hb
    clear M; (try clear C)
    have M := M9
    clear M9 hb
    go_wp2_with (first | (go_at_call 72; fail))
    refine (H3'.out _).mono ?_
    rintro e w3 ⟨v, rfl, M'⟩
    have M9 := M.joinRow M'
    obtain ⟨pp, cc, rfl⟩ := own_form (M9.row 0 rfl)
    clear M; (try clear C)
    have M := M9
    clear M9 M'
    go_wp2
    go_ret2
    exact ⟨_, rfl, by rw [List.length_map]; exact M.sub [0] (by decide)⟩
theorem implFrattini_any (n : Int) (t : Nat → Nat → Nat) (hby : Byt2 t) (w : World) : Calls Try.prog 25 #[.agg (sqs n t)] w (FaPost (frRes n t).1 (frRes n t).2 w) := by
  have M := Mm.start no w
  have H1 := Hid2.mk (fun w1 => loopSet_any n t hby 48 (enters_of (P := Try.prog) (f := 48) (by exact Try.func48) (by kernel_rfl) rfl) (fun N => fraM N t) (fun N hs => fraTo_lt (allM_lt (by have := hs.hi; omega)) _) (fun N hs w1 => frattini_any N t hs w1) w1)
  unfold frRes
  generalize lsRes n t (fun N => fraM N t) = r at *
  obtain ⟨out, code⟩ := r
  clear hby
  go_enter Try.func25, Try.ntmps25
  go_wp2_with (first | ((with_reducible apply wpM_box' M 30 (sqs n t)); rfl; exact ⟨rfl, rfl⟩; clear M; (try clear C); intro bq w9 h_bq M; have C := M.ruleAll; simp only [Go.Proofs.Yteonahoboligdaa.ruleAll] at C) | ((with_reducible apply wpM_lda' M 0 30 0 (sqs n t)); rfl; rfl; rfl; exact ⟨rfl, inf_sqs.trans (congrArg some (sqs_size ..).symm), _, und_sqs, rfl⟩; exact whole_of rfl) | (go_at_call 47; fail))
  refine (H1.out _).mono ?_
  rintro e w2 ⟨v, rfl, M'⟩
  have M9 := M.joinRow M'
  obtain ⟨pp, cc, rfl⟩ := own_form (M9.row 0 rfl)
  clear M; (try clear C)
  have M := M9
  clear M9 M'
  go_wp2
  go_ret2
  exact ⟨_, rfl, M.sub [0] (by decide)⟩
end Go.Proofs.Yteonahoboligdaa
