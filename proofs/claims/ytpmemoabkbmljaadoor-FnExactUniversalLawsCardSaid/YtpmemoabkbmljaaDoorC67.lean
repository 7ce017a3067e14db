/- The products and the quotients of a square, laid by the program: a contract. -/
import Derived.Test.YtpmemoabkbmljaaDoorC66
import Derived.Test.YtpmemoabkbmljaaDoorC5
namespace Go.Proofs.YtpmemoabkbmljaaDoor
set_option linter.unusedSimpArgs false
set_option linter.unusedVariables false
open Go Go.RowKit

/-- The products and as many quotients as have been laid. -/
structure VlP (n : Int) (t : Nat → Nat → Nat) (X Y : Nat) (cs : Array Value) : Prop where
  size : cs.size = 300
  mul : ∀ a c : Nat, (a : Int) < n → (c : Int) < n → cs[a * 10 + c]? = some (.int .u8 (t a c : Nat))
  lft : ∀ a c : Nat, (a : Int) < n → (c : Int) < n → (a < X ∨ (a = X ∧ c < Y)) → cs[100 + a * 10 + t a c]? = some (.int .u8 (c : Int))
  rgt : ∀ a c : Nat, (a : Int) < n → (c : Int) < n → (a < X ∨ (a = X ∧ c < Y)) → cs[200 + t a c * 10 + c]? = some (.int .u8 (a : Int))
theorem VlP.step {n : Int} {t : Nat → Nat → Nat} {x y : Nat} {cs : Array Value} (h : VlP n t x y cs) (hs : IsSq n t) (hx : (x : Int) < n) (hy : (y : Int) < n) :
    VlP n t x (y + 1) ((cs.setIfInBounds (100 + x * 10 + t x y) (.int .u8 (y : Int))).setIfInBounds (200 + t x y * 10 + y) (.int .u8 (x : Int))) := by
  have hn := hs.hi
  have lt : ∀ a c : Nat, (a : Int) < n → (c : Int) < n → (t a c : Int) < n := fun a c ha hc => ((SqAt.of hs (x := a) (by omega)).lt ha c hc).1
  have row : ∀ c : Nat, (c : Int) < n → t x c = t x y → c = y := fun c hc e => (SqAt.of hs (x := x) (by omega)).row hx c y hc hy e
  have col : ∀ a : Nat, (a : Int) < n → t a y = t x y → a = x := fun a ha e => (SqAt.of hs (x := y) (by omega)).col hy a x ha hx e
  have hz := lt x y hx hy
  have hsz := h.size
  refine ⟨by rw [Array.size_setIfInBounds, Array.size_setIfInBounds]; exact h.size, fun a c ha hc => ?_, fun a c ha hc hac => ?_, fun a c ha hc hac => ?_⟩
  · rw [Array.getElem?_setIfInBounds, if_neg (by omega), Array.getElem?_setIfInBounds, if_neg (by omega)]
    exact h.mul a c ha hc
  · have := lt a c ha hc
    rw [Array.getElem?_setIfInBounds, if_neg (by omega), Array.getElem?_setIfInBounds]
    split
    · rename_i e
      have e1 : a = x := by omega
      subst e1
      have e2 : c = y := row c hc (by omega)
      subst e2
      rw [if_pos (by omega)]
    · rename_i e
      refine h.lft a c ha hc ?_
      rcases hac with h1 | ⟨h1, h2⟩
      · exact .inl h1
      · right
        refine ⟨h1, ?_⟩
        by_cases e2 : c = y
        · subst h1 e2; exact absurd rfl e
        · omega
  · have := lt a c ha hc
    rw [Array.getElem?_setIfInBounds]
    split
    · rename_i e
      have e1 : c = y := by omega
      subst e1
      have e2 : a = x := col a ha (by omega)
      subst e2
      rw [if_pos (by rw [Array.size_setIfInBounds]; omega)]
    · rename_i e
      rw [Array.getElem?_setIfInBounds, if_neg (by omega)]
      refine h.rgt a c ha hc ?_
      rcases hac with h1 | ⟨h1, h2⟩
      · exact .inl h1
      · right
        refine ⟨h1, ?_⟩
        by_cases e2 : c = y
        · subst h1 e2; exact absurd rfl e
        · omega
theorem VlP.next {n : Int} {t : Nat → Nat → Nat} {x N : Nat} {cs : Array Value} (h : VlP n t x N cs) (hN : n ≤ (N : Int)) : VlP n t (x + 1) 0 cs :=
  ⟨h.size, h.mul, fun a c ha hc hac => h.lft a c ha hc (by omega), fun a c ha hc hac => h.rgt a c ha hc (by omega)⟩
theorem VlP.all {n : Int} {t : Nat → Nat → Nat} {N : Nat} {cs : Array Value} (h : VlP n t N 0 cs) (hs : IsSq n t) (hN : n ≤ (N : Int)) : VlC n t cs := by
  refine ⟨h.size, h.mul, fun a c ha hc => ?_, fun a c ha hc => ?_⟩
  · obtain ⟨h1, h2, _⟩ := lq_lt hs ha hc
    have h3 := h.lft a (lq t a c) ha h1 (.inl (by omega))
    rw [h2] at h3; exact h3
  · obtain ⟨h1, h2, _⟩ := lq_lt hs.turn hc ha
    have h3 := h.rgt (lq (fun x y => t y x) c a) c h1 hc (.inl (by omega))
    rw [h2] at h3; exact h3
/-- The products alone. -/
def vl0 (t : Nat → Nat → Nat) : Array Value := tab 300 fun i => if i < 100 then .int .u8 (t (i / 10) (i % 10)) else .int .u8 0
theorem vl0_start (n : Int) (t : Nat → Nat → Nat) (hn : n ≤ 10) : VlP n t 0 0 (vl0 t) :=
  ⟨tab_size _ _, fun a c ha hc => by
    unfold vl0; rw [tab_get (by omega), if_pos (by omega), show (a * 10 + c) / 10 = a by omega, show (a * 10 + c) % 10 = c by omega], fun a c _ _ h => absurd h (by omega), fun a c _ _ h => absurd h (by omega)⟩
theorem build_vls (t : Nat → Nat → Nat) (w : World) : (Instr.build 87 #[(0, .agg (tbs t))]).run Tryd.prog w = .ok (.agg (vl0 t)) w := by kernel_rfl
/-- A block whose cells change when an operation that floats is done. -/
def StW (b : Nat) (cs cs' : Array Value) (t : Nat) : List Value → List Ent → Prop
  | [], Lg => Lg = [.box b cs t]
  | _ :: _, Lg => Lg = [.box b cs' t]

set_option maxRecDepth 100000 in
set_option maxHeartbeats 4000000 in
theorem newValues_any (n : Nat) (t : Nat → Nat → Nat) (hs : IsSq (n : Int) t) (w : World) :
    Calls Tryd.prog 46 #[.agg (sqs n t)] w fun e w' => ∃ b, e = .returned (.pointer (some ⟨b, 0, none⟩)) ∧ w.heap.size ≤ b ∧ ∃ cs, VlC n t cs ∧ Mm no w w' [.box b cs 87] := by
  have M := Mm.start no w
  have hn1 : 1 ≤ n := by have := hs.lo; omega
  have hn2 : n ≤ 10 := by have := hs.hi; omega
  have hnn : (n : Int).toNat = n := rfl
  have hbl := build_vls t
  have HV0 := Hid2.mk (vl0_start n t (by omega))
  have HST := Hid2.mk (fun {x y cs} (h : VlP n t x y cs) (hx : x < n) (hy : y < n) => h.step hs (by omega) (by omega))
  have HNX := Hid2.mk (fun {x cs} (h : VlP n t x n cs) => h.next (Int.le_refl _))
  have HAL := Hid2.mk (fun {cs} (h : VlP n t n 0 cs) => h.all hs (Int.le_refl _))
  have HLT := Hid2.mk (fun x y (hx : x < n) (hy : y < n) => show t x y < 10 by
    have := ((SqAt.of hs (x := x) (by omega)).lt (by omega) y (by omega)).1; omega)
  generalize vl0 t = Z at hbl HV0
  clear hs
  go_enter Tryd.func46, Tryd.ntmps46
  go_wp2_with (first | ((with_reducible apply wpM_box' M 31 (sqs n t)); rfl; exact ⟨rfl, rfl⟩; clear M; (try clear C); intro bq w9 h_bq M; have C := M.ruleAll; simp only [Go.Proofs.YtpmemoabkbmljaaDoor.ruleAll] at C) | ((with_reducible apply wpM_lda' M 0 29 (1) (tbs t)); rfl; rfl; rfl; exact ⟨rfl, inf_tbl.trans (congrArg some (tbs_size ..).symm), _, und_tbl, rfl⟩; exact sqs_tbs) | (refine wpList_build 87 _ rfl rfl [(0, .agg (tbs t))] rfl _ (hbl _) ?_) | ((with_reducible apply wpM_box' M 87 (Z)); rfl; exact ⟨rfl, rfl⟩; clear M; (try clear C); intro bv w9 h_bv M; have C := M.ruleAll; simp only [Go.Proofs.YtpmemoabkbmljaaDoor.ruleAll] at C) | ((with_reducible apply wpM_lda' M 1 31 0 (sqs n t)); rfl; rfl; rfl; exact ⟨rfl, inf_sqs.trans (congrArg some (sqs_size ..).symm), _, und_sqs, rfl⟩; exact whole_of rfl) | (go_at_call 59; ((with_reducible refine (elements_any _ _ _ (by omega) (by omega)).mono ?_); rintro e w1 ⟨g, cap_g, rfl, hb, hg, hr⟩; have hsz := M.size; have M9 := M.gain hb (x := .rd g n (fun j => .int .u8 (j : Int))) hr (fun b h => by cases h; exact hg); clear M; (try clear C); have M := M9; clear M9; (try simp only [List.set_cons_zero, List.set_cons_succ] at M); have C := M.ruleAll; simp only [Go.Proofs.YtpmemoabkbmljaaDoor.ruleAll] at C; clear hb hg hr)))
  go_loopw [16, 5, 7, 8, 23] (fun i _ _ _ _ wr => ∃ x : Nat, x ≤ n ∧ i = .int .i64 (x : Int) ∧ ∃ cs, VlP n t x 0 cs ∧ Mm no w wr [.rd g n (fun j => .int .u8 (j : Int)), .box bv cs 87, .box bq (sqs n t) 31]) (fun i _ _ _ _ _ => n - (intOf i).toNat)
  case atStart => exact ⟨0, by omega, rfl, _, HV0.out, M⟩
  case round =>
    obtain ⟨x, hx, rfl, cs0, hcs0, M9⟩ := hrel
    clear M; (try clear C)
    have M := M9
    clear M9
    have C := M.ruleAll; simp only [Go.Proofs.YtpmemoabkbmljaaDoor.ruleAll] at C
    have HC0 := Hid2.mk hcs0
    clear hcs0
    by_cases hxn : x < n
    · have hxn' : (x : Int) < (n : Int) := by omega
      have hx10 : (x : Int) < 10 := by omega
      have hx10' : x < 10 := by omega
      have dlt : decide ((x : Int) < (n : Int)) = true := decide_eq_true hxn'
      go_wp2_with (first | ((with_reducible apply wpM_lda' M 2 31 0 (sqs n t)); rfl; rfl; rfl; exact ⟨rfl, inf_sqs.trans (congrArg some (sqs_size ..).symm), _, und_sqs, rfl⟩; exact whole_of rfl) | (go_at_call 59; ((with_reducible refine (elements_any _ _ _ (by omega) (by omega)).mono ?_); rintro e w2 ⟨g2, cap_g2, rfl, hb, hg, hr⟩; have hsz := M.size; have M9 := M.gain hb (x := .rd g2 n (fun j => .int .u8 (j : Int))) hr (fun b h => by cases h; exact hg); clear M; (try clear C); have M := M9; clear M9; (try simp only [List.set_cons_zero, List.set_cons_succ] at M); have C := M.ruleAll; simp only [Go.Proofs.YtpmemoabkbmljaaDoor.ruleAll] at C; clear hb hg hr)))
      have M9 : Mm no w w2 [.box bv cs0 87, .rd g2 n (fun j => .int .u8 (j : Int)), .rd g n (fun j => .int .u8 (j : Int)), .box bq (sqs n t) 31] := M.sub [2, 0, 1, 3] (by decide)
      clear M; (try clear C)
      have M := M9
      clear M9 dlt
      go_loopw [23, 7, 8] (fun i _ _ wr => ∃ y : Nat, y ≤ n ∧ i = .int .i64 (y : Int) ∧ ∃ cs, VlP n t x y cs ∧ Mm no w wr [.box bv cs 87, .rd g2 n (fun j => .int .u8 (j : Int)), .rd g n (fun j => .int .u8 (j : Int)), .box bq (sqs n t) 31]) (fun i _ _ _ => n - (intOf i).toNat)
      case atStart => exact ⟨0, by omega, rfl, _, HC0.out, M⟩
      case round =>
        obtain ⟨y, hy, rfl, cs, hcs, M9⟩ := hrel
        clear M; (try clear C)
        have M := M9
        clear M9
        have C := M.ruleAll; simp only [Go.Proofs.YtpmemoabkbmljaaDoor.ruleAll] at C
        have HC := Hid2.mk hcs
        clear hcs
        by_cases hyn : y < n
        · have hyn' : (y : Int) < (n : Int) := by omega
          have hy10 : (y : Int) < 10 := by omega
          have hy10' : y < 10 := by omega
          have c1 := sqs_get (n := (n : Int)) (t := t) hx10' hy10'
          have hz := HLT.out x y hxn hyn
          have HP := Hid2.mk (HST.out HC.out hxn hyn)
          generalize t x y = z at c1 hz HP
          have hz10 : (z : Int) < 10 := by omega
          have hsz : cs.size = 300 := HC.out.size
          have hsz2 : (cs.setIfInBounds (100 + x * 10 + z) (.int .u8 (y : Int))).size = 300 := by rw [Array.size_setIfInBounds]; exact hsz
          have HS1 := Hid2.mk hsz
          have HS2 := Hid2.mk hsz2
          clear hsz hsz2
          go_wp2
          apply wp_region_float1 [0, 1, 2, 3, 4, 5, 6, 7, 8, 9, 10, 11, 13, 14, 15] 12 16 _ (Stg (StW bv cs (cs.setIfInBounds (100 + x * 10 + z) (.int .u8 (y : Int))) 87) no w [.rd g2 n (fun j => .int .u8 (j : Int)), .rd g n (fun j => .int .u8 (j : Int)), .box bq (sqs n t) 31]) (by kernel_rfl) (by kernel_rfl) rfl rfl
          case hS => exact ⟨_, rfl, M.drew⟩
          case ht => repeat (first | exact wpTextG_nil | (apply wpTextG_cons; (intro g9 w3 hG; go_wp2; exact ⟨rfl, rfl, hG⟩); rfl))
          case hA =>
            clear M; (try clear C)
            intro w3 hG
            obtain ⟨Lg, h, M⟩ := hG
            obtain rfl : Lg = _ := h
            refine yield_store (ops := #[]) rfl rfl ?_
            simp only [List.cons_append, List.nil_append] at M
            have C := M.ruleAll; simp only [Go.Proofs.YtpmemoabkbmljaaDoor.ruleAll] at C
            go_wp2_with (first | ((with_reducible apply wpM_st' M 0 5 (100 + x * 10 + z) (cs.setIfInBounds (100 + x * 10 + z) (.int .u8 (y : Int)))); rfl; rfl; rfl; (first | exact .inl (by assumption) | exact .inr rfl | exact .inr (by assumption)); exact ⟨rfl, rfl, by kernel_rfl⟩; (exact Nat.lt_of_lt_of_eq (by omega) (HS1.out).symm); exact rfl; clear M; (try clear C); intro w9 M; simp only [List.set_cons_zero, List.set_cons_succ, entBlk, entT, List.getElem?_cons_zero, List.getElem?_cons_succ] at M; have C := M.ruleAll; simp only [Go.Proofs.YtpmemoabkbmljaaDoor.ruleAll] at C))
            exact ⟨_, rfl, M⟩
          clear M; (try clear C)
          intro v w3 hG
          obtain ⟨Lg, h, M⟩ := hG
          obtain rfl : Lg = _ := h
          simp only [List.cons_append, List.nil_append, List.drop_succ_cons, List.drop_zero] at M ⊢
          have C := M.ruleAll; simp only [Go.Proofs.YtpmemoabkbmljaaDoor.ruleAll] at C
          go_wp2_with (first | ((with_reducible apply wpM_st' M 0 5 (200 + z * 10 + y) ((cs.setIfInBounds (100 + x * 10 + z) (.int .u8 (y : Int))).setIfInBounds (200 + z * 10 + y) (.int .u8 (x : Int)))); rfl; rfl; rfl; (first | exact .inl (by assumption) | exact .inr rfl | exact .inr (by assumption)); exact ⟨rfl, rfl, by kernel_rfl⟩; (exact Nat.lt_of_lt_of_eq (by omega) (HS2.out).symm); exact rfl; clear M; (try clear C); intro w9 M; simp only [List.set_cons_zero, List.set_cons_succ, entBlk, entT, List.getElem?_cons_zero, List.getElem?_cons_succ] at M; have C := M.ruleAll; simp only [Go.Proofs.YtpmemoabkbmljaaDoor.ruleAll] at C))
          go_roundw
          case rel => exact ⟨y + 1, by omega, by go_num, _, HP.out, M⟩
          case measure => simp [intOf]; omega
        · obtain rfl : y = n := by omega
          have hge : ¬ ((y : Int) < (y : Int)) := by omega
          have HN := Hid2.mk (HNX.out HC.out)
          go_wp2
          go_roundw
          case rel => exact ⟨x + 1, by omega, by go_num, _, HN.out, M.sub [2, 0, 3] (by decide)⟩
          case measure => simp [intOf]; omega
    · obtain rfl : x = n := by omega
      have hge : ¬ ((x : Int) < (x : Int)) := by omega
      have HR := Hid2.mk (HAL.out HC0.out)
      go_wp2
      go_ret
      exact ⟨bv, rfl, h_bv, cs0, HR.out, M.sub [1] (by decide)⟩
end Go.Proofs.YtpmemoabkbmljaaDoor
