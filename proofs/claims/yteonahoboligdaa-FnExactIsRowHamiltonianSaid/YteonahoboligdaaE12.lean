/- forPairs with any function: a contract. -/
import Derived.Test.YteonahoboligdaaK11
import Derived.Test.YteonahoboligdaaK12
import Derived.Test.YteonahoboligdaaC6
import Derived.Shelf.Abstract
namespace Go.Proofs.Yteonahoboligdaa
set_option linter.unusedSimpArgs false
set_option linter.unusedVariables false
open Go Go.RowKit

theorem all_lt {N : Nat} {p : Nat → Bool} (h : ∀ m, m < N → p m = true) : (List.range N).all p = true := List.all_eq_true.2 fun m hm => h m (List.mem_range.1 hm)
theorem all_no {N : Nat} {p : Nat → Bool} {m : Nat} (hm : m < N) (h : p m = false) : (List.range N).all p = false := List.all_eq_false.2 ⟨m, List.mem_range.2 hm, by rw [h]; decide⟩
theorem pair_lt {n x y : Nat} (hx : x < n) (hy : y < n) : x * n + y < n * n := by
  have : (x + 1) * n ≤ n * n := Nat.mul_le_mul_right n hx
  rw [Nat.add_mul, Nat.one_mul] at this; omega

set_option maxRecDepth 100000 in
set_option maxHeartbeats 4000000 in
theorem forPairsG (n : Nat) (t : Nat → Nat → Nat) (h1 : 1 ≤ n) (hn : n ≤ 10) (f : Nat) (fa cp : Array Value) (hen : ∀ (args : Array Value) (w : World), (callFunc f args).run Try.prog w = .ok (.enter f args) w)
    (p : Nat → Bool) (V : Nat → List Ent → Prop) (w0 w : World) (L0 : List Ent) (hV0 : V 0 L0) (M0 : Mm no w0 w L0)
    (hf : ∀ x y, x < n → y < n → ∀ L X w1, V (x * n + y) L → Mm no w0 w1 (L ++ X) → Calls Try.prog f (fa ++ (#[.int .u8 (x : Int), .int .u8 (y : Int)] ++ cp)) w1 fun e w' => e = .returned (.bool (p (x * n + y))) ∧ ∃ L', (p (x * n + y) = true → V (x * n + y + 1) L') ∧ Mm no w0 w' (L' ++ X)) :
    Calls Try.prog 32 #[.agg (sqs (n : Int) t), .func (.func f) fa cp] w fun e w' => e = .returned (.bool ((List.range (n * n)).all p)) ∧ ∃ L', ((List.range (n * n)).all p = true → V (n * n) L') ∧ Mm no w0 w' L' := by
  have h1' : (1 : Int) ≤ n := by omega
  have hn' : (n : Int) ≤ 10 := by omega
  have HF := Hid2.mk hf
  have HV0 := Hid2.mk hV0
  have M : Mm no w0 w L0 := M0
  have HT := Hid2.mk (fun (h : ∀ m, m < n * n → p m = true) => all_lt h)
  have HN := Hid2.mk (fun m (hm : m < n * n) (h : p m = false) => all_no hm h)
  have HL := Hid2.mk (fun x y (hx : x < n) (hy : y < n) => pair_lt hx hy)
  clear M0 hf hV0
  generalize hres : (List.range (n * n)).all p = res at *
  clear hres
  go_enter Try.func32, Try.ntmps32
  go_wp2_with (first | ((with_reducible apply wpM_box' M 30 (sqs (n : Int) t)); rfl; exact ⟨rfl, rfl⟩; clear M; (try clear C); intro b2 w9 h_b2 M; have C := M.ruleAll; simp only [Go.Proofs.Yteonahoboligdaa.ruleAll] at C) | ((with_reducible apply wpM_lda' M 0 30 0 (sqs (n : Int) t)); rfl; rfl; rfl; exact ⟨rfl, inf_sqs.trans (congrArg some (sqs_size ..).symm), _, und_sqs, rfl⟩; exact whole_of rfl) | (go_at_call 56; ((with_reducible refine (elements_any _ _ _ (by omega) (by omega)).mono ?_); rintro e w1 ⟨g1, cap_g1, rfl, hb, hg, hr⟩; have hsz := M.size; have M9 := M.gain hb (x := .rd g1 n (fun j => .int .u8 (j : Int))) hr (fun b h => by cases h; exact hg); clear M; (try clear C); have M := M9; clear M9; (try simp only [List.set_cons_zero, List.set_cons_succ] at M); have C := M.ruleAll; simp only [Go.Proofs.Yteonahoboligdaa.ruleAll] at C; clear hb hg hr)))
  go_loopw [12, 6, 19, 8] (fun i _ _ _ wr => ∃ (k : Nat) (L : List Ent), k ≤ n ∧ i = .int .i64 (k : Int) ∧ Hid2 (V (k * n) L ∧ ∀ m, m < k * n → p m = true) ∧ Mm no w0 wr (.rd g1 n (fun j => .int .u8 (j : Int)) :: .box b2 (sqs (n : Int) t) 30 :: L)) (fun i _ _ _ _ => n - (intOf i).toNat)
  case atStart => exact ⟨0, L0, by omega, rfl, ⟨by rw [Nat.zero_mul]; exact ⟨HV0.out, fun m h => by omega⟩⟩, M⟩
  case round =>
    obtain ⟨k, L, hk, rfl, HK, M9⟩ := hrel
    clear M; (try clear C)
    have M := M9
    clear M9
    have C := M.ruleAll; simp only [Go.Proofs.Yteonahoboligdaa.ruleAll] at C
    by_cases hlt : k < n
    · have hlt' : (k : Int) < (n : Int) := by omega
      have hk10 : (k : Int) < 10 := by omega
      have dlt : decide ((k : Int) < (n : Int)) = true := decide_eq_true hlt'
      go_wp2_with (first | ((with_reducible apply wpM_lda' M 1 30 0 (sqs (n : Int) t)); rfl; rfl; rfl; exact ⟨rfl, inf_sqs.trans (congrArg some (sqs_size ..).symm), _, und_sqs, rfl⟩; exact whole_of rfl) | (go_at_call 56; ((with_reducible refine (elements_any _ _ _ (by omega) (by omega)).mono ?_); rintro e w2 ⟨g2, cap_g2, rfl, hb, hg, hr⟩; have hsz := M.size; have M9 := M.gain hb (x := .rd g2 n (fun j => .int .u8 (j : Int))) hr (fun b h => by cases h; exact hg); clear M; (try clear C); have M := M9; clear M9; (try simp only [List.set_cons_zero, List.set_cons_succ] at M); have C := M.ruleAll; simp only [Go.Proofs.Yteonahoboligdaa.ruleAll] at C; clear hb hg hr)))
      clear dlt
      go_loopw [19, 8] (fun i _ wr => ∃ (l : Nat) (L : List Ent), l ≤ n ∧ i = .int .i64 (l : Int) ∧ Hid2 (V (k * n + l) L ∧ ∀ m, m < k * n + l → p m = true) ∧ Mm no w0 wr (.rd g2 n (fun j => .int .u8 (j : Int)) :: .rd g1 n (fun j => .int .u8 (j : Int)) :: .box b2 (sqs (n : Int) t) 30 :: L)) (fun i _ _ => n - (intOf i).toNat)
      case atStart => exact ⟨0, L, by omega, rfl, HK, M⟩
      case round =>
        clear HK
        obtain ⟨l, L, hl, rfl, HK, M9⟩ := hrel
        clear M; (try clear C)
        have M := M9
        clear M9
        have C := M.ruleAll; simp only [Go.Proofs.Yteonahoboligdaa.ruleAll] at C
        by_cases hlt2 : l < n
        · have hlt2' : (l : Int) < (n : Int) := by omega
          have hl10 : (l : Int) < 10 := by omega
          have dlt : decide ((l : Int) < (n : Int)) = true := decide_eq_true hlt2'
          have MP : Mm no w0 _ (L ++ [.rd g2 n (fun j => .int .u8 (j : Int)), .rd g1 n (fun j => .int .u8 (j : Int)), .box b2 (sqs (n : Int) t) 30]) := M.perm (List.perm_append_comm (l₁ := [_, _, _]))
          have HC1 := Hid2.mk (HF.out k l hlt hlt2 L _ _ HK.out.1 MP)
          have HA := Hid2.mk HK.out.2
          have hpl := HL.out k l hlt hlt2
          clear MP HK
          cases hp : p (k * n + l) with
          | true =>
            rw [hp] at HC1
            go_wp2
            refine (HC1.out).mono ?_
            rintro e w5 ⟨rfl, L2, hv, M'⟩
            have M9 := M'.perm (List.perm_append_comm (l₂ := [_, _, _]))
            have HK := Hid2.mk (show V (k * n + (l + 1)) L2 ∧ ∀ m, m < k * n + (l + 1) → p m = true from ⟨hv (by first | rfl | trivial), fun m hm => if e : m = k * n + l then by rw [e]; exact hp else HA.out m (by omega)⟩)
            clear M; (try clear C)
            clear dlt M' hv hp HC1 HA hpl
            go_wp2
            go_roundw
            case rel => exact ⟨l + 1, L2, by omega, by go_num, HK, M9⟩
            case measure => simp [intOf]; omega
          | false =>
            rw [hp] at HC1
            have HR := Hid2.mk (HN.out _ hpl hp)
            go_wp2
            refine (HC1.out).mono ?_
            rintro e w5 ⟨rfl, L2, hv, M'⟩
            have M9 := M'.perm (List.perm_append_comm (l₂ := [_, _, _]))
            clear M; (try clear C)
            clear dlt M' hv hp HC1 HA hpl
            go_wp2
            go_ret
            exact ⟨by rw [HR.out]; rfl, L2, fun h => (by rw [HR.out] at h; cases h), ((M9.drop 0).drop 0).drop 0⟩
        · obtain rfl : l = n := by omega
          have hge : ¬ ((l : Int) < (l : Int)) := by omega
          have HK2 := Hid2.mk (show V ((k + 1) * l) L ∧ ∀ m, m < (k + 1) * l → p m = true by rw [Nat.add_mul, Nat.one_mul]; exact HK.out)
          go_wp2
          go_roundw
          case rel => exact ⟨k + 1, L, by omega, by go_num, HK2, M.drop 0⟩
          case measure => simp [intOf]; omega
    · obtain rfl : k = n := by omega
      have hge : ¬ ((k : Int) < (k : Int)) := by omega
      have HR := Hid2.mk (HT.out HK.out.2)
      go_wp2
      go_ret
      exact ⟨by rw [HR.out]; rfl, L, fun _ => HK.out.1, (M.drop 0).drop 0⟩
end Go.Proofs.Yteonahoboligdaa
