/- Marks: texts of numbers; lists of texts marked and held; contracts. -/
import Derived.Test.YtinjjaoikofkdaaS0
import Derived.Test.YtinjjaoikofkdaaK9
namespace Go.Proofs.Ytinjjaoikofkdaa
set_option linter.unusedSimpArgs false
set_option linter.unusedVariables false
open Go Go.RowKit

theorem wrapM (x : Int) (h1 : -9223372036854775808 ≤ x) (h2 : x ≤ 9223372036854775807) : wrap64 x = x := by unfold wrap64; omega
theorem und_slM : Try.prog.underlying 22 = some (.slice 9) := by kernel_rfl
theorem bsl_uM (x : Int) (w : World) : (Instr.buildSlice 103 1 [(0, Value.int .u8 x)].toArray).run Try.prog w = .ok (.slice (some ⟨w.heap.size, 0, none⟩) 1 1) (w.alloc (.cells #[.int .u8 x] 5)) := by kernel_rfl

set_option maxRecDepth 100000 in
set_option maxHeartbeats 1000000 in
theorem markText_any (k : Nat) (hk : k ≤ 4611686018427387904) (w : World) : Calls Try.prog 67 #[.int .i64 (k : Int)] w fun e w' => e = .returned (.string (str (mkT k))) ∧ Below w.heap.size w w' := by
  have M := Mm.start no w
  by_cases h0 : k = 0
  · subst h0
    go_enter Try.func67, Try.ntmps67
    go_wp2
    go_ret
    exact ⟨rfl, M.below⟩
  · have hT : mkT k = 109 :: digs k := if_neg h0
    have HT := Hid2.mk hT
    generalize mkT k = res at HT ⊢
    have h1 : ¬ ((k : Int) ≤ 0) := by omega
    have hdl := digs_len 20 k (by omega)
    clear hT
    go_enter Try.func67, Try.ntmps67
    go_wp2
    go_loopw [0, 3] (fun i s wr => ∃ (j : Nat) (out : List Nat), j ≤ k ∧ i = .int .i64 (j : Int) ∧ s = .string (str out) ∧ digs k = digs j ++ out ∧ Mm no w wr []) (fun i _ _ => (intOf i).toNat)
    case atStart => exact ⟨k, [], Nat.le_refl _, rfl, rfl, by simp, M⟩
    case round =>
      obtain ⟨j, out, hj, rfl, rfl, hd, M9⟩ := hrel
      clear M
      have M := M9
      clear M9
      have hol : out.length ≤ 20 := by
        have := congrArg List.length hd
        rw [List.length_append] at this
        omega
      have HD := Hid2.mk hd
      clear hd
      by_cases hlt : 0 < j
      · have hlt' : (0 : Int) < (j : Int) := by omega
        have HDJ := Hid2.mk (digs_pos hlt)
        have r3 : ((48 + j % 10 : Nat) : Int) = 48 + (j : Int) % 10 := by omega
        have ha := add_str [48 + j % 10] out (by simp only [List.length_singleton]; omega)
        have HV := Hid2.mk (show ∀ (w1 : World) (g cap : Nat), w1.cell? ⟨g, 0, none⟩ = some (.int .u8 (48 + (j : Int) % 10)) → (convert 103 9 (.slice (some ⟨g, 0, none⟩) 1 cap)).run Try.prog w1 = .ok (.string (str [48 + j % 10])) w1 from fun w1 g cap h => @conv_str w1 (48 + j % 10) g cap (by omega) (by rw [r3]; exact h))
        have HJ := Hid2.mk (show ((j / 10 : Nat) : Int) = (j : Int) / 10 from by omega)
        have hm10 : (j : Int) % 10 < 10 := Int.emod_lt_of_pos _ (by decide)
        have hm0 : 0 ≤ (j : Int) % 10 := Int.emod_nonneg _ (by decide)
        have hd10 : j / 10 < j := Nat.div_lt_self hlt (by decide)
        have HS := Hid2.mk (show [48 + j % 10] ++ out = (48 + j % 10) :: out from rfl)
        clear r3
        generalize str [48 + j % 10] = sd at HV ha
        go_wp2_with (first | (((with_reducible apply wpM_bsl' M 103 1 5 ([(0, .int .u8 (48 + (j : Int) % 10))]) (#[.int .u8 (48 + (j : Int) % 10)])); rfl; rfl; rfl; exact bsl_uM _; clear M; (try clear C); intro b w9 h_b M; have C := M.ruleAll; simp only [Go.Proofs.Ytinjjaoikofkdaa.ruleAll] at C); have hv := HV.out _ b 1 ((M.box 0 rfl).cell _ _ rfl)))
        go_roundw
        case rel => exact ⟨j / 10, [48 + j % 10] ++ out, by omega, by rw [HJ.out], rfl, by rw [HD.out, HDJ.out, List.append_assoc], M.drop 0⟩
        case measure => simp [intOf]; omega
      · obtain rfl : j = 0 := by omega
        have hk : digs k = out := by rw [HD.out, digs_0]; rfl
        have hr : res = 109 :: out := by rw [HT.out, hk]
        subst hr
        have ha : ∀ w, (Op.stringOp .add (⟨#[109]⟩ : ByteArray) (str out)).run Try.prog w = .ok (.string (str (109 :: out))) w := add_str [109] out (by simp only [List.length_singleton]; omega)
        generalize hsr : str (109 :: out) = sr at ha
        have HSR := Hid2.mk hsr
        clear HD HT hk hdl hsr
        go_wp2
        go_ret
        exact ⟨by rw [HSR.out]; rfl, M.below⟩

theorem inf_elM : (Try.prog.info? 9).map (·.size) = some 1 := by kernel_rfl
/-- Marks of k, k + 1, .. as cells. -/
def mkS (k j : Nat) : Value := .string (str (mkT (k + j)))

set_option maxRecDepth 100000 in
set_option maxHeartbeats 1000000 in
theorem markStringS_any (n g cap : Nat) (cs : Array Value) (hcs : cs.size = n) (hn : n ≤ 1048576) (k : Nat) (hk : k ≤ 1048577) (w : World) (h : blk w g cs 9) :
    Calls Try.prog 37 #[.slice (some ⟨g, 0, none⟩) n cap, .int .i64 (k : Int)] w fun e w' => e = .returned (.int .i64 ((k + n : Nat) : Int)) ∧ ∃ cs', cs'.size = n ∧ (∀ j, j < n → cs'[j]? = some (mkS k j)) ∧ Mm (fun b => b = g) w w' [.box g cs' 9] := by
  have M := ((Mm.start no w).only (fun b => b = g)).add (x := .box g cs 9) h fun _ h => by cases h
  have HM := Hid2.mk (fun j (hj : j ≤ n) w1 => markText_any (k + j) (by omega) w1)
  clear h
  have C := M.ruleAll; simp only [Go.Proofs.Ytinjjaoikofkdaa.ruleAll] at C
  go_enter Try.func37, Try.ntmps37
  go_wp2
  go_loopw [5, 1] (fun i q wr => ∃ j : Nat, j ≤ n ∧ i = .int .i64 (j : Int) ∧ q = .int .i64 ((k + j : Nat) : Int) ∧ ∃ cs' : Array Value, cs'.size = n ∧ (∀ i, i < j → cs'[i]? = some (mkS k i)) ∧ Mm (fun b => b = g) w wr [.box g cs' 9]) (fun i _ _ => n - (intOf i).toNat)
  case atStart => exact ⟨0, by omega, rfl, by simp, cs, hcs, fun i h => by omega, M⟩
  case round =>
    obtain ⟨j, hj, rfl, rfl, cs', hcs', hl, M9⟩ := hrel
    clear M; (try clear C)
    have M := M9
    clear M9
    have C := M.ruleAll; simp only [Go.Proofs.Ytinjjaoikofkdaa.ruleAll] at C
    have HL := Hid2.mk hl
    clear hl
    by_cases hlt : j < n
    · have hlt' : (j : Int) < (n : Int) := by omega
      have HT := HM.out j hj
      have HMS := Hid2.mk (show mkS k j = .string (str (mkT (k + j))) from rfl)
      generalize str (mkT (k + j)) = s at HT HMS
      have HKJ := Hid2.mk (show ((k + j : Nat) : Int) + 1 = ((k + (j + 1) : Nat) : Int) from by omega)
      have hkb : ((k + j : Nat) : Int) ≤ 4194304 := by omega
      have hkb0 : (0 : Int) ≤ ((k + j : Nat) : Int) := by omega
      generalize ((k + j : Nat) : Int) = q at HT HKJ hkb hkb0
      go_wp2_with (first | (go_at_call 67; ((with_reducible refine (HT _).mono ?_); rintro e w5 ⟨rfl, hb⟩; have hsz := M.size; (try (have G9 := G.later hb; clear G; have G := G9; clear G9)); have M9 := M.later hb; clear M; (try clear C); have M := M9; clear M9; have C := M.ruleAll; simp only [Go.Proofs.Ytinjjaoikofkdaa.ruleAll] at C)) | ((with_reducible apply wpM_st' M 0 9 (j) (cs'.setIfInBounds j (.string s))); rfl; rfl; rfl; (first | exact .inl (by assumption) | exact .inr rfl | exact .inr (by assumption)); exact ⟨rfl, rfl, by kernel_rfl⟩; (exact Nat.lt_of_lt_of_eq (by omega) (hcs').symm); exact rfl; clear M; (try clear C); intro w9 M; simp only [List.set_cons_zero, List.set_cons_succ, entBlk, entT, List.getElem?_cons_zero, List.getElem?_cons_succ] at M; have C := M.ruleAll; simp only [Go.Proofs.Ytinjjaoikofkdaa.ruleAll] at C))
      go_roundw
      case rel => exact ⟨j + 1, by omega, by go_num, by rw [HKJ.out], _, by rw [Array.size_setIfInBounds]; exact hcs', fun i hi => by
        rw [Array.getElem?_setIfInBounds]
        split
        · rename_i e; subst e; rw [if_pos (by omega), HMS.out]
        · exact HL.out i (by omega), M⟩
      case measure => simp [intOf]; omega
    · obtain rfl : j = n := by omega
      have hge : ¬ ((j : Int) < (j : Int)) := by omega
      go_wp2
      go_ret
      exact ⟨rfl, cs', hcs', HL.out, M⟩
end Go.Proofs.Ytinjjaoikofkdaa
