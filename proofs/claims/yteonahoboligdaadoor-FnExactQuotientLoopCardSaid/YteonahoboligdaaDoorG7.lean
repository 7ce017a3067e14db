/- Sets as lists and their order, for the program: contracts. -/
import Derived.Test.YteonahoboligdaaDoorG3
import Derived.Test.YteonahoboligdaaDoorD0
import Derived.Test.YteonahoboligdaaDoorK21
import Derived.Test.YteonahoboligdaaDoorE9
namespace Go.Proofs.YteonahoboligdaaDoor
set_option linter.unusedSimpArgs false
set_option linter.unusedVariables false
open Go Go.RowKit

set_option maxRecDepth 100000 in
set_option maxHeartbeats 2000000 in
theorem list_anyD (m : Nat) (hm : m < 1024) (w : World) :
    Calls Tryd.prog 48 #[.int .i64 (m : Int)] w fun e w' => ∃ v, e = .returned v ∧ w.drawn ≤ w'.drawn ∧ Mm no w w' [.row w.heap.size v (mL m).length (i64N (mL m)) 2 1] := by
  have M := Mm.start no w
  have hdr : w.drawn ≤ w.drawn := Nat.le_refl _
  have hm' : (m : Int) < 1024 := by omega
  have HH := Hid2.mk (fun k (hk : k < 10) w1 => has_any m k hm hk w1)
  have HML : mL m = tdL (fun y => m.testBit y) 10 := rfl
  rw [HML]
  generalize hp : (fun y => m.testBit y) = p at *
  have hpb : ∀ y, m.testBit y = p y := fun y => by rw [← hp]
  simp only [hpb] at HH
  clear hp hpb HML
  go_enter Tryd.func48, Tryd.ntmps48
  go_wp2_with (first | ((with_reducible apply wpM_bslD M hdr 26 0 2 ([]) (#[])); rfl; rfl; rfl; exact bsl_n0; clear hdr; clear M; (try clear C); intro bo w9 h_bo hdr M; have C := M.ruleAll; simp only [Go.Proofs.YteonahoboligdaaDoor.ruleAll] at C))
  have M9 := M.asRow 0 rfl w.heap.size 0 1 h_bo rfl (Nat.zero_le _)
  simp only [List.set_cons_zero, List.set_cons_succ] at M9
  clear M; (try clear C)
  go_loopw [6, 4, 3] (fun i _ o wr => ∃ (k : Nat) (v : Value), k ≤ 10 ∧ i = .int .i64 (k : Int) ∧ o = v ∧ w.drawn ≤ wr.drawn ∧ Mm no w wr [.row w.heap.size v (tdL p k).length (i64N (tdL p k)) 2 1]) (fun i _ _ _ => 10 - (intOf i).toNat)
  case atStart => exact ⟨0, _, by omega, rfl, rfl, hdr, M9⟩
  case round =>
    clear M9 hdr
    obtain ⟨k, v, hk, rfl, rfl, hdr, M9⟩ := hrel
    obtain ⟨pp, cc, rfl⟩ := own_form (M9.row 0 rfl)
    have M := M9
    clear M9
    have C := M.ruleAll; simp only [Go.Proofs.YteonahoboligdaaDoor.ruleAll] at C
    by_cases hlt : k < 10
    · have hlt' : (k : Int) < 10 := by omega
      have hle : (tdL p k).length ≤ k := by rw [tdL_len]; exact cn_le k p
      have HNt := Hid2.mk (fun h : p k = true => show tdL p (k + 1) = tdL p k ++ [k] from if_pos h)
      have HNf := Hid2.mk (fun h : p k = false => show tdL p (k + 1) = tdL p k from if_neg (by rw [h]; decide))
      have H1 := Hid2.mk (HH.out k hlt)
      generalize tdL p k = out at *
      cases hb : p k with
      | true =>
        rw [hb] at H1
        have HN := Hid2.mk (HNt.out hb)
        clear hb HNt HNf
        go_wp2_with (first | (go_at_call 62; ((with_reducible refine (H1.out _).mono ?_); rintro e w1 ⟨rfl, rfl⟩)) | ((with_reducible apply wpM_bslD M hdr 26 1 2 ([(0, .int .i64 (k : Int))]) (#[.int .i64 (k : Int)])); rfl; rfl; rfl; exact bsl_n1 _; clear hdr; clear M; (try clear C); intro bb w9 h_bb hdr M; have C := M.ruleAll; simp only [Go.Proofs.YteonahoboligdaaDoor.ruleAll] at C) | ((with_reducible apply wpM_appD M hdr 26 1 0 (w.heap.size) (.slice pp out.length cc) (out.length) (i64N out) 2 1 8); rfl; rfl; rfl; rfl; rfl; rfl; rfl; (first | exact .inl (Nat.le_refl _) | exact .inl (by assumption) | exact .inr (by assumption)); (first | exact M.size | (have hq := M.size; omega)); exact und_sln; exact inf_eln; rfl; decide; decide; rfl; exact rfl; exact flat_n1 _; omega; clear hdr; clear M; (try clear C); intro v2 w9 far_v2 hdr M; simp only [List.set_cons_zero, List.set_cons_succ, entBlk, entT, List.getElem?_cons_zero, List.getElem?_cons_succ] at M; obtain ⟨pp_v2, cap_v2, rfl⟩ := own_form (M.row 1 rfl); have C := M.ruleAll; simp only [Go.Proofs.YteonahoboligdaaDoor.ruleAll] at C))
        go_roundw
        case rel => exact ⟨k + 1, _, by omega, by go_num, rfl, hdr, by rw [HN.out]; exact (M.sub [1] (by decide)).eq (by rw [i64N_app]; simp only [List.length_append, List.length_singleton]; rfl)⟩
        case measure => simp [intOf]; omega
      | false =>
        rw [hb] at H1
        have HN := Hid2.mk (HNf.out hb)
        clear hb HNt HNf
        go_wp2_with (first | (go_at_call 62; ((with_reducible refine (H1.out _).mono ?_); rintro e w1 ⟨rfl, rfl⟩)))
        go_roundw
        case rel => exact ⟨k + 1, _, by omega, by go_num, rfl, hdr, by rw [HN.out]; exact M⟩
        case measure => simp [intOf]; omega
    · obtain rfl : k = 10 := by omega
      go_wp2
      go_ret
      exact ⟨_, rfl, hdr, M⟩
/-- The comparison of two numbers. -/
def cmpI (x y : Int) : Int := if x < y then -1 else if y < x then 1 else 0



/-- The comparison of two sets. -/
def cfS (a b : Nat) : Int := if (mL a).length = (mL b).length then lexC (mL a) (mL b) else ((mL a).length : Int) - ((mL b).length : Int)

end Go.Proofs.YteonahoboligdaaDoor
