/- The text of a term, for the program: a contract. -/
import Derived.Test.YtpmemoabkbmljaaDoorC81
import Derived.Test.YtpmemoabkbmljaaDoorC63
import Derived.Shelf.Abstract
import Derived.Test.YtpmemoabkbmljaaDoorK20
namespace Go.Proofs.YtpmemoabkbmljaaDoor
set_option linter.unusedSimpArgs false
set_option linter.unusedVariables false
open Go Go.RowKit

theorem und_sls : Tryd.prog.underlying 64 = some (.slice 9) := by kernel_rfl
theorem inf_els : (Tryd.prog.info? 9).map (fun i => (i.zero, i.size, i.bytes)) = some (some (.string .empty), 1, 16) := by kernel_rfl
theorem bsl_s0 (w : World) : (Instr.buildSlice 64 0 [].toArray).run Tryd.prog w = .ok (.slice (some ⟨w.heap.size, 0, none⟩) 0 0) (w.alloc (.cells #[] 9)) := by kernel_rfl
theorem bsl_s1 (s : ByteArray) (w : World) : (Instr.buildSlice 64 1 [(0, Value.string s)].toArray).run Tryd.prog w = .ok (.slice (some ⟨w.heap.size, 0, none⟩) 1 1) (w.alloc (.cells #[.string s] 9)) := by kernel_rfl
theorem flat_s1 (s : ByteArray) : flat #[.string s] := fun u hu => by
  have : u = .string s := by simpa using hu
  subst this; rfl
/-- A stack of texts, the last one first, as a row. -/
def stkS (st : List (List Nat)) : List Value := st.reverse.map fun s => .string (str s)
theorem stkS_len (s : List (List Nat)) : (stkS s).length = s.length := by simp [stkS]
theorem stkS_push (v : List Nat) (s : List (List Nat)) : stkS (v :: s) = stkS s ++ [.string (str v)] := by simp [stkS]
theorem stkS_at1 (c a : List Nat) (r : List (List Nat)) : (stkS (c :: a :: r))[r.length]? = some (.string (str a)) := by
  rw [stkS_push, stkS_push, List.append_assoc, List.getElem?_append_right (by rw [stkS_len]; exact Nat.le_refl _), stkS_len]; simp
theorem stkS_at2 (c a : List Nat) (r : List (List Nat)) : (stkS (c :: a :: r))[r.length + 1]? = some (.string (str c)) := by
  rw [stkS_push, stkS_push, List.append_assoc, List.getElem?_append_right (by rw [stkS_len]; omega), stkS_len]; simp
theorem stkS_cut (c a : List Nat) (r : List (List Nat)) : (stkS (c :: a :: r)).take r.length = stkS r := by
  rw [stkS_push, stkS_push, List.append_assoc, ← stkS_len r, List.take_left']
  rfl

set_option maxRecDepth 100000 in
set_option maxHeartbeats 4000000 in
theorem folded_any (xs : List Nat) (hT : isTm (elB xs) xs.length = true) (w : World) (p : Option Addr) (cap : Nat) (hr : rdq w p xs.length (bytF xs)) :
    Calls Tryd.prog 91 #[.slice p xs.length cap, .func (.func 92) #[] #[], .func (.func 93) #[] #[]] w fun e w' => e = .returned (.string (str (txB (elB xs) xs.length))) ∧ Below w.heap.size w w' := by
  have M := Mm.start no w
  have F1 := Hid2.mk (fun w1 (hb : Below w.heap.size w w1) => hr.later hb)
  have h40 : xs.length ≤ 40 := (isTm_iff.1 hT).2
  have HTM := Hid2.mk hT
  have HLE := Hid2.mk (fun {k v} => @txTo_length (elB xs) k v)
  have HOK := Hid2.mk (fun {k v} => @txTo_ok (elB xs) k v)
  have HEV := Hid2.mk (txTo_succ (elB xs))
  have HE0 := Hid2.mk (show stkS (txTo (elB xs) 0) = [] from rfl)
  have HEB := Hid2.mk (show txB (elB xs) xs.length = (txTo (elB xs) xs.length).headD [] from rfl)
  have he1 := enters_of (P := Tryd.prog) (f := 92) (by exact Tryd.func92) (by kernel_rfl) rfl
  have he2 := enters_of (P := Tryd.prog) (f := 93) (by exact Tryd.func93) (by kernel_rfl) rfl
  generalize txB (elB xs) xs.length = res at HEB ⊢
  generalize txTo (elB xs) = ev at HLE HOK HEV HE0 HEB
  clear hr hT
  go_enter Tryd.func91, Tryd.ntmps91
  go_wp2_with (first | ((with_reducible apply wpM_bsl' M 64 0 9 ([]) (#[])); rfl; rfl; rfl; exact bsl_s0; clear M; (try clear C); intro bo w9 h_bo M; have C := M.ruleAll; simp only [Go.Proofs.YtpmemoabkbmljaaDoor.ruleAll] at C))
  have M9 := M.asRow 0 rfl w.heap.size 0 1 h_bo rfl (Nat.zero_le _)
  clear M; (try clear C)
  have M : Mm no w w9 [.row w.heap.size (.slice (some ⟨bo, 0, none⟩) 0 0) 0 [] 9 1] := M9
  clear M9
  have C := M.ruleAll; simp only [Go.Proofs.YtpmemoabkbmljaaDoor.ruleAll] at C
  go_wp2
  go_loopw [14, 7, 9, 10] (fun i v _ _ wr => ∃ k u : Nat, k ≤ xs.length ∧ i = .int .i64 (k : Int) ∧ tmTo (elB xs) k = some u ∧ ∃ g cv, v = .slice (some ⟨g, 0, none⟩) u cv ∧ Mm no w wr [.row w.heap.size (.slice (some ⟨g, 0, none⟩) u cv) u (stkS (ev k)) 9 1]) (fun i _ _ _ _ => xs.length - (intOf i).toNat)
  case atStart => exact ⟨0, 0, by omega, rfl, rfl, bo, 0, rfl, by rw [HE0.out]; exact M⟩
  case round =>
    obtain ⟨k, u, hk, rfl, ht, g, cv, rfl, M9⟩ := hrel
    clear M; (try clear C)
    have M := M9
    clear M9
    have C := M.ruleAll; simp only [Go.Proofs.YtpmemoabkbmljaaDoor.ruleAll] at C
    have hu := tmTo_le ht
    have HT := Hid2.mk ht
    have hlen := HLE.out ht
    have hok := HOK.out ht
    clear ht
    obtain ⟨hcv, hcm⟩ := own_cap (M.row 0 rfl)
    by_cases hlt : k < xs.length
    · have hlt' : (k : Int) < (xs.length : Int) := by omega
      obtain ⟨gx, rfl, hrr⟩ := F1.out _ M.below (by omega)
      have hcx : ∀ w1, Below w.heap.size w w1 → w1.cell? ⟨gx, k, none⟩ = some (.int .u8 (elB xs k : Nat)) := fun w1 hb => by
        obtain ⟨g', e, hr⟩ := F1.out w1 hb (by omega)
        cases e
        exact hr.at_ k hlt
      clear hrr
      have hst := HEV.out k
      have hc0 := hcx _ M.below
      rcases tm_byte HTM.out hlt HT.out with ⟨hl, hnx⟩ | ⟨hl, ho, h2, hnx⟩
      · rw [txStep_leaf hl] at hst
        have HST := Hid2.mk hst
        have HNX := Hid2.mk hnx
        have HL := fun w1 => isLeaf_b (elB xs k) true hl w1
        have H1 := fun w1 => tx1_any (elB xs k) hl w1
        generalize elB xs k = b at hc0 HST HL H1
        generalize hsb : str [b] = sb at H1
        have HSB := Hid2.mk hsb
        clear hl hst hnx hcx hsb hlen hok
        go_wp2_with (first | (go_at_call 90; ((with_reducible refine (HL _).mono ?_); rintro e w1 ⟨rfl, rfl⟩)) | (go_at_call 92; ((with_reducible refine (H1 _).mono ?_); rintro e w1 ⟨rfl, rfl⟩)) | ((with_reducible apply wpM_bsl' M 64 1 9 ([(0, .string sb)]) (#[.string sb])); rfl; rfl; rfl; exact bsl_s1 _; clear M; (try clear C); intro bi w9 h_bi M; have C := M.ruleAll; simp only [Go.Proofs.YtpmemoabkbmljaaDoor.ruleAll] at C) | ((with_reducible apply wpM_app' M 64 1 0 (w.heap.size) (.slice (some ⟨g, 0, none⟩) u cv) (u) (stkS (ev k)) 9 1 16); rfl; rfl; rfl; rfl; rfl; rfl; rfl; (first | exact .inl (Nat.le_refl _) | exact .inl (by assumption) | exact .inr (by assumption) | exact .inr HDv.out); (first | exact M.size | (have hq := M.size; omega)); exact und_sls; exact inf_els; rfl; decide; decide; rfl; exact rfl; exact flat_s1 _; omega; clear M; (try clear C); intro v2 w9 far_v2 M; simp only [List.set_cons_zero, List.set_cons_succ, entBlk, entT, List.getElem?_cons_zero, List.getElem?_cons_succ] at M; obtain ⟨pp_v2, cap_v2, rfl⟩ := own_form (M.row 1 rfl); have C := M.ruleAll; simp only [Go.Proofs.YtpmemoabkbmljaaDoor.ruleAll] at C))
        obtain ⟨go, cq, he9, _, _, _⟩ := own_rds (M.row 1 rfl) (by omega)
        cases he9
        go_roundw
        case rel => exact ⟨k + 1, u + 1, by omega, by go_num, HNX.out, go, _, rfl, by rw [HST.out, stkS_push, HSB.out]; exact M.drop 0⟩
        case measure => simp [intOf]; omega
      · obtain ⟨m, hm⟩ : ∃ m, u = m + 2 := ⟨u - 2, by omega⟩
        obtain ⟨c, a, r, hr⟩ : ∃ c a r, ev k = c :: a :: r := by
          revert hlen
          rcases ev k with _ | ⟨c, _ | ⟨a, r⟩⟩
          · intro h; simp at h; omega
          · intro h; simp at h; omega
          · intro _; exact ⟨c, a, r, rfl⟩
        have hrl : r.length = m := by rw [hr] at hlen; simp at hlen; omega
        have hla : a.length ≤ 10000 := by have := mem_sumL (st := ev k) (s := a) (by rw [hr]; simp); have := hok.1; omega
        have hlc : c.length ≤ 10000 := by have := mem_sumL (st := ev k) (s := c) (by rw [hr]; simp); have := hok.1; omega
        have hcut : (stkS (ev k)).take m = stkS r := by rw [hr, ← hrl]; exact stkS_cut c a r
        have HC := Hid2.mk (show ∀ w2, Mm no w w2 [.row w.heap.size (.slice (some ⟨g, 0, none⟩) u cv) u (stkS (ev k)) 9 1] → w2.cell? ⟨g, m, none⟩ = some (.string (str a)) ∧ w2.cell? ⟨g, m + 1, none⟩ = some (.string (str c)) from fun w2 M => by
          have hown := M.row 0 rfl
          rw [hr] at hown
          have h1 := stkS_at1 c a r
          have h2 := stkS_at2 c a r
          rw [hrl] at h1 h2
          exact ⟨(World.ownsRow.cellAt hown m (by omega)).trans h1, (World.ownsRow.cellAt hown (m + 1) (by omega)).trans h2⟩)
        rw [hr, txStep_op hl] at hst
        have HST := Hid2.mk hst
        have HNX := Hid2.mk (show tmTo (elB xs) (k + 1) = some (m + 1) by rw [hnx]; congr 1; omega)
        have HL := fun w1 => isLeaf_b (elB xs k) false hl w1
        have H2 := Hid2.mk (fun w1 => tx2_any (elB xs k) ho a c hla hlc w1)
        have HCUT := Hid2.mk hcut
        have hu1 : (u : Int) - 1 = (m : Int) + 1 := by omega
        have hu2 : (u : Int) - 2 = (m : Int) := by omega
        have hmu : (m : Int) < (u : Int) := by omega
        have hmu1 : (m : Int) + 1 < (u : Int) := by omega
        have hmc : (m : Int) ≤ (cv : Int) := by omega
        have hm40 : (m : Int) + 1 < 40 := by omega
        have hmle : m ≤ u := by omega
        generalize elB xs k = b at hc0 HL H2 HST
        generalize hs3 : str (parT a ++ [b] ++ parT c) = s3 at H2
        have HS3 := Hid2.mk hs3
        clear hl ho h2 hst hnx hr hrl hcut hcx hm hlen hok hs3 hla hlc
        go_wp2_with (first | (go_at_call 90; ((with_reducible refine (HL _).mono ?_); rintro e w1 ⟨rfl, rfl⟩)))
        apply wp_region_mmb M [0, 1, 2, 3, 4, 5, 6, 7, 8, 9, 10, 11, 12, 13, 14] 15 16 _ 64 1 9 ([(0, .string s3)]) (#[.string s3]) (by kernel_rfl) (by kernel_rfl) rfl rfl rfl
        case ht => (repeat (first | exact wpTextG_nil | (apply wpTextG_cons; (intro g9 w2 hG; obtain ⟨Lg9, hSt9, G⟩ := hG; have M := G.suffix; have C := M.ruleAll; simp only [Go.Proofs.YtpmemoabkbmljaaDoor.ruleAll] at C; have hd1 := (HC.out _ M).1; have hd2 := (HC.out _ M).2; go_wp2_with (first | (go_at_call 93; ((with_reducible refine (H2.out _).mono ?_); rintro e w1 ⟨rfl, rfl⟩))); exact ⟨rfl, rfl, Lg9, hSt9, G⟩); rfl)))
        rfl
        exact bsl_s1 _
        clear M; (try clear C)
        intro bi w2 h_bi M
        simp only [List.drop_succ_cons, List.drop_zero]
        have M7 := M.cutRow 1 rfl hmle
        simp only [List.set_cons_zero, List.set_cons_succ] at M7
        rw [HCUT.out] at M7
        clear M
        have M := M7
        clear M7
        have C := M.ruleAll; simp only [Go.Proofs.YtpmemoabkbmljaaDoor.ruleAll] at C
        go_wp2_with (first | ((with_reducible apply wpM_app' M 64 1 0 (w.heap.size) (.slice (some ⟨g, 0, none⟩) m cv) (m) (stkS r) 9 1 16); rfl; rfl; rfl; rfl; rfl; rfl; rfl; (first | exact .inl (Nat.le_refl _) | exact .inl (by assumption) | exact .inr (by assumption) | exact .inr HDv.out); (first | exact M.size | (have hq := M.size; omega)); exact und_sls; exact inf_els; rfl; decide; decide; rfl; exact rfl; exact flat_s1 _; omega; clear M; (try clear C); intro v2 w9 far_v2 M; simp only [List.set_cons_zero, List.set_cons_succ, entBlk, entT, List.getElem?_cons_zero, List.getElem?_cons_succ] at M; obtain ⟨pp_v2, cap_v2, rfl⟩ := own_form (M.row 1 rfl); have C := M.ruleAll; simp only [Go.Proofs.YtpmemoabkbmljaaDoor.ruleAll] at C))
        obtain ⟨go, cq, he9, _, _, _⟩ := own_rds (M.row 1 rfl) (by omega)
        cases he9
        go_roundw
        case rel => exact ⟨k + 1, m + 1, by omega, by go_num, HNX.out, go, _, rfl, by rw [HST.out, stkS_push, HS3.out]; exact M.drop 0⟩
        case measure => simp [intOf]; omega
    · obtain rfl : k = xs.length := by omega
      have hge : ¬ ((xs.length : Int) < (xs.length : Int)) := by omega
      obtain rfl : u = 1 := by
        have h1 := (isTm_iff.1 HTM.out).1.symm.trans HT.out
        cases h1; rfl
      obtain ⟨v, hv⟩ : ∃ v, ev xs.length = [v] := List.length_eq_one_iff.1 hlen
      have hown := M.row 0 rfl
      rw [hv] at hown HEB
      have e1 : wr.cell? ⟨g, 0, none⟩ = some (.string (str v)) := World.ownsRow.cellAt hown 0 (by omega)
      have hres : res = v := HEB.out
      subst hres
      clear hlen hv hown hok
      go_wp2
      go_ret
      exact ⟨rfl, M.below⟩
end Go.Proofs.YtpmemoabkbmljaaDoor
