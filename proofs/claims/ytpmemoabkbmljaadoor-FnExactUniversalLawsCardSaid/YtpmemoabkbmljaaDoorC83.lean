/- The text of a term for the reference, the text of an identity on both sides: contracts. -/
import Derived.Test.YtpmemoabkbmljaaDoorC82
namespace Go.Proofs.YtpmemoabkbmljaaDoor
set_option linter.unusedSimpArgs false
set_option linter.unusedVariables false
open Go Go.RowKit

theorem txB_ok {xs : List Nat} (hT : isTm (elB xs) xs.length = true) : (txB (elB xs) xs.length).length ≤ 200 ∧ Byts (txB (elB xs) xs.length) := by
  obtain ⟨h1, h2⟩ := isTm_iff.1 hT
  obtain ⟨o1, o2⟩ := txTo_ok h1
  obtain ⟨v, hv⟩ : ∃ v, txTo (elB xs) xs.length = [v] := List.length_eq_one_iff.1 (txTo_length h1)
  have hb : txB (elB xs) xs.length = v := by unfold txB; rw [hv]; rfl
  rw [hb]
  rw [hv] at o1 o2
  exact ⟨by have := mem_sumL (st := [v]) (s := v) (by simp); omega, (o2 v (by simp)).2⟩

set_option maxRecDepth 100000 in
theorem termText_any (xs : List Nat) (hT : isTm (elB xs) xs.length = true) (w : World) (p : Option Addr) (cap : Nat) (hr : rdq w p xs.length (bytF xs)) :
    Calls Tryd.prog 88 #[.slice p xs.length cap] w fun e w' => e = .returned (.string (str (txB (elB xs) xs.length))) ∧ Below w.heap.size w w' := by
  have M := Mm.start no w
  have H := folded_any xs hT w p cap hr
  generalize str (txB (elB xs) xs.length) = s at *
  clear hT hr
  go_enter Tryd.func88, Tryd.ntmps88
  go_wp2_with (first | (go_at_call 91; ((with_reducible refine (H).mono ?_); rintro e w1 ⟨rfl, hb⟩; have hsz := M.size; (try (have G9 := G.later hb; clear G; have G := G9; clear G9)); have M9 := M.later hb; clear M; (try clear C); have M := M9; clear M9; have C := M.ruleAll; simp only [Go.Proofs.YtpmemoabkbmljaaDoor.ruleAll] at C)))
  go_ret
  exact ⟨rfl, M.below⟩

theorem tm_lt {f : Nat → Nat} {n k u : Nat} (h : isTm f n = true) (hk : k < n) (hu : tmTo f k = some u) : f k < 256 := by
  rcases tm_byte h hk hu with ⟨hl, _⟩ | ⟨_, ho, _, _⟩
  · have := leaf_cases hl; omega
  · have := op_cases ho; omega

/-- One byte in a new slice, and its text. -/
def StCv (w0 : World) (b : Int) (s : ByteArray) : List Value → List Ent → Prop
  | [], Lg => Lg = []
  | [v], Lg => ∃ bi, v = .slice (some ⟨bi, 0, none⟩) 1 1 ∧ w0.heap.size ≤ bi ∧ Lg = [.box bi #[.int .u8 b] 5]
  | _ :: u :: _, Lg => u = .string s ∧ ∃ bi, Lg = [.box bi #[.int .u8 b] 5]
set_option maxRecDepth 100000 in
set_option maxHeartbeats 4000000 in
theorem l03Text_any (xs : List Nat) (hT : isTm (elB xs) xs.length = true) (w : World) (p : Option Addr) (cap : Nat) (hr : rdq w p xs.length (bytF xs)) :
    Calls Tryd.prog 83 #[.slice p xs.length cap] w fun e w' => e = .returned (.string (str (txB (elB xs) xs.length))) ∧ Below w.heap.size w w' := by
  have M := Mm.start no w
  have F1 := Hid2.mk (fun w1 (hb : Below w.heap.size w w1) => hr.later hb)
  have h40 : xs.length ≤ 40 := (isTm_iff.1 hT).2
  have HTM := Hid2.mk hT
  have HLE := Hid2.mk (fun {k v} => @txTo_length (elB xs) k v)
  have HOK := Hid2.mk (fun {k v} => @txTo_ok (elB xs) k v)
  have HEV := Hid2.mk (txTo_succ (elB xs))
  have HE0 := Hid2.mk (show stkS (txTo (elB xs) 0) = [] from rfl)
  have HEB := Hid2.mk (show txB (elB xs) xs.length = (txTo (elB xs) xs.length).headD [] from rfl)
  generalize txB (elB xs) xs.length = res at HEB ⊢
  generalize txTo (elB xs) = ev at HLE HOK HEV HE0 HEB
  clear hr hT
  go_enter Tryd.func83, Tryd.ntmps83
  go_wp2_with (first | ((with_reducible apply wpM_bsl' M 64 0 9 ([]) (#[])); rfl; rfl; rfl; exact bsl_s0; clear M; (try clear C); intro bo w9 h_bo M; have C := M.ruleAll; simp only [Go.Proofs.YtpmemoabkbmljaaDoor.ruleAll] at C))
  have M9 := M.asRow 0 rfl w.heap.size 0 1 h_bo rfl (Nat.zero_le _)
  clear M; (try clear C)
  have M : Mm no w w9 [.row w.heap.size (.slice (some ⟨bo, 0, none⟩) 0 0) 0 [] 9 1] := M9
  clear M9
  have C := M.ruleAll; simp only [Go.Proofs.YtpmemoabkbmljaaDoor.ruleAll] at C
  go_wp2
  go_loopw [4, 3, 5, 6, 7] (fun i v _ _ _ wr => ∃ k u : Nat, k ≤ xs.length ∧ i = .int .i64 (k : Int) ∧ tmTo (elB xs) k = some u ∧ ∃ g cv, v = .slice (some ⟨g, 0, none⟩) u cv ∧ Mm no w wr [.row w.heap.size (.slice (some ⟨g, 0, none⟩) u cv) u (stkS (ev k)) 9 1]) (fun i _ _ _ _ _ => xs.length - (intOf i).toNat)
  case atStart => exact ⟨0, 0, by omega, rfl, rfl, bo, 0, rfl, by rw [HE0.out]; exact M⟩
  case round =>
    obtain ⟨k, u, hk, rfl, ht, g, cv, rfl, M9⟩ := hrel
    clear M; (try clear C)
    have M := M9
    clear M9
    have C := M.ruleAll; simp only [Go.Proofs.YtpmemoabkbmljaaDoor.ruleAll] at C
    have hu := tmTo_le ht
    have HT := Hid2.mk ht
    have hlen := HLE.out ht
    have hok := HOK.out ht
    clear ht
    obtain ⟨hcv, hcm⟩ := own_cap (M.row 0 rfl)
    by_cases hlt : k < xs.length
    · have hlt' : (k : Int) < (xs.length : Int) := by omega
      obtain ⟨gx, rfl, hrr⟩ := F1.out _ M.below (by omega)
      have HCX := Hid2.mk (show ∀ w1, Below w.heap.size w w1 → w1.cell? ⟨gx, k, none⟩ = some (.int .u8 (elB xs k : Nat)) from fun w1 hb => by
        obtain ⟨g', e, hr⟩ := F1.out w1 hb (by omega)
        cases e
        exact hr.at_ k hlt)
      clear hrr
      have hst := HEV.out k
      have hc0 := HCX.out _ M.below
      have HV := Hid2.mk (fun w1 g2 cap2 h => @conv_str w1 (elB xs k) g2 cap2 (tm_lt HTM.out hlt HT.out) h)
      generalize hsb : str [elB xs k] = sb at HV
      rcases tm_byte HTM.out hlt HT.out with ⟨hl, hnx⟩ | ⟨hl, ho, h2, hnx⟩
      · rw [txStep_leaf hl] at hst
        have HST := Hid2.mk hst
        have HNX := Hid2.mk hnx
        have hop : isOpB (elB xs k) = false := by rcases leaf_cases hl with h | h | h | h <;> rw [h] <;> rfl
        have HL := fun w1 => l03Op_b (elB xs k) false hop w1
        generalize elB xs k = b at HCX hc0 HST HL HV hsb
        have HSB := Hid2.mk hsb
        clear hl hst hnx hsb hlen hok hop
        go_wp2
        apply wp_region_mmf2 M [0, 1, 2, 3, 4, 5, 8] 6 7 9 _ _ (StCv w b sb) (by kernel_rfl) (by kernel_rfl) rfl rfl rfl rfl rfl
        case ht => (repeat (first | exact wpTextG_nil | (apply wpTextG_cons; (intro g9 w2 hG; obtain ⟨Lg9, hSt9, G⟩ := hG; have M := G.suffix; have hc0 := HCX.out _ M.below; go_wp2; exact ⟨rfl, rfl, Lg9, hSt9, G⟩); rfl)))
        case hA =>
          intro Lg w2 h M
          obtain rfl : Lg = [] := h
          refine yield_walk (ops := #[]) rfl rfl (by simp [Act.put]) ?_
          simp only [List.nil_append] at M
          go_wp2_with (first | ((with_reducible apply wpM_bsl' M 47 1 5 ([(0, .int .u8 (b : Int))]) (#[.int .u8 (b : Int)])); rfl; rfl; rfl; exact bsl_u81 _; clear M; (try clear C); intro bi w9 h_bi M; have C := M.ruleAll; simp only [Go.Proofs.YtpmemoabkbmljaaDoor.ruleAll] at C))
          exact ⟨_, ⟨bi, rfl, by assumption, rfl⟩, M⟩
        case hA2 =>
          intro v Lg w2 h M
          obtain ⟨bi, rfl, hbi, rfl⟩ := h
          refine yield_walk (ops := #[]) rfl rfl (by simp [Act.put]) ?_
          have hv2 := HV.out w2 bi 1 ((M.box 0 rfl).cell _ _ rfl)
          go_wp2
          exact ⟨_, ⟨rfl, bi, rfl⟩, M⟩
        clear M; (try clear C)
        clear hc0
        intro v u2 Lg w2 h M
        obtain ⟨rfl, bi, rfl⟩ := h
        simp only [List.drop_succ_cons, List.drop_zero]
        have M9 := M.drop 0
        simp only [List.cons_append, List.nil_append, List.eraseIdx_cons_zero] at M9
        clear M
        have M := M9
        clear M9
        have C := M.ruleAll; simp only [Go.Proofs.YtpmemoabkbmljaaDoor.ruleAll] at C
        have hc0 := HCX.out _ M.below
        go_wp2_with (first | (go_at_call 81; ((with_reducible refine (HL _).mono ?_); rintro e w1 ⟨rfl, rfl⟩)) | ((with_reducible apply wpM_bsl' M 64 1 9 ([(0, .string sb)]) (#[.string sb])); rfl; rfl; rfl; exact bsl_s1 _; clear M; (try clear C); intro bs w9 h_bs M; have C := M.ruleAll; simp only [Go.Proofs.YtpmemoabkbmljaaDoor.ruleAll] at C) | ((with_reducible apply wpM_app' M 64 1 0 (w.heap.size) (.slice (some ⟨g, 0, none⟩) u cv) (u) (stkS (ev k)) 9 1 16); rfl; rfl; rfl; rfl; rfl; rfl; rfl; (first | exact .inl (Nat.le_refl _) | exact .inl (by assumption) | exact .inr (by assumption) | exact .inr HDv.out); (first | exact M.size | (have hq := M.size; omega)); exact und_sls; exact inf_els; rfl; decide; decide; rfl; exact rfl; exact flat_s1 _; omega; clear M; (try clear C); intro v2 w9 far_v2 M; simp only [List.set_cons_zero, List.set_cons_succ, entBlk, entT, List.getElem?_cons_zero, List.getElem?_cons_succ] at M; obtain ⟨pp_v2, cap_v2, rfl⟩ := own_form (M.row 1 rfl); have C := M.ruleAll; simp only [Go.Proofs.YtpmemoabkbmljaaDoor.ruleAll] at C))
        obtain ⟨go, cq, he9, _, _, _⟩ := own_rds (M.row 1 rfl) (by omega)
        cases he9
        go_roundw
        case rel => exact ⟨k + 1, u + 1, by omega, by go_num, HNX.out, go, _, rfl, by rw [HST.out, stkS_push, HSB.out]; exact M.drop 0⟩
        case measure => simp [intOf]; omega
      · obtain ⟨m, hm⟩ : ∃ m, u = m + 2 := ⟨u - 2, by omega⟩
        obtain ⟨c, a, r, hr⟩ : ∃ c a r, ev k = c :: a :: r := by
          revert hlen
          rcases ev k with _ | ⟨c, _ | ⟨a, r⟩⟩
          · intro h; simp at h; omega
          · intro h; simp at h; omega
          · intro _; exact ⟨c, a, r, rfl⟩
        have hrl : r.length = m := by rw [hr] at hlen; simp at hlen; omega
        have hla : a.length ≤ 10000 := by have := mem_sumL (st := ev k) (s := a) (by rw [hr]; simp); have := hok.1; omega
        have hlc : c.length ≤ 10000 := by have := mem_sumL (st := ev k) (s := c) (by rw [hr]; simp); have := hok.1; omega
        have hla1 := (hok.2 a (by rw [hr]; simp)).1
        have hlc1 := (hok.2 c (by rw [hr]; simp)).1
        have hcut : (stkS (ev k)).take m = stkS r := by rw [hr, ← hrl]; exact stkS_cut c a r
        have HC := Hid2.mk (show ∀ w2, Mm no w w2 [.row w.heap.size (.slice (some ⟨g, 0, none⟩) u cv) u (stkS (ev k)) 9 1] → w2.cell? ⟨g, m, none⟩ = some (.string (str a)) ∧ w2.cell? ⟨g, m + 1, none⟩ = some (.string (str c)) from fun w2 M => by
          have hown := M.row 0 rfl
          rw [hr] at hown
          have h1 := stkS_at1 c a r
          have h2 := stkS_at2 c a r
          rw [hrl] at h1 h2
          exact ⟨(World.ownsRow.cellAt hown m (by omega)).trans h1, (World.ownsRow.cellAt hown (m + 1) (by omega)).trans h2⟩)
        rw [hr, txStep_op hl] at hst
        have HST := Hid2.mk hst
        have HNX := Hid2.mk (show tmTo (elB xs) (k + 1) = some (m + 1) by rw [hnx]; congr 1; omega)
        have HL := fun w1 => l03Op_b (elB xs k) true ho w1
        have P1 := fun w1 => specPart_any a hla1 hla w1
        have P2 := fun w1 => specPart_any c hlc1 hlc w1
        have pa := parT_len a
        have pc := parT_len c
        have a1 := add_str (parT a) [elB xs k] (by simp only [List.length_singleton]; omega)
        have a2 := add_str (parT a ++ [elB xs k]) (parT c) (by simp only [List.length_append, List.length_singleton]; omega)
        rw [hsb] at a1
        have HCUT := Hid2.mk hcut
        have hu1 : (u : Int) - 1 = (m : Int) + 1 := by omega
        have hu2 : (u : Int) - 2 = (m : Int) := by omega
        have hmu : (m : Int) < (u : Int) := by omega
        have hmu1 : (m : Int) + 1 < (u : Int) := by omega
        have hmc : (m : Int) ≤ (cv : Int) := by omega
        have hm40 : (m : Int) + 1 < 40 := by omega
        have hmle : m ≤ u := by omega
        generalize elB xs k = b at HCX hc0 HL HST HV hsb a1 a2
        have HSB := Hid2.mk hsb
        generalize hs3 : str (parT a ++ [b] ++ parT c) = s3 at a2
        have HS3 := Hid2.mk hs3
        generalize str (parT a ++ [b]) = s2 at a1 a2
        generalize str (parT a) = s1 at a1 P1
        generalize str (parT c) = s4 at a2 P2
        clear hl ho h2 hst hnx hr hrl hcut hm hlen hok hs3 hla hlc hla1 hlc1 pa pc hsb
        go_wp2
        apply wp_region_mmf2 M [0, 1, 2, 3, 4, 5, 8] 6 7 9 _ _ (StCv w b sb) (by kernel_rfl) (by kernel_rfl) rfl rfl rfl rfl rfl
        case ht => (repeat (first | exact wpTextG_nil | (apply wpTextG_cons; (intro g9 w2 hG; obtain ⟨Lg9, hSt9, G⟩ := hG; have M := G.suffix; have hc0 := HCX.out _ M.below; go_wp2; exact ⟨rfl, rfl, Lg9, hSt9, G⟩); rfl)))
        case hA =>
          intro Lg w2 h M
          obtain rfl : Lg = [] := h
          refine yield_walk (ops := #[]) rfl rfl (by simp [Act.put]) ?_
          simp only [List.nil_append] at M
          go_wp2_with (first | ((with_reducible apply wpM_bsl' M 47 1 5 ([(0, .int .u8 (b : Int))]) (#[.int .u8 (b : Int)])); rfl; rfl; rfl; exact bsl_u81 _; clear M; (try clear C); intro bi w9 h_bi M; have C := M.ruleAll; simp only [Go.Proofs.YtpmemoabkbmljaaDoor.ruleAll] at C))
          exact ⟨_, ⟨bi, rfl, by assumption, rfl⟩, M⟩
        case hA2 =>
          intro v Lg w2 h M
          obtain ⟨bi, rfl, hbi, rfl⟩ := h
          refine yield_walk (ops := #[]) rfl rfl (by simp [Act.put]) ?_
          have hv2 := HV.out w2 bi 1 ((M.box 0 rfl).cell _ _ rfl)
          go_wp2
          exact ⟨_, ⟨rfl, bi, rfl⟩, M⟩
        clear M; (try clear C)
        clear hc0
        intro v u2 Lg w2 h M
        obtain ⟨rfl, bi, rfl⟩ := h
        simp only [List.drop_succ_cons, List.drop_zero]
        have M9 := M.drop 0
        simp only [List.cons_append, List.nil_append, List.eraseIdx_cons_zero] at M9
        clear M
        have M := M9
        clear M9
        have C := M.ruleAll; simp only [Go.Proofs.YtpmemoabkbmljaaDoor.ruleAll] at C
        have hc0 := HCX.out _ M.below
        go_wp2_with (first | (go_at_call 81; ((with_reducible refine (HL _).mono ?_); rintro e w1 ⟨rfl, rfl⟩)))
        apply wp_region_mm M 15 (by kernel_rfl) (by kernel_rfl)
        · simp only [List.take_succ_cons, List.take_zero]
          repeat (first | exact wpText_nil | (apply wpText_cons; (intro w2 M; have C := M.ruleAll; simp only [Go.Proofs.YtpmemoabkbmljaaDoor.ruleAll] at C; have hd1 := (HC.out _ M).1; have hd2 := (HC.out _ M).2; go_wp2_with (first | (go_at_call 89; ((with_reducible refine (P1 _).mono ?_); rintro e w1 ⟨rfl, rfl⟩)) | (go_at_call 89; ((with_reducible refine (P2 _).mono ?_); rintro e w1 ⟨rfl, rfl⟩))); exact ⟨rfl, rfl, M⟩); rfl))
        clear M; (try clear C)
        intro w2 M
        simp only [List.drop_succ_cons, List.drop_zero]
        have M7 := M.cutRow 0 rfl hmle
        simp only [List.set_cons_zero] at M7
        rw [HCUT.out] at M7
        clear M
        have M := M7
        clear M7
        have C := M.ruleAll; simp only [Go.Proofs.YtpmemoabkbmljaaDoor.ruleAll] at C
        go_wp2_with (first | ((with_reducible apply wpM_bsl' M 64 1 9 ([(0, .string s3)]) (#[.string s3])); rfl; rfl; rfl; exact bsl_s1 _; clear M; (try clear C); intro bs w9 h_bs M; have C := M.ruleAll; simp only [Go.Proofs.YtpmemoabkbmljaaDoor.ruleAll] at C) | ((with_reducible apply wpM_app' M 64 1 0 (w.heap.size) (.slice (some ⟨g, 0, none⟩) m cv) (m) (stkS r) 9 1 16); rfl; rfl; rfl; rfl; rfl; rfl; rfl; (first | exact .inl (Nat.le_refl _) | exact .inl (by assumption) | exact .inr (by assumption) | exact .inr HDv.out); (first | exact M.size | (have hq := M.size; omega)); exact und_sls; exact inf_els; rfl; decide; decide; rfl; exact rfl; exact flat_s1 _; omega; clear M; (try clear C); intro v2 w9 far_v2 M; simp only [List.set_cons_zero, List.set_cons_succ, entBlk, entT, List.getElem?_cons_zero, List.getElem?_cons_succ] at M; obtain ⟨pp_v2, cap_v2, rfl⟩ := own_form (M.row 1 rfl); have C := M.ruleAll; simp only [Go.Proofs.YtpmemoabkbmljaaDoor.ruleAll] at C))
        obtain ⟨go, cq, he9, _, _, _⟩ := own_rds (M.row 1 rfl) (by omega)
        cases he9
        go_roundw
        case rel => exact ⟨k + 1, m + 1, by omega, by go_num, HNX.out, go, _, rfl, by rw [HST.out, stkS_push, HS3.out]; exact M.drop 0⟩
        case measure => simp [intOf]; omega
    · obtain rfl : k = xs.length := by omega
      have hge : ¬ ((xs.length : Int) < (xs.length : Int)) := by omega
      obtain rfl : u = 1 := by
        have h1 := (isTm_iff.1 HTM.out).1.symm.trans HT.out
        cases h1; rfl
      obtain ⟨v, hv⟩ : ∃ v, ev xs.length = [v] := List.length_eq_one_iff.1 hlen
      have hown := M.row 0 rfl
      rw [hv] at hown HEB
      have e1 : wr.cell? ⟨g, 0, none⟩ = some (.string (str v)) := World.ownsRow.cellAt hown 0 (by omega)
      have hres : res = v := HEB.out
      subst hres
      clear hlen hv hown hok
      go_wp2
      go_ret
      exact ⟨rfl, M.below⟩

/-- The text of an identity. -/
def idT (xs ys : List Nat) : List Nat := txB (elB xs) xs.length ++ [61] ++ txB (elB ys) ys.length
set_option maxRecDepth 100000 in
set_option maxHeartbeats 1000000 in
theorem identityText_any (xs ys : List Nat) (hX : isTm (elB xs) xs.length = true) (hY : isTm (elB ys) ys.length = true) (w : World) (p1 p2 : Option Addr) (c1 c2 : Nat) (r1 : rdq w p1 xs.length (bytF xs)) (r2 : rdq w p2 ys.length (bytF ys)) :
    Calls Tryd.prog 68 #[.agg (idV p1 c1 p2 c2 xs.length ys.length)] w fun e w' => e = .returned (.string (str (idT xs ys))) ∧ Below w.heap.size w w' := by
  have M := Mm.start no w
  have hI1 := idv_0 p1 c1 p2 c2 xs.length ys.length
  have hI2 := idv_1 p1 c1 p2 c2 xs.length ys.length
  have H1 := fun w1 (hb : Below w.heap.size w w1) => termText_any xs hX w1 p1 c1 (r1.later hb)
  have H2 := fun w1 (hb : Below w.heap.size w w1) => termText_any ys hY w1 p2 c2 (r2.later hb)
  have t1 := txB_ok hX
  have t2 := txB_ok hY
  have a1 : ∀ w, (Op.stringOp .add (str (txB (elB xs) xs.length)) (⟨#[61]⟩ : ByteArray)).run Tryd.prog w = .ok (.string (str (txB (elB xs) xs.length ++ [61]))) w := add_str _ [61] (by simp only [List.length_singleton]; omega)
  have a2 : ∀ w, (Op.stringOp .add (str (txB (elB xs) xs.length ++ [61])) (str (txB (elB ys) ys.length))).run Tryd.prog w = .ok (.string (str (idT xs ys))) w := add_str _ _ (by simp only [List.length_append, List.length_singleton]; omega)
  generalize str (idT xs ys) = s3 at *
  generalize str (txB (elB xs) xs.length ++ [61]) = s2 at *
  generalize str (txB (elB xs) xs.length) = s1 at *
  generalize str (txB (elB ys) ys.length) = s4 at *
  clear hX hY r1 r2 t1 t2
  go_enter Tryd.func68, Tryd.ntmps68
  go_wp2_with (first | ((with_reducible apply wpM_box' M 49 (idV p1 c1 p2 c2 xs.length ys.length)); rfl; exact ⟨rfl, rfl⟩; clear M; (try clear C); intro bi w9 h_bi M; have C := M.ruleAll; simp only [Go.Proofs.YtpmemoabkbmljaaDoor.ruleAll] at C))
  apply wp_region_mm M 8 (by kernel_rfl) (by kernel_rfl); (simp only [List.take_succ_cons, List.take_zero]; repeat (first | exact wpText_nil | (apply wpText_cons; (intro w2 M; have C := M.ruleAll; simp only [Go.Proofs.YtpmemoabkbmljaaDoor.ruleAll] at C; go_wp2_with (first | (go_at_call 88; ((with_reducible refine (H1 _ M.below).mono ?_); rintro e w1 ⟨rfl, hb⟩; have hsz := M.size; (try (have G9 := G.later hb; clear G; have G := G9; clear G9)); have M9 := M.later hb; clear M; (try clear C); have M := M9; clear M9; have C := M.ruleAll; simp only [Go.Proofs.YtpmemoabkbmljaaDoor.ruleAll] at C)) | (go_at_call 88; ((with_reducible refine (H2 _ M.below).mono ?_); rintro e w1 ⟨rfl, hb⟩; have hsz := M.size; (try (have G9 := G.later hb; clear G; have G := G9; clear G9)); have M9 := M.later hb; clear M; (try clear C); have M := M9; clear M9; have C := M.ruleAll; simp only [Go.Proofs.YtpmemoabkbmljaaDoor.ruleAll] at C))); exact ⟨rfl, rfl, M⟩); rfl))); (clear M; (try clear C); intro w2 M; simp only [List.drop_succ_cons, List.drop_zero]; have C := M.ruleAll; simp only [Go.Proofs.YtpmemoabkbmljaaDoor.ruleAll] at C)
  go_wp2
  go_ret
  exact ⟨rfl, M.below⟩
set_option maxRecDepth 100000 in
set_option maxHeartbeats 1000000 in
theorem l03Shown_any (xs ys : List Nat) (hX : isTm (elB xs) xs.length = true) (hY : isTm (elB ys) ys.length = true) (w : World) (p1 p2 : Option Addr) (c1 c2 : Nat) (r1 : rdq w p1 xs.length (bytF xs)) (r2 : rdq w p2 ys.length (bytF ys)) :
    Calls Tryd.prog 63 #[.agg (idV p1 c1 p2 c2 xs.length ys.length)] w fun e w' => e = .returned (.string (str (idT xs ys))) ∧ Below w.heap.size w w' := by
  have M := Mm.start no w
  have hI1 := idv_0 p1 c1 p2 c2 xs.length ys.length
  have hI2 := idv_1 p1 c1 p2 c2 xs.length ys.length
  have H1 := fun w1 (hb : Below w.heap.size w w1) => l03Text_any xs hX w1 p1 c1 (r1.later hb)
  have H2 := fun w1 (hb : Below w.heap.size w w1) => l03Text_any ys hY w1 p2 c2 (r2.later hb)
  have t1 := txB_ok hX
  have t2 := txB_ok hY
  have a1 : ∀ w, (Op.stringOp .add (str (txB (elB xs) xs.length)) (⟨#[61]⟩ : ByteArray)).run Tryd.prog w = .ok (.string (str (txB (elB xs) xs.length ++ [61]))) w := add_str _ [61] (by simp only [List.length_singleton]; omega)
  have a2 : ∀ w, (Op.stringOp .add (str (txB (elB xs) xs.length ++ [61])) (str (txB (elB ys) ys.length))).run Tryd.prog w = .ok (.string (str (idT xs ys))) w := add_str _ _ (by simp only [List.length_append, List.length_singleton]; omega)
  generalize str (idT xs ys) = s3 at *
  generalize str (txB (elB xs) xs.length ++ [61]) = s2 at *
  generalize str (txB (elB xs) xs.length) = s1 at *
  generalize str (txB (elB ys) ys.length) = s4 at *
  clear hX hY r1 r2 t1 t2
  go_enter Tryd.func63, Tryd.ntmps63
  go_wp2_with (first | ((with_reducible apply wpM_box' M 49 (idV p1 c1 p2 c2 xs.length ys.length)); rfl; exact ⟨rfl, rfl⟩; clear M; (try clear C); intro bi w9 h_bi M; have C := M.ruleAll; simp only [Go.Proofs.YtpmemoabkbmljaaDoor.ruleAll] at C))
  apply wp_region_mm M 8 (by kernel_rfl) (by kernel_rfl); (simp only [List.take_succ_cons, List.take_zero]; repeat (first | exact wpText_nil | (apply wpText_cons; (intro w2 M; have C := M.ruleAll; simp only [Go.Proofs.YtpmemoabkbmljaaDoor.ruleAll] at C; go_wp2_with (first | (go_at_call 83; ((with_reducible refine (H1 _ M.below).mono ?_); rintro e w1 ⟨rfl, hb⟩; have hsz := M.size; (try (have G9 := G.later hb; clear G; have G := G9; clear G9)); have M9 := M.later hb; clear M; (try clear C); have M := M9; clear M9; have C := M.ruleAll; simp only [Go.Proofs.YtpmemoabkbmljaaDoor.ruleAll] at C)) | (go_at_call 83; ((with_reducible refine (H2 _ M.below).mono ?_); rintro e w1 ⟨rfl, hb⟩; have hsz := M.size; (try (have G9 := G.later hb; clear G; have G := G9; clear G9)); have M9 := M.later hb; clear M; (try clear C); have M := M9; clear M9; have C := M.ruleAll; simp only [Go.Proofs.YtpmemoabkbmljaaDoor.ruleAll] at C))); exact ⟨rfl, rfl, M⟩); rfl))); (clear M; (try clear C); intro w2 M; simp only [List.drop_succ_cons, List.drop_zero]; have C := M.ruleAll; simp only [Go.Proofs.YtpmemoabkbmljaaDoor.ruleAll] at C)
  go_wp2
  go_ret
  exact ⟨rfl, M.below⟩
end Go.Proofs.YtpmemoabkbmljaaDoor
