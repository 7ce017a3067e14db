/- The text of a book: strings.Join out of the shelf, the program's text. Contracts. -/
import Derived.Test.YtinjjaoikofkdaaH2
import Derived.Test.YtinjjaoikofkdaaH3
import Derived.Shelf.Lay
import Derived.Shelf.Strings.OnBuilder
namespace Go.Proofs
open Go.Shelf
shelf_lay Lays.n156 Nm 156 at Try as Try.join
theorem Try.joinX : Builder.Extra Try.prog Try.join_ren where
  sizeBuilder := by kernel_rfl
  liesBuilder := by kernel_rfl
  t5 := by kernel_rfl
  a5 := fun _ => by kernel_rfl
  z5 := fun _ => by kernel_rfl
  v5 := fun _ => by kernel_rfl
  infoByte := by kernel_rfl
  cellsByte := by kernel_rfl
  sizeByte := by kernel_rfl
  neB5 := by decide
open Go.RowKit in
theorem Try.joinA (bk o c : Nat) (xs : List ByteArray) (sep : ByteArray) (w : World)
    (hcells : ∀ (j : Nat) x, xs[j]? = some x → w.cell? ⟨bk, o + j, none⟩ = some (.string x))
    (hbk : bk < w.heap.size) (hN : xs.length ≤ 140737488355328) (hcap : xs.length ≤ c)
    (hlen : (Lib.join (xs.map (·.data.toList)) sep.data.toList).length ≤ 140737488355328) :
    Calls Try.prog 77 #[.slice (some ⟨bk, o, none⟩) xs.length c, .string sep] w fun e w' => e = .returned (.string ⟨(Lib.join (xs.map (·.data.toList)) sep.data.toList).toArray⟩) ∧ Below w.heap.size w w' :=
  Any.strings_Join Try.join Try.joinX bk o c xs sep w hcells hbk hN hcap hlen
open Go.RowKit in
theorem Try.joinN (a : Option Addr) (c : Nat) (sep : ByteArray) (w : World) :
    Calls Try.prog 77 #[.slice a 0 c, .string sep] w fun e w' => e = .returned (.string ⟨#[]⟩) ∧ w' = w :=
  Any.strings_Join_none Try.join Try.joinX a c sep w
end Go.Proofs

namespace Go.Proofs.Ytinjjaoikofkdaa
set_option linter.unusedSimpArgs false
set_option linter.unusedVariables false
open Go Go.RowKit
theorem und_slJ : Try.prog.underlying 22 = some (.slice 9) := by kernel_rfl
theorem inf_elJ : (Try.prog.info? 9).map (fun i => (i.zero, i.size, i.bytes)) = some (some (.string .empty), 1, 16) := by kernel_rfl
theorem bsl_J0 (w : World) : (Instr.buildSlice 22 0 [].toArray).run Try.prog w = .ok (.slice (some ⟨w.heap.size, 0, none⟩) 0 0) (w.alloc (.cells #[] 9)) := by kernel_rfl
theorem bsl_J1 (s : ByteArray) (w : World) : (Instr.buildSlice 22 1 [(0, Value.string s)].toArray).run Try.prog w = .ok (.slice (some ⟨w.heap.size, 0, none⟩) 1 1) (w.alloc (.cells #[.string s] 9)) := by kernel_rfl
theorem flat_J1 (s : ByteArray) : flat #[.string s] := fun u hu => by
  have : u = .string s := by simpa using hu
  subst this; rfl
/-- The first k of some texts as a row. -/
def txR (W : Nat → List Nat) (k : Nat) : List Value := (List.range k).map fun j => .string (str (W j))
theorem txR_succ (W : Nat → List Nat) (k : Nat) : txR W (k + 1) = txR W k ++ [.string (str (W k))] := by unfold txR; rw [List.range_succ, List.map_append]; rfl
/-- The parts of a book, joined. -/
theorem join_book (ns : List ByteArray) (ls : List Sqr) (n : Nat) (hn : n ≤ 20) (hl : ∀ k, k < n → (wrdT ns ls k).length ≤ 200) (B : Nat) (pp : Option Addr) (cap : Nat) (w : World) (h : w.ownsRow B 9 1 (.slice pp n cap) n (txR (wrdT ns ls) n)) :
    Calls Try.prog 77 #[.slice pp n cap, .string ⟨#[59]⟩] w fun e w' => e = .returned (.string (str (bkT ns ls n))) ∧ Below w.heap.size w w' := by
  rcases Nat.eq_zero_or_pos n with rfl | hp
  · refine (Try.joinN pp cap ⟨#[59]⟩ w).mono ?_
    rintro e w' ⟨rfl, rfl⟩
    exact ⟨rfl, Below.refl _ _⟩
  · obtain ⟨g, c, e, _, _, hr⟩ := own_rds h (by omega)
    obtain ⟨rfl, rfl⟩ : pp = some ⟨g, 0, none⟩ ∧ cap = c := by cases e; exact ⟨rfl, rfl⟩
    have hlen : ((List.range n).map fun k => str (wrdT ns ls k)).length = n := by simp
    have hj := bkT_join ns ls n
    have hbl := bkT_len hl
    have hc : n ≤ cap := by
      obtain ⟨_, h | ⟨g', cap', cur, e1, _, _, hn, hc, _⟩⟩ := h
      · cases h.1
      · cases e1; exact hn
    have := Try.joinA g 0 cap ((List.range n).map fun k => str (wrdT ns ls k)) ⟨#[59]⟩ w (fun j x hx => by
      have hjn : j < n := by have := (List.getElem?_eq_some_iff.1 hx).1; rwa [hlen] at this
      rw [Nat.zero_add, hr.at_ j (by omega)]
      rw [List.getElem?_map, List.getElem?_range hjn] at hx
      cases hx
      unfold txR
      rw [List.getD_eq_getElem?_getD, List.getElem?_map, List.getElem?_range hjn]
      rfl) hr.lt (by rw [hlen]; omega) (by rw [hlen]; omega) (by
      show (Lib.join _ [59]).length ≤ _
      rw [hj, List.length_map]; omega)
    rw [hlen] at this
    refine this.mono ?_
    rintro e w' ⟨rfl, hb⟩
    refine ⟨?_, hb⟩
    show Ending.returned (.string ⟨(Lib.join _ [59]).toArray⟩) = _
    rw [hj]
    rfl
/-- The text of a square of a book. -/
theorem squareTextI (n : Int) (t : Nat → Nat → Nat) (h : IsSq n t) (w : World) : Calls Try.prog 76 #[.agg (sqs n t)] w fun e w' => e = .returned (.string (str (sqT n.toNat t n.toNat))) ∧ Below w.heap.size w w' := by
  have h1 := h.lo
  have h2 := h.hi
  obtain ⟨N, rfl⟩ : ∃ N : Nat, n = (N : Int) := ⟨n.toNat, by omega⟩
  exact squareText_any N t (by omega) (by omega) (fun x y hx hy => by have := (Lat.of_sq h).lt x y hx hy; omega) w
theorem l01TextI (n : Int) (t : Nat → Nat → Nat) (h : IsSq n t) (w : World) : Calls Try.prog 75 #[.agg (sqs n t)] w fun e w' => e = .returned (.string (str (sqT n.toNat t n.toNat))) ∧ Below w.heap.size w w' := by
  have h1 := h.lo
  have h2 := h.hi
  obtain ⟨N, rfl⟩ : ∃ N : Nat, n = (N : Int) := ⟨n.toNat, by omega⟩
  exact l01Text_any N t (by omega) (by omega) (fun x y hx hy => by have := (Lat.of_sq h).lt x y hx hy; omega) w
theorem sqT_len2 {n : Int} (t : Nat → Nat → Nat) (h : n ≤ 10) : (sqT n.toNat t n.toNat).length ≤ 110 := by
  have h3 := sqT_len n.toNat t n.toNat
  have h4 : n.toNat ≤ 10 := by omega
  have h5 := Nat.mul_le_mul h4 (Nat.add_le_add_right h4 1)
  omega

set_option maxRecDepth 100000 in
set_option maxHeartbeats 2000000 in
theorem bookText_any {ns : List ByteArray} {ls : List Sqr} (h : BkIn ns ls) (hv : isBk ns ls = true) (w : World) {g1 g2 : Nat} (h1 : BkHere ns ls w g1 g2) (c1 c2 : Nat) :
    Calls Try.prog 56 #[.agg (bkA g1 c1 g2 c2 ns.length ls.length)] w fun e w' => e = .returned (.string (str (bkT ns ls ns.length))) ∧ Below w.heap.size w w' := by
  have M := Mm.start no w
  have k0 : (bkA g1 c1 g2 c2 ns.length ls.length)[0]? = some (.slice (some ⟨g1, 0, none⟩) ns.length c1) := rfl
  have k1 : (bkA g1 c1 g2 c2 ns.length ls.length)[1]? = some (.slice (some ⟨g2, 0, none⟩) ls.length c2) := rfl
  obtain ⟨hn, hm, hall⟩ := isBk_get hv
  have hn' : (ns.length : Int) ≤ 20 := by omega
  have hm' : (ls.length : Int) = ns.length := by omega
  have HALL := Hid2.mk hall
  have HWL := Hid2.mk (show ∀ k, k < ns.length → (wrdT ns ls k).length ≤ 200 from fun k hk => wrdT_len (hall k hk).1 (by have := (hall k hk).2.1; omega))
  have HM := Hid2.mk hm
  have HH := Hid2.mk (fun w1 (hb : Below w.heap.size w w1) => h1.later hb)
  have hml : (ls.length : Int) ≤ 20 := by omega
  clear h hv h1 hall hm hm'
  go_enter Try.func56, Try.ntmps56
  go_wp2_with (first | ((with_reducible apply wpM_box' M 29 (bkA g1 c1 g2 c2 ns.length ls.length)); rfl; exact ⟨rfl, rfl⟩; clear M; (try clear C); intro bb w9 h_bb M; have C := M.ruleAll; simp only [Go.Proofs.Ytinjjaoikofkdaa.ruleAll] at C) | (((with_reducible apply wpM_bsl' M 22 0 9 ([]) (#[])); rfl; rfl; rfl; exact bsl_J0; clear M; (try clear C); intro bs w9 h_bs M; have C := M.ruleAll; simp only [Go.Proofs.Ytinjjaoikofkdaa.ruleAll] at C); have M9 := M.asRow 0 rfl w.heap.size 0 1 h_bs rfl (Nat.zero_le _); simp only [List.set_cons_zero] at M9; clear M; (try clear C); have M := M9; clear M9; have C := M.ruleAll; simp only [Go.Proofs.Ytinjjaoikofkdaa.ruleAll] at C))
  go_loopw [3, 10, 4, 5] (fun o i _ _ wr => ∃ (k : Nat) (pp : Option Addr) (cap : Nat), k ≤ ns.length ∧ i = .int .i64 (k : Int) ∧ o = .slice pp k cap ∧ Mm no w wr [.row w.heap.size (.slice pp k cap) k (txR (wrdT ns ls) k) 9 1, .box bb (bkA g1 c1 g2 c2 ns.length ls.length) 29]) (fun _ i _ _ _ => ns.length - (intOf i).toNat)
  case atStart => exact ⟨0, some ⟨bs, 0, none⟩, 0, by omega, rfl, rfl, M⟩
  case round =>
    obtain ⟨k, pp, cap, hk, rfl, rfl, M9⟩ := hrel
    clear M; (try clear C)
    have M := M9
    clear M9
    by_cases hlt : k < ns.length
    · have hlt' : (k : Int) < (ns.length : Int) := by omega
      have hltm : k < ls.length := by rw [HM.out]; exact hlt
      have hltm' : (k : Int) < (ls.length : Int) := by omega
      obtain ⟨hs1, hs2, hs3⟩ := HALL.out k hlt
      have HN := fun w1 (hb : Below w.heap.size w w1) => (show w1.cell? ⟨g1, k, none⟩ = some (.string (str (nmB ns k))) from by
        rw [(HH.out w1 hb).r1.at_ k hlt, ← nmB_str]; rfl)
      have HQ : ∀ w1, Below w.heap.size w w1 → ∀ j v, (sqs (ls.getD k sq00).n (ls.getD k sq00).t)[j]? = some v → w1.cell? ⟨g2, k * 101 + j, none⟩ = some v := fun w1 hb => by
        rw [getD_at hltm]
        exact sq_cells (HH.out w1 hb).r2 hltm
      have hnl := nmB_len ns k
      have hql := sqT_len2 (ls.getD k sq00).t (show (ls.getD k sq00).n ≤ 10 by omega)
      have HS := Hid2.mk (fun w1 => squareTextI _ _ hs3 w1)
      have HW := Hid2.mk (txR_succ (wrdT ns ls) k)
      have hw : wrdT ns ls k = nmB ns k ++ [61] ++ sqT (ls.getD k sq00).n.toNat (ls.getD k sq00).t (ls.getD k sq00).n.toNat := rfl
      rw [hw] at HW
      clear hw hs3
      generalize txR (wrdT ns ls) k = R0 at HW M
      generalize hsq : sqT (ls.getD k sq00).n.toNat (ls.getD k sq00).t (ls.getD k sq00).n.toNat = sb at *
      clear hsq
      generalize ls.getD k sq00 = q at *
      generalize nmB ns k = nm at *
      have a1 : ∀ w, (Op.stringOp .add (str nm) (⟨#[61]⟩ : ByteArray)).run Try.prog w = .ok (.string (str (nm ++ [61]))) w := add_str nm [61] (by rw [List.length_singleton]; omega)
      have a2 := add_str (nm ++ [61]) sb (by rw [List.length_append, List.length_singleton]; omega)
      obtain ⟨wd, hwd⟩ : ∃ wd, wd = nm ++ [61] ++ sb := ⟨_, rfl⟩
      rw [← hwd] at a2 HW
      clear hwd
      have hc1 := HN _ M.below
      have HC := Hid2.mk HQ
      have HC1 := Hid2.mk HN
      clear HN HQ hnl hql hs1 hs2
      have C := M.ruleAll; simp only [Go.Proofs.Ytinjjaoikofkdaa.ruleAll] at C
      go_wp2_with (first | (refine wpList_load_part rfl 43 _ rfl (g2) (k * 101) rfl (sqs q.n q.t) _ und_sqs rfl inf_sqs (HC.out _ M.below) ?_) | (go_at_call 76; ((with_reducible refine (HS.out _).mono ?_); rintro e w1 ⟨rfl, hb⟩; have hsz := M.size; (try (have G9 := G.later hb; clear G; have G := G9; clear G9)); have M9 := M.later hb; clear M; (try clear C); have M := M9; clear M9; have C := M.ruleAll; simp only [Go.Proofs.Ytinjjaoikofkdaa.ruleAll] at C)) | ((with_reducible apply wpM_bsl' M 22 1 9 ([(0, .string (str wd))]) (#[.string (str wd)])); rfl; rfl; rfl; exact bsl_J1 _; clear M; (try clear C); intro bi w9 h_bi M; have C := M.ruleAll; simp only [Go.Proofs.Ytinjjaoikofkdaa.ruleAll] at C) | ((with_reducible apply wpM_app' M 22 1 0 (w.heap.size) (.slice pp k cap) (k) (R0) 9 1 16); rfl; rfl; rfl; rfl; rfl; rfl; rfl; (first | exact .inl (Nat.le_refl _) | exact .inl (by assumption) | exact .inr (by assumption) | exact .inr HDv.out); (first | exact M.size | (have hq := M.size; omega)); exact und_slJ; exact inf_elJ; rfl; decide; decide; rfl; exact rfl; exact flat_J1 _; omega; clear M; (try clear C); intro v2 w9 far_v2 M; simp only [List.set_cons_zero, List.set_cons_succ, entBlk, entT, List.getElem?_cons_zero, List.getElem?_cons_succ] at M; obtain ⟨pp_v2, cap_v2, rfl⟩ := own_form (M.row 1 rfl); have C := M.ruleAll; simp only [Go.Proofs.Ytinjjaoikofkdaa.ruleAll] at C))
      go_roundw
      case rel => exact ⟨k + 1, pp_v2, cap_v2, by omega, by go_num, rfl, (M.drop 0).eq (by rw [HW.out]; rfl)⟩
      case measure => simp [intOf]; omega
    · obtain rfl : k = ns.length := by omega
      have hge : ¬ ((ns.length : Int) < (ns.length : Int)) := by omega
      have HJ := Hid2.mk (join_book ns ls ns.length hn HWL.out w.heap.size pp cap)
      generalize hT : str (bkT ns ls ns.length) = T at HJ
      have HT := Hid2.mk hT
      clear hT
      have C := M.ruleAll; simp only [Go.Proofs.Ytinjjaoikofkdaa.ruleAll] at C
      go_wp2_with (first | (go_at_call 77; ((with_reducible refine (HJ.out _ (M.row 0 rfl)).mono ?_); rintro e w1 ⟨rfl, hb⟩; have hsz := M.size; (try (have G9 := G.later hb; clear G; have G := G9; clear G9)); have M9 := M.later hb; clear M; (try clear C); have M := M9; clear M9; have C := M.ruleAll; simp only [Go.Proofs.Ytinjjaoikofkdaa.ruleAll] at C)))
      go_ret
      exact ⟨by rw [HT.out]; rfl, M.below⟩

set_option maxRecDepth 100000 in
set_option maxHeartbeats 1000000 in
theorem implBookText_any {ns : List ByteArray} {ls : List Sqr} (h : BkIn ns ls) (w : World) {g1 g2 : Nat} (h1 : BkHere ns ls w g1 g2) (c1 c2 : Nat) (hc : ns.length ≤ c1) :
    Calls Try.prog 18 #[.agg (bkA g1 c1 g2 c2 ns.length ls.length)] w fun e w' => e = .returned (.tuple #[.string (txtR ns ls).1, .int .i64 (txtR ns ls).2]) ∧ Below w.heap.size w w' := by
  have M := Mm.start no w
  have H1 := fun w1 (hb : Below w.heap.size w w1) => isBookP_any h w1 (h1.later hb) c1 c2 hc
  have H2 := Hid2.mk (fun hv w1 (hb : Below w.heap.size w w1) => bookText_any h hv w1 (h1.later hb) c1 c2)
  unfold txtR
  cases hv : isBk ns ls with
  | false =>
    rw [hv] at H1
    rw [if_neg (by decide)]
    clear h h1 hc H2
    go_enter Try.func18, Try.ntmps18
    go_wp2_with (first | ((with_reducible apply wpM_box' M 29 (bkA g1 c1 g2 c2 ns.length ls.length)); rfl; exact ⟨rfl, rfl⟩; clear M; (try clear C); intro bb w9 h_bb M; have C := M.ruleAll; simp only [Go.Proofs.Ytinjjaoikofkdaa.ruleAll] at C) | ((with_reducible apply wpM_lda' M 0 29 0 (bkA g1 c1 g2 c2 ns.length ls.length)); rfl; rfl; rfl; exact ⟨rfl, inf_bok.trans (congrArg some (bok_size ..).symm), _, und_bok, rfl⟩; exact whole_of rfl) | (go_at_call 47; ((with_reducible refine (H1 _ M.below).mono ?_); rintro e w1 ⟨rfl, hb⟩; have hsz := M.size; (try (have G9 := G.later hb; clear G; have G := G9; clear G9)); have M9 := M.later hb; clear M; (try clear C); have M := M9; clear M9; have C := M.ruleAll; simp only [Go.Proofs.Ytinjjaoikofkdaa.ruleAll] at C)))
    go_ret2
    exact ⟨rfl, M.below⟩
  | true =>
    rw [hv] at H1
    rw [if_pos rfl]
    have H3 := H2.out hv
    generalize hT : str (bkT ns ls ns.length) = T at H3
    have HT := Hid2.mk hT
    clear hT
    clear h h1 hc H2
    go_enter Try.func18, Try.ntmps18
    go_wp2_with (first | ((with_reducible apply wpM_box' M 29 (bkA g1 c1 g2 c2 ns.length ls.length)); rfl; exact ⟨rfl, rfl⟩; clear M; (try clear C); intro bb w9 h_bb M; have C := M.ruleAll; simp only [Go.Proofs.Ytinjjaoikofkdaa.ruleAll] at C) | ((with_reducible apply wpM_lda' M 0 29 0 (bkA g1 c1 g2 c2 ns.length ls.length)); rfl; rfl; rfl; exact ⟨rfl, inf_bok.trans (congrArg some (bok_size ..).symm), _, und_bok, rfl⟩; exact whole_of rfl) | (go_at_call 47; ((with_reducible refine (H1 _ M.below).mono ?_); rintro e w1 ⟨rfl, hb⟩; have hsz := M.size; (try (have G9 := G.later hb; clear G; have G := G9; clear G9)); have M9 := M.later hb; clear M; (try clear C); have M := M9; clear M9; have C := M.ruleAll; simp only [Go.Proofs.Ytinjjaoikofkdaa.ruleAll] at C)) | (go_at_call 56; ((with_reducible refine (H3 _ M.below).mono ?_); rintro e w1 ⟨rfl, hb⟩; have hsz := M.size; (try (have G9 := G.later hb; clear G; have G := G9; clear G9)); have M9 := M.later hb; clear M; (try clear C); have M := M9; clear M9; have C := M.ruleAll; simp only [Go.Proofs.Ytinjjaoikofkdaa.ruleAll] at C)))
    go_ret2
    exact ⟨by rw [← HT.out]; rfl, M.below⟩
end Go.Proofs.Ytinjjaoikofkdaa
