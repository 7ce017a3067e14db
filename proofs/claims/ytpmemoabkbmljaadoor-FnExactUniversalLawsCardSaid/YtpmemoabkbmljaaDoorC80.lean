/- The reader of terms, for the program: contracts. -/
import Derived.Test.YtpmemoabkbmljaaDoorC78
import Derived.Test.YtpmemoabkbmljaaDoorK17
namespace Go.Proofs.YtpmemoabkbmljaaDoor
set_option linter.unusedSimpArgs false
set_option linter.unusedVariables false
open Go Go.RowKit

theorem flat_u1 (x : Int) : flat #[.int .u8 x] := fun u hu => by
  have : u = .int .u8 x := by simpa using hu
  subst this; rfl
/-- A term, if parts are read by p. -/
def termOf (l : List Nat) (p : Nat → List Nat × Nat) (k : Nat) : List Nat × Nat :=
  if (p k).2 = l.length ∨ isOpB (l.getD (p k).2 0) = false then p k else ((p k).1 ++ (p ((p k).2 + 1)).1 ++ [l.getD (p k).2 0], (p ((p k).2 + 1)).2)
def partK (l : List Nat) : Nat → Nat → List Nat × Nat
  | 0, k => ([l.getD k 0], nxK l k)
  | n + 1, k =>
    if l.getD k 0 = 40 then
      (if l.getD (termOf l (partK l n) (k + 1)).2 0 = 41 then ((termOf l (partK l n) (k + 1)).1, nxK l (termOf l (partK l n) (k + 1)).2) else ([], nxK l (termOf l (partK l n) (k + 1)).2))
    else ([l.getD k 0], nxK l k)
/-- What is read is not too long, and the reader goes on. -/
structure RdB (l : List Nat) (k : Nat) (r : List Nat × Nat) : Prop where
  le : r.2 ≤ l.length
  ge : k ≤ r.2
  len : r.1.length ≤ 2 * (r.2 - k) + 1
theorem nxK_b (l : List Nat) {k : Nat} (hk : k ≤ l.length) : k ≤ nxK l k ∧ nxK l k ≤ l.length := by unfold nxK; split <;> omega
theorem getD_lt {l : List Nat} {k : Nat} (h : l.getD k 0 ≠ 0) : k < l.length := by
  by_cases hk : k < l.length
  · exact hk
  · exact absurd (by rw [List.getD_eq_getElem?_getD, List.getElem?_eq_none (by omega)]; rfl) h
theorem opB_lt {l : List Nat} {k : Nat} (h : isOpB (l.getD k 0) = true) : k < l.length := getD_lt fun e => by rw [e] at h; cases h
theorem termOf_b {l : List Nat} {p : Nat → List Nat × Nat} (n : Nat) (hp : ∀ k, k ≤ l.length → l.length - k ≤ n → RdB l k (p k)) {k : Nat} (hk : k ≤ l.length) (hn : l.length - k ≤ n) : RdB l k (termOf l p k) := by
  unfold termOf
  have h1 := hp k hk hn
  by_cases h : (p k).2 = l.length ∨ isOpB (l.getD (p k).2 0) = false
  · rw [if_pos h]; exact h1
  · rw [if_neg h]
    have h2 := h1.le
    have h3 := h1.ge
    have h4 := hp ((p k).2 + 1) (by omega) (by omega)
    have := h1.len
    have := h4.len
    have := h4.ge
    exact ⟨h4.le, by omega, by simp only [List.length_append, List.length_singleton]; omega⟩
theorem partK_b (l : List Nat) : ∀ (n k : Nat), k ≤ l.length → l.length - k ≤ n → RdB l k (partK l n k)
  | 0, k, hk, _ => ⟨(nxK_b l hk).2, (nxK_b l hk).1, by simp [partK]⟩
  | n + 1, k, hk, hn => by
    have hx := nxK_b l hk
    unfold partK
    by_cases h : l.getD k 0 = 40
    · rw [if_pos h]
      have hlt : k < l.length := getD_lt (by omega)
      have ht := termOf_b n (fun k => partK_b l n k) (k := k + 1) (by omega) (by omega)
      have := ht.ge
      have := ht.len
      have hy := nxK_b l ht.le
      split
      · exact ⟨hy.2, by omega, by simp only; omega⟩
      · exact ⟨hy.2, by omega, by simp⟩
    · rw [if_neg h]; exact ⟨hx.2, hx.1, by simp⟩

theorem ownsRow_weak {w : World} {B B' e size : Nat} {v : Value} {n : Nat} {xs : List Value} (h : w.ownsRow B e size v n xs) (hB : B' ≤ B) : w.ownsRow B' e size v n xs := by
  refine ⟨h.1, ?_⟩
  rcases h.2 with h | ⟨g, cap, cur, h1, h2, h3⟩
  · exact .inl h
  · exact .inr ⟨g, cap, cur, h1, by omega, h3⟩
theorem place_row {w : World} {B : Nat} {v : Value} {n : Nat} {xs : List Value} {e size : Nat} (h : w.ownsRow B e size v n xs) : ∀ b, (Ent.row B v n xs e size).place b → B ≤ b := fun b hb => (World.ownsRow.lt h b hb).1
/-- A call hands back a row in new memory. -/
theorem Mm.joinRow {D : Nat → Prop} {w0 w w' : World} {L : List Ent} {v : Value} {n : Nat} {xs : List Value} {e size : Nat} (M : Mm D w0 w L) (M' : Mm no w w' [.row w.heap.size v n xs e size]) : Mm D w0 w' (.row w0.heap.size v n xs e size :: L) := by
  have h := M'.row 0 rfl
  exact M.gain M'.below (x := .row w0.heap.size v n xs e size) (ownsRow_weak h M.size) fun b hb => place_row h b hb
/-- A call hands back a row in new memory and writes to a block that is known. -/
theorem Mm.callw {D : Nat → Prop} {w0 w w' : World} {L : List Ent} {v : Value} {n : Nat} {xs : List Value} {e size b t : Nat} {cs cs' : Array Value} (M : Mm D w0 w L) (i : Nat) (hi : L[i]? = some (.box b cs t)) (hb : w0.heap.size ≤ b ∨ D b)
    (M' : Mm (fun k => k = b) w w' [.row w.heap.size v n xs e size, .box b cs' t]) : Mm D w0 w' (.row w0.heap.size v n xs e size :: L.set i (.box b cs' t)) := by
  have h := M'.row 0 rfl
  refine (M.wrote i hi hb M'.kept.grown (M'.box 1 rfl)).add (x := .row w0.heap.size v n xs e size) (ownsRow_weak h M.size) fun y hy c h1 h2 => ?_
  have hlo := place_row h c h1
  have hlt : c < w.heap.size := by
    rcases List.mem_or_eq_of_mem_set hy with h3 | h3
    · exact Ent.lt (M.mem h3) h2
    · subst h3
      cases h2
      exact (M.box i hi).lt
  omega

/-- What a reader hands back. -/
def RdPost (l : List Nat) (r : List Nat × Nat) (bw : Nat) (w : World) (e : Ending) (w' : World) : Prop :=
  ∃ v, e = .returned v ∧ Mm (fun b => b = bw) w w' [.row w.heap.size v r.1.length (u8s r.1) 5 1, .box bw (wdA l r.2) 91]
def Rdr (f : Nat) (l : List Nat) (bw n : Nat) (p : Nat → List Nat × Nat) : Prop :=
  ∀ k w, k ≤ l.length → l.length - k ≤ n → blk w bw (wdA l k) 91 → Calls Tryd.prog f #[.pointer (some ⟨bw, 0, none⟩)] w (RdPost l (p k) bw w)

set_option maxRecDepth 100000 in
set_option maxHeartbeats 2000000 in
theorem term_of (l : List Nat) (hl : l.length ≤ 1000) (hb : Byts l) (bw n : Nat) (p : Nat → List Nat × Nat) (hp : Rdr 84 l bw n p) (hB : ∀ k, k ≤ l.length → l.length - k ≤ n → RdB l k (p k)) : Rdr 65 l bw n (termOf l p) := by
  intro k w hk hn h
  have M := ((Mm.start no w).only (fun b => b = bw)).add (x := .box bw (wdA l k) 91) h fun _ h => by cases h
  have hb1 := hB k hk hn
  have H1 := Hid2.mk (fun w1 (h1 : blk w1 bw (wdA l k) 91) => hp k w1 hk hn h1)
  have H2 := Hid2.mk (fun (hlt : (p k).2 < l.length) w1 (h1 : blk w1 bw (wdA l ((p k).2 + 1)) 91) => hp ((p k).2 + 1) w1 (by omega) (by have := hb1.ge; omega) h1)
  have HB2 := Hid2.mk (fun (hlt : (p k).2 < l.length) => hB ((p k).2 + 1) (by omega) (by have := hb1.ge; omega))
  have HT := Hid2.mk (show termOf l p k = if (p k).2 = l.length ∨ isOpB (l.getD (p k).2 0) = false then p k else ((p k).1 ++ (p ((p k).2 + 1)).1 ++ [l.getD (p k).2 0], (p ((p k).2 + 1)).2) from rfl)
  have hle := hb1.le
  have hlen := hb1.len
  generalize termOf l p k = res at HT ⊢
  generalize p ((p k).2 + 1) = r2 at H2 HB2 HT
  generalize p k = r at H1 H2 HB2 HT hle hlen
  obtain ⟨o1, k1⟩ := r
  obtain ⟨o2, k2⟩ := r2
  simp only at H1 H2 HB2 HT hle hlen
  have hsz := str_size l
  have d0 := wdA_0 l k1
  have d1 := wdA_1 l k1
  have hl1 : o1.length ≤ 3000 := by omega
  clear hlen hb1 hp hB h
  have C := M.ruleAll; simp only [Go.Proofs.YtpmemoabkbmljaaDoor.ruleAll] at C
  go_enter Tryd.func65, Tryd.ntmps65
  go_wp2_with (first | (go_at_call 84; fail))
  refine (H1.out _ (M.box 0 rfl)).mono ?_
  rintro e w1 ⟨v, rfl, M'⟩
  have M9 := M.callw 0 rfl (.inr rfl) M'
  simp only [List.set_cons_zero] at M9
  obtain ⟨pp1, cap1, rfl⟩ := own_form (M9.row 0 rfl)
  clear M; (try clear C)
  have M := M9
  clear M9 M' H1
  have C := M.ruleAll; simp only [Go.Proofs.YtpmemoabkbmljaaDoor.ruleAll] at C
  by_cases he : k1 = l.length
  · have he' : ((k1 : Int) == (l.length : Int)) = true := by rw [he]; simp
    have HR := Hid2.mk (show res = (o1, k1) from by rw [HT.out, if_pos (.inl he)])
    clear H2 HB2 HT he
    go_wp2
    apply wp_region_mm M 20 (by kernel_rfl) (by kernel_rfl); (simp only [List.take_succ_cons, List.take_zero]; repeat (first | exact wpText_nil | (apply wpText_cons; (intro w2 M; have C := M.ruleAll; simp only [Go.Proofs.YtpmemoabkbmljaaDoor.ruleAll] at C; go_wp2; exact ⟨rfl, rfl, M⟩); rfl))); (clear M; (try clear C); intro w2 M; simp only [List.drop_succ_cons, List.drop_zero]; have C := M.ruleAll; simp only [Go.Proofs.YtpmemoabkbmljaaDoor.ruleAll] at C)
    go_wp2
    go_ret
    rw [HR.out]
    exact ⟨_, rfl, M⟩
  · have hlt : k1 < l.length := by omega
    have he' : ((k1 : Int) == (l.length : Int)) = false := by simp; omega
    have hix := ix_str hb k1 hlt
    by_cases ho : isOpB (l.getD k1 0) = false
    · have HR := Hid2.mk (show res = (o1, k1) from by rw [HT.out, if_pos (.inr ho)])
      have HO := fun w1 => isOp_b (l.getD k1 0) false ho w1
      generalize l.getD k1 0 = b at hix HO
      clear H2 HB2 HT he ho
      go_wp2
      apply wp_region_mm M 20 (by kernel_rfl) (by kernel_rfl); (simp only [List.take_succ_cons, List.take_zero]; repeat (first | exact wpText_nil | (apply wpText_cons; (intro w2 M; have C := M.ruleAll; simp only [Go.Proofs.YtpmemoabkbmljaaDoor.ruleAll] at C; go_wp2; exact ⟨rfl, rfl, M⟩); rfl))); (clear M; (try clear C); intro w2 M; simp only [List.drop_succ_cons, List.drop_zero]; have C := M.ruleAll; simp only [Go.Proofs.YtpmemoabkbmljaaDoor.ruleAll] at C)
      go_wp2_with (first | (go_at_call 85; ((with_reducible refine (HO _).mono ?_); rintro e w1 ⟨rfl, rfl⟩)))
      go_ret
      rw [HR.out]
      exact ⟨_, rfl, M⟩
    · have HR := Hid2.mk (show res = (o1 ++ o2 ++ [l.getD k1 0], k2) from by rw [HT.out, if_neg (by rintro (h | h); exact he h; exact ho h)])
      have HO := fun w1 => isOp_b (l.getD k1 0) true (by simpa using ho) w1
      have HN := Hid2.mk (fun w1 (h1 : blk w1 bw (wdA l k1) 91) => next_any l hl hb k1 (by omega) bw w1 h1)
      have HNK := Hid2.mk (show nxK l k1 = k1 + 1 from if_pos hlt)
      have H2' := Hid2.mk (H2.out hlt)
      have hb2 := HB2.out hlt
      have hl2 : o2.length ≤ 3000 := by have := hb2.len; have := hb2.le; simp only at *; omega
      generalize l.getD k1 0 = b at hix HO HN HR
      clear H2 HB2 HT he ho hb2
      go_wp2
      apply wp_region_mm M 20 (by kernel_rfl) (by kernel_rfl); (simp only [List.take_succ_cons, List.take_zero]; repeat (first | exact wpText_nil | (apply wpText_cons; (intro w2 M; have C := M.ruleAll; simp only [Go.Proofs.YtpmemoabkbmljaaDoor.ruleAll] at C; go_wp2; exact ⟨rfl, rfl, M⟩); rfl))); (clear M; (try clear C); intro w2 M; simp only [List.drop_succ_cons, List.drop_zero]; have C := M.ruleAll; simp only [Go.Proofs.YtpmemoabkbmljaaDoor.ruleAll] at C)
      go_wp2_with (first | (go_at_call 85; ((with_reducible refine (HO _).mono ?_); rintro e w1 ⟨rfl, rfl⟩)) | (go_at_call 66; fail))
      refine (HN.out _ (M.box 1 rfl)).mono ?_
      rintro e w3 ⟨rfl, M'⟩
      have M9 := M.wrote 1 rfl (.inr rfl) M'.kept.grown (M'.box 0 rfl)
      rw [HNK.out] at M9
      simp only [List.set_cons_zero, List.set_cons_succ] at M9
      clear M; (try clear C)
      have M := M9
      clear M9 M' HN hix d0 d1
      have C := M.ruleAll; simp only [Go.Proofs.YtpmemoabkbmljaaDoor.ruleAll] at C
      go_wp2_with (first | (go_at_call 86; fail))
      refine (clone_any o1 (by omega) _ _ _ (M.row 0 rfl)).mono ?_
      rintro e w4 ⟨v, rfl, M'⟩
      have M9 := M.joinRow M'
      obtain ⟨pp2, cap2, rfl⟩ := own_form (M9.row 0 rfl)
      clear M; (try clear C)
      have M := M9
      clear M9 M'
      have C := M.ruleAll; simp only [Go.Proofs.YtpmemoabkbmljaaDoor.ruleAll] at C
      go_wp2_with (first | (go_at_call 84; fail))
      refine (H2'.out _ (M.box 2 rfl)).mono ?_
      rintro e w5 ⟨v, rfl, M'⟩
      have M9 := M.callw 2 rfl (.inr rfl) M'
      simp only [List.set_cons_zero, List.set_cons_succ] at M9
      obtain ⟨pp3, cap3, rfl⟩ := own_form (M9.row 0 rfl)
      clear M; (try clear C)
      have M := M9
      clear M9 M' H2'
      have C := M.ruleAll; simp only [Go.Proofs.YtpmemoabkbmljaaDoor.ruleAll] at C
      have hm1 : o1.length + o2.length ≤ maxLen := by simp only [maxLen]; omega
      go_wp2_with (first | ((with_reducible apply wpM_appr M 47 1 0 (w.heap.size) (.slice pp2 o1.length cap2) (o1.length) (u8s o1) 5 1 (w.heap.size) (pp3) (cap3) (o2.length) (u8s o2)); rfl; rfl; rfl; rfl; rfl; rfl; (first | exact .inl (Nat.le_refl _) | exact .inl (by assumption) | exact .inr (by assumption) | exact .inr HDv.out); (first | exact M.size | (have hq := M.size; omega)); exact und_sl8b; exact inf_el8b; rfl; exact u8s_one o2; exact hm1; omega; clear M; (try clear C); intro v6 w9 far_v6 M; simp only [List.set_cons_zero, List.set_cons_succ, entBlk, entT, List.getElem?_cons_zero, List.getElem?_cons_succ] at M; obtain ⟨pp_v6, cap_v6, rfl⟩ := own_form (M.row 1 rfl); have C := M.ruleAll; simp only [Go.Proofs.YtpmemoabkbmljaaDoor.ruleAll] at C) | ((with_reducible apply wpM_bsl' M 47 1 5 ([(0, .int .u8 (b : Int))]) (#[.int .u8 (b : Int)])); rfl; rfl; rfl; exact bsl_u81 _; clear M; (try clear C); intro b7 w9 h_b7 M; have C := M.ruleAll; simp only [Go.Proofs.YtpmemoabkbmljaaDoor.ruleAll] at C) | ((with_reducible apply wpM_app' M 47 2 0 (w.heap.size) (.slice pp_v6 (o1.length + o2.length) cap_v6) (o1.length + o2.length) (u8s o1 ++ u8s o2) 5 1 1); rfl; rfl; rfl; rfl; rfl; rfl; rfl; (first | exact .inl (Nat.le_refl _) | exact .inl (by assumption) | exact .inr (by assumption) | exact .inr HDv.out); (first | exact M.size | (have hq := M.size; omega)); exact und_sl8b; exact inf_el8b; rfl; decide; decide; rfl; exact rfl; exact flat_u1 _; omega; clear M; (try clear C); intro v8 w9 far_v8 M; simp only [List.set_cons_zero, List.set_cons_succ, entBlk, entT, List.getElem?_cons_zero, List.getElem?_cons_succ] at M; obtain ⟨pp_v8, cap_v8, rfl⟩ := own_form (M.row 2 rfl); have C := M.ruleAll; simp only [Go.Proofs.YtpmemoabkbmljaaDoor.ruleAll] at C))
      go_ret
      rw [HR.out]
      refine ⟨_, rfl, ?_⟩
      have M9 := M.sub [2, 4] (by decide)
      simp only [List.filterMap_cons, List.filterMap_nil, List.getElem?_cons_succ, List.getElem?_cons_zero] at M9
      refine M9.eq ?_
      rw [u8s_app, u8s_app]
      simp only [List.length_append, List.length_singleton]
      rfl

set_option maxRecDepth 100000 in
set_option maxHeartbeats 2000000 in
theorem part_leaf (l : List Nat) (hl : l.length ≤ 1000) (hb : Byts l) (bw k : Nat) (hk : k ≤ l.length) (w : World) (h : blk w bw (wdA l k) 91) (hne : l.getD k 0 ≠ 40) :
    Calls Tryd.prog 84 #[.pointer (some ⟨bw, 0, none⟩)] w (RdPost l ([l.getD k 0], nxK l k) bw w) := by
  have M := ((Mm.start no w).only (fun b => b = bw)).add (x := .box bw (wdA l k) 91) h fun _ h => by cases h
  have HN := Hid2.mk (fun w1 (h1 : blk w1 bw (wdA l k) 91) => next_any l hl hb k hk bw w1 h1)
  have e2 : (((l.getD k 0 : Nat) : Int) == (40 : Nat)) = false := neI hne
  have e1 : ((l.getD k 0 : Nat) : Int) ≠ 40 := by have := hne; omega
  have HR := Hid2.mk (rfl : ([l.getD k 0], nxK l k) = ([l.getD k 0], nxK l k))
  generalize l.getD k 0 = b at HN e1 e2 HR ⊢
  generalize nxK l k = k1 at HN HR ⊢
  clear h hne
  have C := M.ruleAll; simp only [Go.Proofs.YtpmemoabkbmljaaDoor.ruleAll] at C
  go_enter Tryd.func84, Tryd.ntmps84
  go_wp2_with (first | (go_at_call 66; fail))
  refine (HN.out _ (M.box 0 rfl)).mono ?_
  rintro e w1 ⟨rfl, M'⟩
  have M9 := M.wrote 0 rfl (.inr rfl) M'.kept.grown (M'.box 0 rfl)
  simp only [List.set_cons_zero] at M9
  clear M; (try clear C)
  have M := M9
  clear M9 M' HN
  have C := M.ruleAll; simp only [Go.Proofs.YtpmemoabkbmljaaDoor.ruleAll] at C
  go_wp2_with (first | ((with_reducible apply wpM_bsl' M 47 1 5 ([(0, .int .u8 (b : Int))]) (#[.int .u8 (b : Int)])); rfl; rfl; rfl; exact bsl_u81 _; clear M; (try clear C); intro b7 w9 h_b7 M; have C := M.ruleAll; simp only [Go.Proofs.YtpmemoabkbmljaaDoor.ruleAll] at C))
  go_ret
  refine ⟨_, rfl, ?_⟩
  have M9 := M.asRow 0 rfl w.heap.size 1 1 (by assumption) rfl (by decide)
  simp only [List.set_cons_zero] at M9
  exact M9

set_option maxRecDepth 100000 in
set_option maxHeartbeats 2000000 in
theorem part_par (l : List Nat) (hl : l.length ≤ 1000) (hb : Byts l) (bw n k : Nat) (hk : k < l.length) (hn : l.length - (k + 1) ≤ n) (r : List Nat × Nat) (hr : RdB l (k + 1) r) (w : World) (h : blk w bw (wdA l k) 91) (h40 : l.getD k 0 = 40)
    (hT : ∀ w, blk w bw (wdA l (k + 1)) 91 → Calls Tryd.prog 65 #[.pointer (some ⟨bw, 0, none⟩)] w (RdPost l r bw w)) :
    Calls Tryd.prog 84 #[.pointer (some ⟨bw, 0, none⟩)] w (RdPost l (if l.getD r.2 0 = 41 then (r.1, nxK l r.2) else ([], nxK l r.2)) bw w) := by
  have M := ((Mm.start no w).only (fun b => b = bw)).add (x := .box bw (wdA l k) 91) h fun _ h => by cases h
  have HN := Hid2.mk (fun w1 (h1 : blk w1 bw (wdA l k) 91) => next_any l hl hb k (by omega) bw w1 h1)
  have HN2 := Hid2.mk (fun w1 (h1 : blk w1 bw (wdA l r.2) 91) => next_any l hl hb r.2 hr.le bw w1 h1)
  have HNK := Hid2.mk (show nxK l k = k + 1 from if_pos hk)
  have HT := Hid2.mk hT
  rw [h40] at HN
  obtain ⟨out, k2⟩ := r
  simp only at HN2 HT hr ⊢
  have hlen := hr.len
  generalize hq : (if l.getD k2 0 = 41 then (out, nxK l k2) else ([], nxK l k2)) = res
  have HR := Hid2.mk hq
  clear hT h hr h40 hq
  have C := M.ruleAll; simp only [Go.Proofs.YtpmemoabkbmljaaDoor.ruleAll] at C
  go_enter Tryd.func84, Tryd.ntmps84
  go_wp2_with (first | (go_at_call 66; fail))
  refine (HN.out _ (M.box 0 rfl)).mono ?_
  rintro e w1 ⟨rfl, M'⟩
  have M9 := M.wrote 0 rfl (.inr rfl) M'.kept.grown (M'.box 0 rfl)
  rw [HNK.out] at M9
  simp only [List.set_cons_zero] at M9
  clear M; (try clear C)
  have M := M9
  clear M9 M' HN
  have C := M.ruleAll; simp only [Go.Proofs.YtpmemoabkbmljaaDoor.ruleAll] at C
  go_wp2_with (first | (go_at_call 65; fail))
  refine (HT.out _ (M.box 0 rfl)).mono ?_
  rintro e w2 ⟨v, rfl, M'⟩
  have M9 := M.callw 0 rfl (.inr rfl) M'
  simp only [List.set_cons_zero] at M9
  obtain ⟨pp1, cap1, rfl⟩ := own_form (M9.row 0 rfl)
  clear M; (try clear C)
  have M := M9
  clear M9 M' HT
  have C := M.ruleAll; simp only [Go.Proofs.YtpmemoabkbmljaaDoor.ruleAll] at C
  go_wp2_with (first | (go_at_call 66; fail))
  refine (HN2.out _ (M.box 1 rfl)).mono ?_
  rintro e w3 ⟨rfl, M'⟩
  have M9 := M.wrote 1 rfl (.inr rfl) M'.kept.grown (M'.box 0 rfl)
  simp only [List.set_cons_zero, List.set_cons_succ] at M9
  clear M; (try clear C)
  have M := M9
  clear M9 M' HN2
  by_cases hc : l.getD k2 0 = 41
  · have HR2 := HR.out
    rw [if_pos hc] at HR2
    subst HR2
    rw [hc]
    clear hc HR
    go_wp2
    go_ret
    exact ⟨_, rfl, M⟩
  · have HR2 := HR.out
    rw [if_neg hc] at HR2
    subst HR2
    clear HR
    have e2 : (((l.getD k2 0 : Nat) : Int) == (41 : Nat)) = false := neI hc
    have e1 : ((l.getD k2 0 : Nat) : Int) ≠ 41 := by have := hc; omega
    generalize l.getD k2 0 = b at e1 e2 ⊢
    clear hc
    go_wp2
    go_ret
    exact ⟨_, rfl, (M.drop 0).nilRow w.heap.size 5 1⟩

theorem part_any (l : List Nat) (hl : l.length ≤ 1000) (hb : Byts l) (bw : Nat) : ∀ n, Rdr 84 l bw n (partK l n)
  | 0 => fun k w hk hn h => by
    have h0 : l.getD k 0 ≠ 40 := fun e => by
      have := getD_lt (l := l) (k := k) (by omega)
      omega
    exact part_leaf l hl hb bw k hk w h h0
  | n + 1 => fun k w hk hn h => by
    show Calls _ _ _ _ (RdPost l (if l.getD k 0 = 40 then _ else _) bw w)
    by_cases h40 : l.getD k 0 = 40
    · rw [if_pos h40]
      have hlt : k < l.length := getD_lt (by omega)
      exact part_par l hl hb bw n k hlt (by omega) _ (termOf_b n (fun k => partK_b l n k) (by omega) (by omega)) w h h40 fun w1 h1 => term_of l hl hb bw n _ (part_any l hl hb bw n) (fun k => partK_b l n k) (k + 1) w1 (by omega) (by omega) h1
    · rw [if_neg h40]; exact part_leaf l hl hb bw k hk w h h40
/-- A term is read. -/
theorem term_any (l : List Nat) (hl : l.length ≤ 1000) (hb : Byts l) (bw k : Nat) (hk : k ≤ l.length) (w : World) (h : blk w bw (wdA l k) 91) :
    Calls Tryd.prog 65 #[.pointer (some ⟨bw, 0, none⟩)] w (RdPost l (termOf l (partK l l.length) k) bw w) :=
  term_of l hl hb bw l.length _ (part_any l hl hb bw l.length) (fun k => partK_b l l.length k) k w hk (by omega) h
end Go.Proofs.YtpmemoabkbmljaaDoor
