/- The name of a loop: contracts. -/
import Derived.Test.YtjdfjlgjpjgnhaaC43
namespace Go.Proofs.Ytjdfjlgjpjgnhaa
set_option linter.unusedSimpArgs false
set_option linter.unusedVariables false
open Go Go.RowKit

theorem results_mid {P : Program} {fn : Func} {r p q : Tmp} {ty : TypeId} (h : fn.results = #[.tmp r, .cell p ty, .tmp q]) (tmps : Array Value) (w : World) (b off : Nat) (part : Array Value) (d : TypeDesc)
    (hp : tmps.getD p undef = .pointer (some ⟨b, off, none⟩)) (hu : P.underlying ty = some d) (hd : (match d with | .struct _ | .array _ _ => true | _ => false) = true) (hi : (P.info? ty).map (·.size) = some part.size)
    (hc : ∀ j v, part[j]? = some v → w.cell? ⟨b, off + j, none⟩ = some v) (v u : Value) (hv : tmps.getD r undef = v) (hw : tmps.getD q undef = u) :
    (results fn tmps).run P w = .ok (.tuple #[v, .agg part, u]) w := by
  have hp' : tmps[p]?.getD undef = .pointer (some ⟨b, off, none⟩) := by simpa using hp
  have hv' : tmps[r]?.getD undef = v := by simpa using hv
  have hw' : tmps[q]?.getD undef = u := by simpa using hw
  simp [results, h, hp', hv', hw', asAddr, run_load_part w b off ty part d hu hd hi hc]

theorem placeOf_lt2 {α : Type} (p : α → Bool) (l : List α) (h : ¬ placeOf p l < 0) : ∃ k : Nat, k < l.length ∧ placeOf p l = (k : Int) := by
  unfold placeOf at h ⊢
  cases hf : l.findIdx? p with
  | none => rw [hf] at h; exact absurd (by decide) h
  | some k => exact ⟨k, (List.findIdx?_eq_some_iff_getElem.1 hf).1, rfl⟩
theorem isBk_len2 {ns : List ByteArray} {ls : List Sqr} (h : isBk ns ls = true) : ls.length = ns.length := by
  unfold isBk at h
  simp only [Bool.and_eq_true, decide_eq_true_eq] at h
  exact h.1.1.2
/-- The first isomorphism of two squares and its code. -/
noncomputable def isoC (q r : Sqr) : Int := (isoRes (isoAll q.n.toNat r.n.toNat q.t r.t)).2
theorem alkB_isoC (q r : Sqr) : alkB q r = (isoC q r == 0) := rfl
theorem implIso_sq (q r : Sqr) (w : World) (hq : okS q) (hr : okS r) : Calls Try.prog 76 #[.agg (sqs q.n q.t), .agg (sqs r.n r.t)] w fun e w' => e = .returned (.tuple #[.agg (bys (alkP q r)), .int .i64 (isoC q r)]) ∧ Below w.heap.size w w' := by
  have s1 := isSq_true.1 hq.2
  have s2 := isSq_true.1 hr.2
  have e1 : ((q.n.toNat : Nat) : Int) = q.n := Int.toNat_of_nonneg (by have := s1.lo; omega)
  have e2 : ((r.n.toNat : Nat) : Int) = r.n := Int.toNat_of_nonneg (by have := s2.lo; omega)
  have h := implIso_any q.n.toNat r.n.toNat q.t r.t w hq.1 hr.1 (by rw [e1]; exact hq.2) (by rw [e2]; exact hr.2)
  rw [e1, e2] at h
  exact h

/-- The name of a loop, the isomorphism, and a code. -/
noncomputable def nameOfR (ns : List ByteArray) (ls : List Sqr) (q : Sqr) : ByteArray × (Nat → Nat) × Int :=
  if isBk ns ls = true ∧ lpB q = true then (if placeOf (alkB q) ls < 0 then (⟨#[]⟩, (fun _ => 0), 4) else (ns.getD (placeOf (alkB q) ls).toNat .empty, keptP q ls, 0)) else (⟨#[]⟩, (fun _ => 0), 1)
/-- What is handed back. -/
def NmRes (r : ByteArray × (Nat → Nat) × Int) (w : World) (e : Ending) (w' : World) : Prop := e = .returned (.tuple #[.string r.1, .agg (bys r.2.1), .int .i64 r.2.2]) ∧ Below w.heap.size w w'
theorem isBk_loop {ns : List ByteArray} {ls : List Sqr} (h : BkIn ns ls) (hb : isBk ns ls = true) : ∀ q ∈ ls, okS q := by
  have h2 := isBkI_eq ns ls h.b
  rw [hb] at h2
  unfold isBkI at h2
  simp only [Bool.and_eq_true] at h2
  exact fun q hq => lpB_ok (h.b q hq) (List.all_eq_true.1 h2.1.1.1.2 q hq)

set_option maxRecDepth 100000 in
set_option maxHeartbeats 2000000 in
theorem implNameOf_any {ns : List ByteArray} {ls : List Sqr} (h : BkIn ns ls) (q : Sqr) (hq : Byt2 q.t) (w : World) {g1 g2 : Nat} (h1 : BkHere ns ls w g1 g2) (c1 c2 : Nat) (hc : ns.length ≤ c1) :
    Calls Try.prog 26 #[.agg (bkA g1 c1 g2 c2 ns.length ls.length), .agg (sqs q.n q.t)] w (NmRes (nameOfR ns ls q) w) := by
  have M := Mm.start no w
  have k0 : (bkA g1 c1 g2 c2 ns.length ls.length)[0]? = some (.slice (some ⟨g1, 0, none⟩) ns.length c1) := rfl
  have k1 : (bkA g1 c1 g2 c2 ns.length ls.length)[1]? = some (.slice (some ⟨g2, 0, none⟩) ls.length c2) := rfl
  have HB := fun w1 (hb : Below w.heap.size w w1) => isBookP_any h w1 (h1.later hb) c1 c2 hc
  have HL := fun w1 => isLoop_any q.n q.t w1 hq
  have hlp : lpB q = isLp q.n q.t := rfl
  rw [← hlp] at HL
  have hbd := build_plc
  have hz := zero_plc
  have hz2 := zero_sqs
  clear hlp
  cases hb1 : isBk ns ls with
  | false =>
    have HR := Hid2.mk (show nameOfR ns ls q = (⟨#[]⟩, (fun _ => 0), 1) by unfold nameOfR; rw [if_neg (by rw [hb1]; simp)])
    simp only [hb1] at HB
    clear h h1 hq hc hb1
    go_enter Try.func26, Try.ntmps26
    go_wp2_with (first | ((with_reducible apply wpM_box' M 47 (bkA g1 c1 g2 c2 ns.length ls.length)); rfl; exact ⟨rfl, rfl⟩; clear M; (try clear C); intro bb w9 h_bb M; have C := M.ruleAll; simp only [Go.Proofs.Ytjdfjlgjpjgnhaa.ruleAll] at C) | ((with_reducible apply wpM_box' M 30 (sqs q.n q.t)); rfl; exact ⟨rfl, rfl⟩; clear M; (try clear C); intro bq w9 h_bq M; have C := M.ruleAll; simp only [Go.Proofs.Ytjdfjlgjpjgnhaa.ruleAll] at C) | ((with_reducible apply wpM_alloc' M 33 (bys fun _ => 0)); rfl; exact ⟨rfl, _, zero_plc _, rfl⟩; clear M; (try clear C); intro b5 w9 h_b5 M; have C := M.ruleAll; simp only [Go.Proofs.Ytjdfjlgjpjgnhaa.ruleAll] at C) | ((with_reducible apply wpM_lda' M 2 47 0 (bkA g1 c1 g2 c2 ns.length ls.length)); rfl; rfl; rfl; exact ⟨rfl, inf_bok.trans (congrArg some (bok_size ..).symm), _, und_bok, rfl⟩; exact whole_of rfl) | (go_at_call 23; ((with_reducible refine (HB _ M.below).mono ?_); rintro e w1 ⟨rfl, hb⟩; have hsz := M.size; (try (have G9 := G.later hb; clear G; have G := G9; clear G9)); have M9 := M.later hb; clear M; (try clear C); have M := M9; clear M9; have C := M.ruleAll; simp only [Go.Proofs.Ytjdfjlgjpjgnhaa.ruleAll] at C)) | (refine wpList_build 33 _ rfl rfl [] rfl _ (build_plc _) ?_) | ((with_reducible apply wpM_sta' M 0 33 (bys fun _ => 0)); rfl; rfl; rfl; rfl; (first | exact .inl (by assumption) | exact .inr rfl | exact .inr (by assumption)); exact ⟨rfl, inf_plc.trans (congrArg some (bys_size ..).symm), flat_bys _⟩; (simp only [entCells, List.getElem?_cons_zero, List.getElem?_cons_succ, bys_size, bys_size]); clear M; (try clear C); intro w9 M; simp only [List.set_cons_zero, List.set_cons_succ, entBlk, entT, List.getElem?_cons_zero, List.getElem?_cons_succ] at M; have C := M.ruleAll; simp only [Go.Proofs.Ytjdfjlgjpjgnhaa.ruleAll] at C))
    refine bodyPost_ret (v := .tuple #[.string ⟨#[]⟩, .agg (bys fun _ => 0), .int .i64 1]) (by exact results_mid rfl _ _ _ _ (bys fun _ => 0) _ rfl und_plc rfl (inf_plc.trans (congrArg some (bys_size _).symm)) (cells_of_blk0 (M.box 0 rfl)) _ _ rfl rfl) rfl ?_
    exact ⟨by rw [HR.out], M.below⟩
  | true =>
    cases hb2 : lpB q with
    | false =>
      have HR := Hid2.mk (show nameOfR ns ls q = (⟨#[]⟩, (fun _ => 0), 1) by unfold nameOfR; rw [if_neg (by rw [hb2]; simp)])
      simp only [hb1] at HB
      simp only [hb2] at HL
      clear h h1 hq hc hb1 hb2
      go_enter Try.func26, Try.ntmps26
      go_wp2_with (first | ((with_reducible apply wpM_box' M 47 (bkA g1 c1 g2 c2 ns.length ls.length)); rfl; exact ⟨rfl, rfl⟩; clear M; (try clear C); intro bb w9 h_bb M; have C := M.ruleAll; simp only [Go.Proofs.Ytjdfjlgjpjgnhaa.ruleAll] at C) | ((with_reducible apply wpM_box' M 30 (sqs q.n q.t)); rfl; exact ⟨rfl, rfl⟩; clear M; (try clear C); intro bq w9 h_bq M; have C := M.ruleAll; simp only [Go.Proofs.Ytjdfjlgjpjgnhaa.ruleAll] at C) | ((with_reducible apply wpM_alloc' M 33 (bys fun _ => 0)); rfl; exact ⟨rfl, _, zero_plc _, rfl⟩; clear M; (try clear C); intro b5 w9 h_b5 M; have C := M.ruleAll; simp only [Go.Proofs.Ytjdfjlgjpjgnhaa.ruleAll] at C) | ((with_reducible apply wpM_lda' M 2 47 0 (bkA g1 c1 g2 c2 ns.length ls.length)); rfl; rfl; rfl; exact ⟨rfl, inf_bok.trans (congrArg some (bok_size ..).symm), _, und_bok, rfl⟩; exact whole_of rfl) | ((with_reducible apply wpM_lda' M 1 30 0 (sqs q.n q.t)); rfl; rfl; rfl; exact ⟨rfl, inf_sqs.trans (congrArg some (sqs_size ..).symm), _, und_sqs, rfl⟩; exact whole_of rfl) | (go_at_call 23; ((with_reducible refine (HB _ M.below).mono ?_); rintro e w1 ⟨rfl, hb⟩; have hsz := M.size; (try (have G9 := G.later hb; clear G; have G := G9; clear G9)); have M9 := M.later hb; clear M; (try clear C); have M := M9; clear M9; have C := M.ruleAll; simp only [Go.Proofs.Ytjdfjlgjpjgnhaa.ruleAll] at C)) | (go_at_call 75; ((with_reducible refine (HL _).mono ?_); rintro e w1 ⟨rfl, hb⟩; have hsz := M.size; (try (have G9 := G.later hb; clear G; have G := G9; clear G9)); have M9 := M.later hb; clear M; (try clear C); have M := M9; clear M9; have C := M.ruleAll; simp only [Go.Proofs.Ytjdfjlgjpjgnhaa.ruleAll] at C)) | (refine wpList_build 33 _ rfl rfl [] rfl _ (build_plc _) ?_) | ((with_reducible apply wpM_sta' M 0 33 (bys fun _ => 0)); rfl; rfl; rfl; rfl; (first | exact .inl (by assumption) | exact .inr rfl | exact .inr (by assumption)); exact ⟨rfl, inf_plc.trans (congrArg some (bys_size ..).symm), flat_bys _⟩; (simp only [entCells, List.getElem?_cons_zero, List.getElem?_cons_succ, bys_size, bys_size]); clear M; (try clear C); intro w9 M; simp only [List.set_cons_zero, List.set_cons_succ, entBlk, entT, List.getElem?_cons_zero, List.getElem?_cons_succ] at M; have C := M.ruleAll; simp only [Go.Proofs.Ytjdfjlgjpjgnhaa.ruleAll] at C))
      refine bodyPost_ret (v := .tuple #[.string ⟨#[]⟩, .agg (bys fun _ => 0), .int .i64 1]) (by exact results_mid rfl _ _ _ _ (bys fun _ => 0) _ rfl und_plc rfl (inf_plc.trans (congrArg some (bys_size _).symm)) (cells_of_blk0 (M.box 0 rfl)) _ _ rfl rfl) rfl ?_
      exact ⟨by rw [HR.out], M.below⟩
    | true =>
      have HR := Hid2.mk (show nameOfR ns ls q = if placeOf (alkB q) ls < 0 then (⟨#[]⟩, (fun _ => 0), 4) else (ns.getD (placeOf (alkB q) ls).toNat .empty, keptP q ls, 0) by unfold nameOfR; rw [if_pos ⟨hb1, hb2⟩])
      have HLEN := Hid2.mk (isBk_len2 hb1)
      have HOK := Hid2.mk (isBk_loop h hb1)
      have HQ := Hid2.mk (lpB_ok hq hb2)
      have HH := Hid2.mk (fun w1 (hb : Below w.heap.size w w1) => h1.later hb)
      have hm := h.m
      simp only [hb1] at HB
      simp only [hb2] at HL
      clear h h1 hq hc hb1 hb2
      go_enter Try.func26, Try.ntmps26
      go_wp2_with (first | ((with_reducible apply wpM_box' M 47 (bkA g1 c1 g2 c2 ns.length ls.length)); rfl; exact ⟨rfl, rfl⟩; clear M; (try clear C); intro bb w9 h_bb M; have C := M.ruleAll; simp only [Go.Proofs.Ytjdfjlgjpjgnhaa.ruleAll] at C) | ((with_reducible apply wpM_box' M 30 (sqs q.n q.t)); rfl; exact ⟨rfl, rfl⟩; clear M; (try clear C); intro bq w9 h_bq M; have C := M.ruleAll; simp only [Go.Proofs.Ytjdfjlgjpjgnhaa.ruleAll] at C) | ((with_reducible apply wpM_alloc' M 33 (bys fun _ => 0)); rfl; exact ⟨rfl, _, zero_plc _, rfl⟩; clear M; (try clear C); intro b5 w9 h_b5 M; have C := M.ruleAll; simp only [Go.Proofs.Ytjdfjlgjpjgnhaa.ruleAll] at C) | ((with_reducible apply wpM_lda' M 2 47 0 (bkA g1 c1 g2 c2 ns.length ls.length)); rfl; rfl; rfl; exact ⟨rfl, inf_bok.trans (congrArg some (bok_size ..).symm), _, und_bok, rfl⟩; exact whole_of rfl) | ((with_reducible apply wpM_lda' M 1 30 0 (sqs q.n q.t)); rfl; rfl; rfl; exact ⟨rfl, inf_sqs.trans (congrArg some (sqs_size ..).symm), _, und_sqs, rfl⟩; exact whole_of rfl) | (go_at_call 23; ((with_reducible refine (HB _ M.below).mono ?_); rintro e w1 ⟨rfl, hb⟩; have hsz := M.size; (try (have G9 := G.later hb; clear G; have G := G9; clear G9)); have M9 := M.later hb; clear M; (try clear C); have M := M9; clear M9; have C := M.ruleAll; simp only [Go.Proofs.Ytjdfjlgjpjgnhaa.ruleAll] at C)) | (go_at_call 75; ((with_reducible refine (HL _).mono ?_); rintro e w1 ⟨rfl, hb⟩; have hsz := M.size; (try (have G9 := G.later hb; clear G; have G := G9; clear G9)); have M9 := M.later hb; clear M; (try clear C); have M := M9; clear M9; have C := M.ruleAll; simp only [Go.Proofs.Ytjdfjlgjpjgnhaa.ruleAll] at C)))
      clear HB HL
      go_loopw [23] (fun i wr => ∃ k : Nat, k ≤ ls.length ∧ i = .int .i64 (k : Int) ∧ (∀ j (h : j < ls.length), j < k → alkB q ls[j] = false) ∧ Mm no w wr [.box b5 (bys fun _ => 0) 33, .box bq (sqs q.n q.t) 30, .box bb (bkA g1 c1 g2 c2 ns.length ls.length) 47]) (fun i _ => ls.length - (intOf i).toNat)
      case atStart => exact ⟨0, by omega, rfl, fun j _ h => by omega, M⟩
      case round =>
        obtain ⟨k, hk, rfl, hl, M9⟩ := hrel
        clear M; (try clear C)
        have M := M9
        clear M9
        have C := M.ruleAll; simp only [Go.Proofs.Ytjdfjlgjpjgnhaa.ruleAll] at C
        have HL := Hid2.mk hl
        clear hl
        by_cases hlt : k < ls.length
        · have hlt' : (k : Int) < (ls.length : Int) := by omega
          have hltn : (k : Int) < (ns.length : Int) := by have := HLEN.out; omega
          have hfound := fun h => @placeOf_some _ (alkB q) ls k hlt (fun j hj => HL.out j (Nat.lt_trans hj hlt) hj) h
          have hfound2 := fun h => @keptP_some q ls k hlt (fun j hj => HL.out j (Nat.lt_trans hj hlt) hj) h
          have hnext : alkB q ls[k] = false → ∀ j (h : j < ls.length), j < k + 1 → alkB q ls[j] = false := fun h j hj h1 => by
            rcases Nat.lt_or_eq_of_le (Nat.lt_succ_iff.1 h1) with h2 | rfl
            · exact HL.out j hj h2
            · exact h
          have hI := fun w1 => implIso_sq q ls[k] w1 HQ.out (HOK.out _ (List.getElem_mem hlt))
          have hcell : ∀ w1, Below w.heap.size w w1 → ∀ j v, (sqs ls[k].n ls[k].t)[j]? = some v → w1.cell? ⟨g2, k * 101 + j, none⟩ = some v := fun w1 hb => sq_cells (HH.out w1 hb).r2 hlt
          have hname : ∀ w1, Below w.heap.size w w1 → w1.cell? ⟨g1, k, none⟩ = some (.string (ns.getD k .empty)) := fun w1 hb => (HH.out w1 hb).r1.at_ k (by have := HLEN.out; omega)
          have hal : alkB q ls[k] = (isoC q ls[k] == 0) := rfl
          generalize ls[k] = r at hI hcell hal hfound hfound2 hnext
          generalize alkP q r = f at hI hfound2
          generalize isoC q r = d at hI hal
          have HCE := Hid2.mk hcell
          have HNM := Hid2.mk hname
          have HF1 := Hid2.mk hfound
          have HF2 := Hid2.mk hfound2
          have HN := Hid2.mk hnext
          have HAL := Hid2.mk hal
          generalize hx : ns.getD k .empty = x at HNM
          have HX := Hid2.mk hx
          clear hcell hname hfound hfound2 hnext hal hx
          by_cases hd : d = 0
          · have hd0 : (d == 0) = true := beq_iff_eq.2 hd
            subst hd
            go_wp2_with (first | (refine wpList_load_part rfl 30 _ rfl (g2) (k * 101) rfl (sqs r.n r.t) _ und_sqs rfl inf_sqs (HCE.out _ M.below) ?_) | (have hq := h_b8; clear hq; ((with_reducible apply wpM_alloc' M 33 (bys fun _ => 0)); rfl; exact ⟨rfl, _, zero_plc _, rfl⟩; clear M; (try clear C); intro b9 w9 h_b9 M; have C := M.ruleAll; simp only [Go.Proofs.Ytjdfjlgjpjgnhaa.ruleAll] at C)) | ((with_reducible apply wpM_alloc' M 30 (sqs 0 fun _ _ => 0)); rfl; exact ⟨rfl, _, zero_sqs _, rfl⟩; clear M; (try clear C); intro b8 w9 h_b8 M; have C := M.ruleAll; simp only [Go.Proofs.Ytjdfjlgjpjgnhaa.ruleAll] at C) | ((with_reducible apply wpM_sta' M 0 30 (sqs r.n r.t)); rfl; rfl; rfl; rfl; (first | exact .inl (by assumption) | exact .inr rfl | exact .inr (by assumption)); exact ⟨rfl, inf_sqs.trans (congrArg some (sqs_size ..).symm), flat_sqs _ _⟩; (simp only [entCells, List.getElem?_cons_zero, List.getElem?_cons_succ, sqs_size, sqs_size]); clear M; (try clear C); intro w9 M; simp only [List.set_cons_zero, List.set_cons_succ, entBlk, entT, List.getElem?_cons_zero, List.getElem?_cons_succ] at M; have C := M.ruleAll; simp only [Go.Proofs.Ytjdfjlgjpjgnhaa.ruleAll] at C) | ((with_reducible apply wpM_lda' M 0 30 0 (sqs r.n r.t)); rfl; rfl; rfl; exact ⟨rfl, inf_sqs.trans (congrArg some (sqs_size ..).symm), _, und_sqs, rfl⟩; exact whole_of rfl) | ((with_reducible apply wpM_lda' M 2 30 0 (sqs q.n q.t)); rfl; rfl; rfl; exact ⟨rfl, inf_sqs.trans (congrArg some (sqs_size ..).symm), _, und_sqs, rfl⟩; exact whole_of rfl) | (go_at_call 76; ((with_reducible refine (hI _).mono ?_); rintro e w1 ⟨rfl, hb⟩; have hsz := M.size; (try (have G9 := G.later hb; clear G; have G := G9; clear G9)); have M9 := M.later hb; clear M; (try clear C); have M := M9; clear M9; have C := M.ruleAll; simp only [Go.Proofs.Ytjdfjlgjpjgnhaa.ruleAll] at C)) | ((with_reducible apply wpM_sta' M 0 33 (bys f)); rfl; rfl; rfl; rfl; (first | exact .inl (by assumption) | exact .inr rfl | exact .inr (by assumption)); exact ⟨rfl, inf_plc.trans (congrArg some (bys_size ..).symm), flat_bys _⟩; (simp only [entCells, List.getElem?_cons_zero, List.getElem?_cons_succ, bys_size, bys_size]); clear M; (try clear C); intro w9 M; simp only [List.set_cons_zero, List.set_cons_succ, entBlk, entT, List.getElem?_cons_zero, List.getElem?_cons_succ] at M; have C := M.ruleAll; simp only [Go.Proofs.Ytjdfjlgjpjgnhaa.ruleAll] at C))
            apply wp_region_mm M 7 (by kernel_rfl) (by kernel_rfl)
            · simp only [List.take_succ_cons, List.take_zero]
              repeat (first | exact wpText_nil | (apply wpText_cons; (intro w2 M; have C := M.ruleAll; simp only [Go.Proofs.Ytjdfjlgjpjgnhaa.ruleAll] at C; have hnm := HNM.out _ M.below; go_wp2_with (first | ((with_reducible apply wpM_lda' M 0 33 0 (bys f)); rfl; rfl; rfl; exact ⟨rfl, inf_plc.trans (congrArg some (bys_size ..).symm), _, und_plc, rfl⟩; exact whole_of rfl)); exact ⟨rfl, rfl, M⟩); rfl))
            clear M; (try clear C)
            intro w2 M
            simp only [List.drop_succ_cons, List.drop_zero]
            have C := M.ruleAll; simp only [Go.Proofs.Ytjdfjlgjpjgnhaa.ruleAll] at C
            go_wp2_with (first | ((with_reducible apply wpM_sta' M 2 33 (bys f)); rfl; rfl; rfl; rfl; (first | exact .inl (by assumption) | exact .inr rfl | exact .inr (by assumption)); exact ⟨rfl, inf_plc.trans (congrArg some (bys_size ..).symm), flat_bys _⟩; (simp only [entCells, List.getElem?_cons_zero, List.getElem?_cons_succ, bys_size, bys_size]); clear M; (try clear C); intro w9 M; simp only [List.set_cons_zero, List.set_cons_succ, entBlk, entT, List.getElem?_cons_zero, List.getElem?_cons_succ] at M; have C := M.ruleAll; simp only [Go.Proofs.Ytjdfjlgjpjgnhaa.ruleAll] at C))
            refine bodyPost_ret (v := .tuple #[.string x, .agg (bys f), .int .i64 0]) (by exact results_mid rfl _ _ _ _ (bys f) _ rfl und_plc rfl (inf_plc.trans (congrArg some (bys_size _).symm)) (cells_of_blk0 (M.box 2 rfl)) _ _ rfl rfl) rfl ?_
            have hA : alkB q r = true := by rw [HAL.out]; rfl
            exact ⟨by rw [HR.out, HF1.out hA, if_neg (by omega), Int.toNat_natCast, HX.out, HF2.out hA], M.below⟩
          · have hd0 : (d == 0) = false := beq_eq_false_iff_ne.2 hd
            have hd1 : decide (d = 0) = false := decide_eq_false hd
            go_wp2_with (first | (refine wpList_load_part rfl 30 _ rfl (g2) (k * 101) rfl (sqs r.n r.t) _ und_sqs rfl inf_sqs (HCE.out _ M.below) ?_) | (have hq := h_b8; clear hq; ((with_reducible apply wpM_alloc' M 33 (bys fun _ => 0)); rfl; exact ⟨rfl, _, zero_plc _, rfl⟩; clear M; (try clear C); intro b9 w9 h_b9 M; have C := M.ruleAll; simp only [Go.Proofs.Ytjdfjlgjpjgnhaa.ruleAll] at C)) | ((with_reducible apply wpM_alloc' M 30 (sqs 0 fun _ _ => 0)); rfl; exact ⟨rfl, _, zero_sqs _, rfl⟩; clear M; (try clear C); intro b8 w9 h_b8 M; have C := M.ruleAll; simp only [Go.Proofs.Ytjdfjlgjpjgnhaa.ruleAll] at C) | ((with_reducible apply wpM_sta' M 0 30 (sqs r.n r.t)); rfl; rfl; rfl; rfl; (first | exact .inl (by assumption) | exact .inr rfl | exact .inr (by assumption)); exact ⟨rfl, inf_sqs.trans (congrArg some (sqs_size ..).symm), flat_sqs _ _⟩; (simp only [entCells, List.getElem?_cons_zero, List.getElem?_cons_succ, sqs_size, sqs_size]); clear M; (try clear C); intro w9 M; simp only [List.set_cons_zero, List.set_cons_succ, entBlk, entT, List.getElem?_cons_zero, List.getElem?_cons_succ] at M; have C := M.ruleAll; simp only [Go.Proofs.Ytjdfjlgjpjgnhaa.ruleAll] at C) | ((with_reducible apply wpM_lda' M 0 30 0 (sqs r.n r.t)); rfl; rfl; rfl; exact ⟨rfl, inf_sqs.trans (congrArg some (sqs_size ..).symm), _, und_sqs, rfl⟩; exact whole_of rfl) | ((with_reducible apply wpM_lda' M 2 30 0 (sqs q.n q.t)); rfl; rfl; rfl; exact ⟨rfl, inf_sqs.trans (congrArg some (sqs_size ..).symm), _, und_sqs, rfl⟩; exact whole_of rfl) | (go_at_call 76; ((with_reducible refine (hI _).mono ?_); rintro e w1 ⟨rfl, hb⟩; have hsz := M.size; (try (have G9 := G.later hb; clear G; have G := G9; clear G9)); have M9 := M.later hb; clear M; (try clear C); have M := M9; clear M9; have C := M.ruleAll; simp only [Go.Proofs.Ytjdfjlgjpjgnhaa.ruleAll] at C)) | ((with_reducible apply wpM_sta' M 0 33 (bys f)); rfl; rfl; rfl; rfl; (first | exact .inl (by assumption) | exact .inr rfl | exact .inr (by assumption)); exact ⟨rfl, inf_plc.trans (congrArg some (bys_size ..).symm), flat_bys _⟩; (simp only [entCells, List.getElem?_cons_zero, List.getElem?_cons_succ, bys_size, bys_size]); clear M; (try clear C); intro w9 M; simp only [List.set_cons_zero, List.set_cons_succ, entBlk, entT, List.getElem?_cons_zero, List.getElem?_cons_succ] at M; have C := M.ruleAll; simp only [Go.Proofs.Ytjdfjlgjpjgnhaa.ruleAll] at C))
            go_roundw
            case rel => exact ⟨k + 1, by omega, by go_num, HN.out (by rw [HAL.out]; exact hd0), (M.drop 0).drop 0⟩
            case measure => simp [intOf]; omega
        · obtain rfl : k = ls.length := by omega
          have hge : ¬ ((ls.length : Int) < (ls.length : Int)) := by omega
          have hp : placeOf (alkB q) ls = -1 := placeOf_none fun j hj => HL.out j hj hj
          have HP := Hid2.mk hp
          clear hp
          go_wp2_with (first | (refine wpList_build 33 _ rfl rfl [] rfl _ (build_plc _) ?_) | ((with_reducible apply wpM_sta' M 0 33 (bys fun _ => 0)); rfl; rfl; rfl; rfl; (first | exact .inl (by assumption) | exact .inr rfl | exact .inr (by assumption)); exact ⟨rfl, inf_plc.trans (congrArg some (bys_size ..).symm), flat_bys _⟩; (simp only [entCells, List.getElem?_cons_zero, List.getElem?_cons_succ, bys_size, bys_size]); clear M; (try clear C); intro w9 M; simp only [List.set_cons_zero, List.set_cons_succ, entBlk, entT, List.getElem?_cons_zero, List.getElem?_cons_succ] at M; have C := M.ruleAll; simp only [Go.Proofs.Ytjdfjlgjpjgnhaa.ruleAll] at C))
          refine bodyPost_ret (v := .tuple #[.string ⟨#[]⟩, .agg (bys fun _ => 0), .int .i64 4]) (by exact results_mid rfl _ _ _ _ (bys fun _ => 0) _ rfl und_plc rfl (inf_plc.trans (congrArg some (bys_size _).symm)) (cells_of_blk0 (M.box 0 rfl)) _ _ rfl rfl) rfl ?_
          exact ⟨by rw [HR.out, HP.out, if_pos (by decide)], M.below⟩

set_option maxRecDepth 100000 in
set_option maxHeartbeats 2000000 in
theorem specNameOf_any {ns : List ByteArray} {ls : List Sqr} (h : BkIn ns ls) (q : Sqr) (hq : Byt2 q.t) (w : World) {g1 g2 : Nat} (h1 : BkHere ns ls w g1 g2) (c1 c2 : Nat) :
    Calls Try.prog 25 #[.agg (bkA g1 c1 g2 c2 ns.length ls.length), .agg (sqs q.n q.t)] w (NmRes (nameOfR ns ls q) w) := by
  have M := Mm.start no w
  have k0 : (bkA g1 c1 g2 c2 ns.length ls.length)[0]? = some (.slice (some ⟨g1, 0, none⟩) ns.length c1) := rfl
  have HB := fun w1 (hb : Below w.heap.size w w1) => l11IsP_any h w1 (h1.later hb) c1 c2
  have HL := fun w1 => l01Loop_any q.n q.t w1 hq
  have hlp : lpB q = isLp q.n q.t := rfl
  rw [← hlp] at HL
  have hbd := build_plc
  have hz := zero_plc
  clear hlp
  cases hb1 : isBk ns ls with
  | false =>
    have HR := Hid2.mk (show nameOfR ns ls q = (⟨#[]⟩, (fun _ => 0), 1) by unfold nameOfR; rw [if_neg (by rw [hb1]; simp)])
    simp only [hb1] at HB
    clear h h1 hq hb1
    go_enter Try.func25, Try.ntmps25
    go_wp2_with (first | ((with_reducible apply wpM_box' M 47 (bkA g1 c1 g2 c2 ns.length ls.length)); rfl; exact ⟨rfl, rfl⟩; clear M; (try clear C); intro bb w9 h_bb M; have C := M.ruleAll; simp only [Go.Proofs.Ytjdfjlgjpjgnhaa.ruleAll] at C) | ((with_reducible apply wpM_box' M 30 (sqs q.n q.t)); rfl; exact ⟨rfl, rfl⟩; clear M; (try clear C); intro bq w9 h_bq M; have C := M.ruleAll; simp only [Go.Proofs.Ytjdfjlgjpjgnhaa.ruleAll] at C) | ((with_reducible apply wpM_alloc' M 33 (bys fun _ => 0)); rfl; exact ⟨rfl, _, zero_plc _, rfl⟩; clear M; (try clear C); intro b5 w9 h_b5 M; have C := M.ruleAll; simp only [Go.Proofs.Ytjdfjlgjpjgnhaa.ruleAll] at C) | ((with_reducible apply wpM_lda' M 2 47 0 (bkA g1 c1 g2 c2 ns.length ls.length)); rfl; rfl; rfl; exact ⟨rfl, inf_bok.trans (congrArg some (bok_size ..).symm), _, und_bok, rfl⟩; exact whole_of rfl) | (go_at_call 63; ((with_reducible refine (HB _ M.below).mono ?_); rintro e w1 ⟨rfl, hb⟩; have hsz := M.size; (try (have G9 := G.later hb; clear G; have G := G9; clear G9)); have M9 := M.later hb; clear M; (try clear C); have M := M9; clear M9; have C := M.ruleAll; simp only [Go.Proofs.Ytjdfjlgjpjgnhaa.ruleAll] at C)) | (refine wpList_build 33 _ rfl rfl [] rfl _ (build_plc _) ?_) | ((with_reducible apply wpM_sta' M 0 33 (bys fun _ => 0)); rfl; rfl; rfl; rfl; (first | exact .inl (by assumption) | exact .inr rfl | exact .inr (by assumption)); exact ⟨rfl, inf_plc.trans (congrArg some (bys_size ..).symm), flat_bys _⟩; (simp only [entCells, List.getElem?_cons_zero, List.getElem?_cons_succ, bys_size, bys_size]); clear M; (try clear C); intro w9 M; simp only [List.set_cons_zero, List.set_cons_succ, entBlk, entT, List.getElem?_cons_zero, List.getElem?_cons_succ] at M; have C := M.ruleAll; simp only [Go.Proofs.Ytjdfjlgjpjgnhaa.ruleAll] at C))
    refine bodyPost_ret (v := .tuple #[.string ⟨#[]⟩, .agg (bys fun _ => 0), .int .i64 1]) (by exact results_mid rfl _ _ _ _ (bys fun _ => 0) _ rfl und_plc rfl (inf_plc.trans (congrArg some (bys_size _).symm)) (cells_of_blk0 (M.box 0 rfl)) _ _ rfl rfl) rfl ?_
    exact ⟨by rw [HR.out], M.below⟩
  | true =>
    cases hb2 : lpB q with
    | false =>
      have HR := Hid2.mk (show nameOfR ns ls q = (⟨#[]⟩, (fun _ => 0), 1) by unfold nameOfR; rw [if_neg (by rw [hb2]; simp)])
      simp only [hb1] at HB
      simp only [hb2] at HL
      clear h h1 hq hb1 hb2
      go_enter Try.func25, Try.ntmps25
      go_wp2_with (first | ((with_reducible apply wpM_box' M 47 (bkA g1 c1 g2 c2 ns.length ls.length)); rfl; exact ⟨rfl, rfl⟩; clear M; (try clear C); intro bb w9 h_bb M; have C := M.ruleAll; simp only [Go.Proofs.Ytjdfjlgjpjgnhaa.ruleAll] at C) | ((with_reducible apply wpM_box' M 30 (sqs q.n q.t)); rfl; exact ⟨rfl, rfl⟩; clear M; (try clear C); intro bq w9 h_bq M; have C := M.ruleAll; simp only [Go.Proofs.Ytjdfjlgjpjgnhaa.ruleAll] at C) | ((with_reducible apply wpM_alloc' M 33 (bys fun _ => 0)); rfl; exact ⟨rfl, _, zero_plc _, rfl⟩; clear M; (try clear C); intro b5 w9 h_b5 M; have C := M.ruleAll; simp only [Go.Proofs.Ytjdfjlgjpjgnhaa.ruleAll] at C) | ((with_reducible apply wpM_lda' M 2 47 0 (bkA g1 c1 g2 c2 ns.length ls.length)); rfl; rfl; rfl; exact ⟨rfl, inf_bok.trans (congrArg some (bok_size ..).symm), _, und_bok, rfl⟩; exact whole_of rfl) | ((with_reducible apply wpM_lda' M 1 30 0 (sqs q.n q.t)); rfl; rfl; rfl; exact ⟨rfl, inf_sqs.trans (congrArg some (sqs_size ..).symm), _, und_sqs, rfl⟩; exact whole_of rfl) | (go_at_call 63; ((with_reducible refine (HB _ M.below).mono ?_); rintro e w1 ⟨rfl, hb⟩; have hsz := M.size; (try (have G9 := G.later hb; clear G; have G := G9; clear G9)); have M9 := M.later hb; clear M; (try clear C); have M := M9; clear M9; have C := M.ruleAll; simp only [Go.Proofs.Ytjdfjlgjpjgnhaa.ruleAll] at C)) | (go_at_call 73; ((with_reducible refine (HL _).mono ?_); rintro e w1 ⟨rfl, hb⟩; have hsz := M.size; (try (have G9 := G.later hb; clear G; have G := G9; clear G9)); have M9 := M.later hb; clear M; (try clear C); have M := M9; clear M9; have C := M.ruleAll; simp only [Go.Proofs.Ytjdfjlgjpjgnhaa.ruleAll] at C)) | (refine wpList_build 33 _ rfl rfl [] rfl _ (build_plc _) ?_) | ((with_reducible apply wpM_sta' M 0 33 (bys fun _ => 0)); rfl; rfl; rfl; rfl; (first | exact .inl (by assumption) | exact .inr rfl | exact .inr (by assumption)); exact ⟨rfl, inf_plc.trans (congrArg some (bys_size ..).symm), flat_bys _⟩; (simp only [entCells, List.getElem?_cons_zero, List.getElem?_cons_succ, bys_size, bys_size]); clear M; (try clear C); intro w9 M; simp only [List.set_cons_zero, List.set_cons_succ, entBlk, entT, List.getElem?_cons_zero, List.getElem?_cons_succ] at M; have C := M.ruleAll; simp only [Go.Proofs.Ytjdfjlgjpjgnhaa.ruleAll] at C))
      refine bodyPost_ret (v := .tuple #[.string ⟨#[]⟩, .agg (bys fun _ => 0), .int .i64 1]) (by exact results_mid rfl _ _ _ _ (bys fun _ => 0) _ rfl und_plc rfl (inf_plc.trans (congrArg some (bys_size _).symm)) (cells_of_blk0 (M.box 0 rfl)) _ _ rfl rfl) rfl ?_
      exact ⟨by rw [HR.out], M.below⟩
    | true =>
      have HR := Hid2.mk (show nameOfR ns ls q = if placeOf (alkB q) ls < 0 then (⟨#[]⟩, (fun _ => 0), 4) else (ns.getD (placeOf (alkB q) ls).toNat .empty, keptP q ls, 0) by unfold nameOfR; rw [if_pos ⟨hb1, hb2⟩])
      have HLEN := Hid2.mk (isBk_len2 hb1)
      have HK := fun w1 (hb : Below w.heap.size w w1) => l11Kept_any q ls (by have := h.m; omega) (lpB_ok hq hb2) (isBk_loop h hb1) w1 g1 c1 g2 c2 ns.length (h1.later hb).r2
      have HH := Hid2.mk (fun w1 (hb : Below w.heap.size w w1) => h1.later hb)
      simp only [hb1] at HB
      simp only [hb2] at HL
      have hcase : (placeOf (alkB q) ls < 0) ∨ ∃ k : Nat, k < ns.length ∧ placeOf (alkB q) ls = (k : Int) := by
        by_cases h3 : placeOf (alkB q) ls < 0
        · exact .inl h3
        · obtain ⟨k, hk, e⟩ := placeOf_lt2 _ _ h3
          exact .inr ⟨k, by have := HLEN.out; omega, e⟩
      generalize placeOf (alkB q) ls = p at HR HK hcase
      generalize keptP q ls = f at HR HK
      clear h h1 hq hb1 hb2
      rcases hcase with hneg | ⟨k, hk, rfl⟩
      · go_enter Try.func25, Try.ntmps25
        go_wp2_with (first | ((with_reducible apply wpM_box' M 47 (bkA g1 c1 g2 c2 ns.length ls.length)); rfl; exact ⟨rfl, rfl⟩; clear M; (try clear C); intro bb w9 h_bb M; have C := M.ruleAll; simp only [Go.Proofs.Ytjdfjlgjpjgnhaa.ruleAll] at C) | ((with_reducible apply wpM_box' M 30 (sqs q.n q.t)); rfl; exact ⟨rfl, rfl⟩; clear M; (try clear C); intro bq w9 h_bq M; have C := M.ruleAll; simp only [Go.Proofs.Ytjdfjlgjpjgnhaa.ruleAll] at C) | (have hq := h_b5; clear hq; ((with_reducible apply wpM_alloc' M 33 (bys fun _ => 0)); rfl; exact ⟨rfl, _, zero_plc _, rfl⟩; clear M; (try clear C); intro b8 w9 h_b8 M; have C := M.ruleAll; simp only [Go.Proofs.Ytjdfjlgjpjgnhaa.ruleAll] at C)) | ((with_reducible apply wpM_alloc' M 33 (bys fun _ => 0)); rfl; exact ⟨rfl, _, zero_plc _, rfl⟩; clear M; (try clear C); intro b5 w9 h_b5 M; have C := M.ruleAll; simp only [Go.Proofs.Ytjdfjlgjpjgnhaa.ruleAll] at C) | ((with_reducible apply wpM_lda' M 2 47 0 (bkA g1 c1 g2 c2 ns.length ls.length)); rfl; rfl; rfl; exact ⟨rfl, inf_bok.trans (congrArg some (bok_size ..).symm), _, und_bok, rfl⟩; exact whole_of rfl) | ((with_reducible apply wpM_lda' M 1 30 0 (sqs q.n q.t)); rfl; rfl; rfl; exact ⟨rfl, inf_sqs.trans (congrArg some (sqs_size ..).symm), _, und_sqs, rfl⟩; exact whole_of rfl) | (go_at_call 63; ((with_reducible refine (HB _ M.below).mono ?_); rintro e w1 ⟨rfl, hb⟩; have hsz := M.size; (try (have G9 := G.later hb; clear G; have G := G9; clear G9)); have M9 := M.later hb; clear M; (try clear C); have M := M9; clear M9; have C := M.ruleAll; simp only [Go.Proofs.Ytjdfjlgjpjgnhaa.ruleAll] at C)) | (go_at_call 73; ((with_reducible refine (HL _).mono ?_); rintro e w1 ⟨rfl, hb⟩; have hsz := M.size; (try (have G9 := G.later hb; clear G; have G := G9; clear G9)); have M9 := M.later hb; clear M; (try clear C); have M := M9; clear M9; have C := M.ruleAll; simp only [Go.Proofs.Ytjdfjlgjpjgnhaa.ruleAll] at C)) | (go_at_call 74; ((with_reducible refine (HK _ M.below).mono ?_); rintro e w1 ⟨rfl, hb⟩; have hsz := M.size; (try (have G9 := G.later hb; clear G; have G := G9; clear G9)); have M9 := M.later hb; clear M; (try clear C); have M := M9; clear M9; have C := M.ruleAll; simp only [Go.Proofs.Ytjdfjlgjpjgnhaa.ruleAll] at C)) | ((with_reducible apply wpM_sta' M 0 33 (bys f)); rfl; rfl; rfl; rfl; (first | exact .inl (by assumption) | exact .inr rfl | exact .inr (by assumption)); exact ⟨rfl, inf_plc.trans (congrArg some (bys_size ..).symm), flat_bys _⟩; (simp only [entCells, List.getElem?_cons_zero, List.getElem?_cons_succ, bys_size, bys_size]); clear M; (try clear C); intro w9 M; simp only [List.set_cons_zero, List.set_cons_succ, entBlk, entT, List.getElem?_cons_zero, List.getElem?_cons_succ] at M; have C := M.ruleAll; simp only [Go.Proofs.Ytjdfjlgjpjgnhaa.ruleAll] at C) | (refine wpList_build 33 _ rfl rfl [] rfl _ (build_plc _) ?_) | ((with_reducible apply wpM_sta' M 1 33 (bys fun _ => 0)); rfl; rfl; rfl; rfl; (first | exact .inl (by assumption) | exact .inr rfl | exact .inr (by assumption)); exact ⟨rfl, inf_plc.trans (congrArg some (bys_size ..).symm), flat_bys _⟩; (simp only [entCells, List.getElem?_cons_zero, List.getElem?_cons_succ, bys_size, bys_size]); clear M; (try clear C); intro w9 M; simp only [List.set_cons_zero, List.set_cons_succ, entBlk, entT, List.getElem?_cons_zero, List.getElem?_cons_succ] at M; have C := M.ruleAll; simp only [Go.Proofs.Ytjdfjlgjpjgnhaa.ruleAll] at C))
        refine bodyPost_ret (v := .tuple #[.string ⟨#[]⟩, .agg (bys fun _ => 0), .int .i64 4]) (by exact results_mid rfl _ _ _ _ (bys fun _ => 0) _ rfl und_plc rfl (inf_plc.trans (congrArg some (bys_size _).symm)) (cells_of_blk0 (M.box 1 rfl)) _ _ rfl rfl) rfl ?_
        exact ⟨by rw [HR.out, if_pos hneg], M.below⟩
      · have hk' : (k : Int) < (ns.length : Int) := by omega
        have hname : ∀ w1, Below w.heap.size w w1 → w1.cell? ⟨g1, k, none⟩ = some (.string (ns.getD k .empty)) := fun w1 hb => (HH.out w1 hb).r1.at_ k hk
        have HNM := Hid2.mk hname
        generalize hx : ns.getD k .empty = x at HNM
        have HX := Hid2.mk hx
        clear hname hx
        have hng : ¬ ((k : Int) < 0) := by omega
        go_enter Try.func25, Try.ntmps25
        go_wp2_with (first | ((with_reducible apply wpM_box' M 47 (bkA g1 c1 g2 c2 ns.length ls.length)); rfl; exact ⟨rfl, rfl⟩; clear M; (try clear C); intro bb w9 h_bb M; have C := M.ruleAll; simp only [Go.Proofs.Ytjdfjlgjpjgnhaa.ruleAll] at C) | ((with_reducible apply wpM_box' M 30 (sqs q.n q.t)); rfl; exact ⟨rfl, rfl⟩; clear M; (try clear C); intro bq w9 h_bq M; have C := M.ruleAll; simp only [Go.Proofs.Ytjdfjlgjpjgnhaa.ruleAll] at C) | (have hq := h_b5; clear hq; ((with_reducible apply wpM_alloc' M 33 (bys fun _ => 0)); rfl; exact ⟨rfl, _, zero_plc _, rfl⟩; clear M; (try clear C); intro b8 w9 h_b8 M; have C := M.ruleAll; simp only [Go.Proofs.Ytjdfjlgjpjgnhaa.ruleAll] at C)) | ((with_reducible apply wpM_alloc' M 33 (bys fun _ => 0)); rfl; exact ⟨rfl, _, zero_plc _, rfl⟩; clear M; (try clear C); intro b5 w9 h_b5 M; have C := M.ruleAll; simp only [Go.Proofs.Ytjdfjlgjpjgnhaa.ruleAll] at C) | ((with_reducible apply wpM_lda' M 2 47 0 (bkA g1 c1 g2 c2 ns.length ls.length)); rfl; rfl; rfl; exact ⟨rfl, inf_bok.trans (congrArg some (bok_size ..).symm), _, und_bok, rfl⟩; exact whole_of rfl) | ((with_reducible apply wpM_lda' M 1 30 0 (sqs q.n q.t)); rfl; rfl; rfl; exact ⟨rfl, inf_sqs.trans (congrArg some (sqs_size ..).symm), _, und_sqs, rfl⟩; exact whole_of rfl) | (go_at_call 63; ((with_reducible refine (HB _ M.below).mono ?_); rintro e w1 ⟨rfl, hb⟩; have hsz := M.size; (try (have G9 := G.later hb; clear G; have G := G9; clear G9)); have M9 := M.later hb; clear M; (try clear C); have M := M9; clear M9; have C := M.ruleAll; simp only [Go.Proofs.Ytjdfjlgjpjgnhaa.ruleAll] at C)) | (go_at_call 73; ((with_reducible refine (HL _).mono ?_); rintro e w1 ⟨rfl, hb⟩; have hsz := M.size; (try (have G9 := G.later hb; clear G; have G := G9; clear G9)); have M9 := M.later hb; clear M; (try clear C); have M := M9; clear M9; have C := M.ruleAll; simp only [Go.Proofs.Ytjdfjlgjpjgnhaa.ruleAll] at C)) | (go_at_call 74; ((with_reducible refine (HK _ M.below).mono ?_); rintro e w1 ⟨rfl, hb⟩; have hsz := M.size; (try (have G9 := G.later hb; clear G; have G := G9; clear G9)); have M9 := M.later hb; clear M; (try clear C); have M := M9; clear M9; have C := M.ruleAll; simp only [Go.Proofs.Ytjdfjlgjpjgnhaa.ruleAll] at C)) | ((with_reducible apply wpM_sta' M 0 33 (bys f)); rfl; rfl; rfl; rfl; (first | exact .inl (by assumption) | exact .inr rfl | exact .inr (by assumption)); exact ⟨rfl, inf_plc.trans (congrArg some (bys_size ..).symm), flat_bys _⟩; (simp only [entCells, List.getElem?_cons_zero, List.getElem?_cons_succ, bys_size, bys_size]); clear M; (try clear C); intro w9 M; simp only [List.set_cons_zero, List.set_cons_succ, entBlk, entT, List.getElem?_cons_zero, List.getElem?_cons_succ] at M; have C := M.ruleAll; simp only [Go.Proofs.Ytjdfjlgjpjgnhaa.ruleAll] at C))
        apply wp_region_mm M 7 (by kernel_rfl) (by kernel_rfl)
        · simp only [List.take_succ_cons, List.take_zero]
          repeat (first | exact wpText_nil | (apply wpText_cons; (intro w2 M; have C := M.ruleAll; simp only [Go.Proofs.Ytjdfjlgjpjgnhaa.ruleAll] at C; have hnm := HNM.out _ M.below; go_wp2_with (first | ((with_reducible apply wpM_lda' M 0 33 0 (bys f)); rfl; rfl; rfl; exact ⟨rfl, inf_plc.trans (congrArg some (bys_size ..).symm), _, und_plc, rfl⟩; exact whole_of rfl)); exact ⟨rfl, rfl, M⟩); rfl))
        clear M; (try clear C)
        intro w2 M
        simp only [List.drop_succ_cons, List.drop_zero]
        have C := M.ruleAll; simp only [Go.Proofs.Ytjdfjlgjpjgnhaa.ruleAll] at C
        go_wp2_with (first | ((with_reducible apply wpM_sta' M 1 33 (bys f)); rfl; rfl; rfl; rfl; (first | exact .inl (by assumption) | exact .inr rfl | exact .inr (by assumption)); exact ⟨rfl, inf_plc.trans (congrArg some (bys_size ..).symm), flat_bys _⟩; (simp only [entCells, List.getElem?_cons_zero, List.getElem?_cons_succ, bys_size, bys_size]); clear M; (try clear C); intro w9 M; simp only [List.set_cons_zero, List.set_cons_succ, entBlk, entT, List.getElem?_cons_zero, List.getElem?_cons_succ] at M; have C := M.ruleAll; simp only [Go.Proofs.Ytjdfjlgjpjgnhaa.ruleAll] at C))
        refine bodyPost_ret (v := .tuple #[.string x, .agg (bys f), .int .i64 0]) (by exact results_mid rfl _ _ _ _ (bys f) _ rfl und_plc rfl (inf_plc.trans (congrArg some (bys_size _).symm)) (cells_of_blk0 (M.box 1 rfl)) _ _ rfl rfl) rfl ?_
        exact ⟨by rw [HR.out, if_neg (by omega), Int.toNat_natCast, HX.out], M.below⟩
end Go.Proofs.Ytjdfjlgjpjgnhaa
