/- The program's search for isomorphisms, whatever is called for each of them: a contract. -/
import Derived.Test.YtinjjaoikofkdaaDoorQ2
import Derived.Test.YtinjjaoikofkdaaDoorQ1
import Derived.Shelf.Abstract
import Derived.StillTailTactics
namespace Go.Proofs.YtinjjaoikofkdaaDoor
set_option linter.unusedSimpArgs false
set_option linter.unusedVariables false
open Go Go.RowKit

/-- What is visited: all, or the first alone. -/
def res (s : Bool) (l : List (List Nat)) : List (List Nat) := if s then l.take 1 else l
/-- What the search gives. -/
def Searched (b : Bool) (V : List (List Nat) → (Nat → Prop) → World → Prop) (l : List (List Nat)) (D : Nat → Prop) (w : World) (e : Ending) (w' : World) : Prop :=
  e = .returned (.bool b) ∧ ∃ D', (Ent.res D' (V l D')).holds w' ∧ (∀ k, D' k → D k ∨ w.heap.size ≤ k) ∧ Kept D w w'
/-- The function f, called with what it captured, keeps V, which tells what has been visited; it hands back s. -/
def Visits (s : Bool) (f : Nat) (cap : Array Value) (V : List (List Nat) → (Nat → Prop) → World → Prop) (most : Nat) : Prop :=
  (∀ (args : Array Value) (w : World), (callFunc f args).run Tryd.prog w = .ok (.enter f args) w) ∧ ∀ (l : List (List Nat)) (p : List Nat) (D : Nat → Prop) (w : World), (Ent.res D (V l D)).holds w → l.length < most →
    Calls Tryd.prog f (#[.agg (bys fun i => p.getD i 0)] ++ cap) w (Searched s V (l ++ [p]) D w)
theorem flat_led (n : Int) (t : Nat → Nat → Nat) (k : Int) (u : Nat → Nat → Nat) (m : PM) (fr : Nat → Nat) : flat (led n t k u m fr) := flat_tab fun i _ => by
  by_cases h1 : i < 101
  · rw [if_pos h1]; unfold sqs; rw [tab_get h1]; by_cases h : i = 0 <;> simp [h]
  · rw [if_neg h1]
    by_cases h2 : i < 202
    · rw [if_pos h2]; unfold sqs; rw [tab_get (by omega)]; by_cases h : i - 101 = 0 <;> simp [h]
    · rw [if_neg h2]
      by_cases h3 : i < 212
      · rw [if_pos h3]
      · rw [if_neg h3]
theorem led_size (n : Int) (t : Nat → Nat → Nat) (k : Int) (u : Nat → Nat → Nat) (m : PM) (fr : Nat → Nat) : (led n t k u m fr).size = 222 := tab_size _ _
/-- The part that is made ahead of all. -/
def led0 : Array Value := led 0 (fun _ _ => 0) 0 (fun _ _ => 0) ⟨fun _ => 0, fun _ => 1, 0⟩ fun _ => 0
theorem led0_size : led0.size = 222 := tab_size _ _
theorem zero_led (w : World) : (zeroValue 113).run Tryd.prog w = .ok (.agg led0) w := by kernel_rfl
theorem und_led : Tryd.prog.underlying 113 = some (.struct (Tryd.prog.fieldsOf 113)) := by kernel_rfl
theorem inf_led : (Tryd.prog.info? 113).map (·.size) = some 222 := by kernel_rfl

def sBox (bq bs bv : Nat) : Array Value := #[.func (.func 84) #[] #[.pointer (some ⟨bq, 0, none⟩), .pointer (some ⟨bs, 0, none⟩), .pointer (some ⟨bv, 0, none⟩)]]
theorem um_all {f : Nat → Int} {N : Nat} (h : ∀ z, z < N → 0 ≤ f z) : um f N = 0 := by
  by_cases e : um f N = 0
  · exact e
  · obtain ⟨z, hz, h2, _⟩ := um_pos e
    have := h z hz; omega
theorem res_len (s : Bool) (l : List (List Nat)) : (res s l).length ≤ l.length := by unfold res; split <;> simp <;> omega
theorem res_false (l : List (List Nat)) : res false l = l := rfl

theorem len_step {s : Bool} {l I F B rest : List (List Nat)} {most : Nat} (hI : I = F ++ (B ++ rest)) (hF : s = true → F = []) (h : l.length + (res s I).length ≤ most) : (l ++ F).length + (res s B).length ≤ most := by
  subst hI
  cases s with
  | false => simp only [res_false, List.length_append] at h ⊢; omega
  | true =>
    have hF := hF rfl
    subst hF
    simp [res] at h ⊢
    omega
theorem end_true {s : Bool} {I F B rest : List (List Nat)} (hI : I = F ++ (B ++ rest)) (hF : s = true → F = []) (h : (s && !B.isEmpty) = true) : (s && !I.isEmpty) = true ∧ ∀ l, l ++ F ++ res s B = l ++ res s I := by
  subst hI
  cases s with
  | false => cases h
  | true =>
    have hF := hF rfl
    subst hF
    cases B with
    | nil => simp at h
    | cons a B => simp [res]
theorem step_false {s : Bool} {l F B : List (List Nat)} (hF : s = true → F = []) (h : (s && !B.isEmpty) = false) : l ++ F ++ res s B = l ++ (F ++ B) ∧ (s = true → F ++ B = []) := by
  cases s with
  | false => simp [res]
  | true =>
    have hF := hF rfl
    subst hF
    cases B with
    | nil => simp [res]
    | cons a B => simp at h
theorem end_all {s : Bool} {l I F : List (List Nat)} (hI : I = F) (hF : s = true → F = []) : (s && !I.isEmpty) = false ∧ l ++ F = l ++ res s I := by
  subst hI
  cases s with
  | false => simp [res]
  | true =>
    have hF := hF rfl
    subst hF
    simp [res]
theorem slice_hi (k b : Nat) (hk : k ≤ 10) (w : World) : (Instr.sliceAt 52 (.pointer (some ⟨b, 0, none⟩)) none (some (.int .i64 (k : Int))) none).run Tryd.prog w = .ok (.slice (some ⟨b, 0, none⟩) k 10) w := by
  have hu : Tryd.prog.underlying 52 = some (.array 10 5) := by kernel_rfl
  have hs : (sizeOf 5).run Tryd.prog w = .ok 1 w := by kernel_rfl
  have h1 : (k : Int) ≤ 10 := by omega
  simp [Instr.sliceAt, Sem.run_bind, run_underlying hu, Instr.sureAddr, Instr.sliceBounds, Instr.sliceBound, asIntOf, hs, h1, Addr.add]
  intro h; omega
theorem copy_to {N : Nat} {t u : Nat → Nat → Nat} {m : PM} {fr : Nat → Nat} (hall : ∀ z, z < N → 0 ≤ m.to z) : ∀ j, j < (bys fun _ => 0).size → (bys (plTo m N))[j]? = if 0 ≤ j ∧ j < 0 + N then (led (N : Int) t (N : Int) u m fr)[202 + (j - 0)]? else (bys fun _ => 0)[j]? := by
  intro j hj
  rw [bys_size] at hj
  rw [bys_get hj]
  by_cases h : j < N
  · rw [if_pos (by omega), Nat.sub_zero, led_to hj]
    unfold plTo toC
    have := hall j h
    rw [if_pos h, if_neg (by omega)]
    congr 2; omega
  · rw [if_neg (by omega), bys_get hj]
    unfold plTo; rw [if_neg h]

set_option maxRecDepth 100000 in
set_option maxHeartbeats 2000000 in
theorem search_any (N : Nat) (t u : Nat → Nat → Nat) (s : Bool) (f : Nat) (cap : Array Value) (V : List (List Nat) → (Nat → Prop) → World → Prop) (most : Nat) (hV : Visits s f cap V most) (h0 : 1 ≤ N) (h1 : N ≤ 10) (ht : ∀ x y : Nat, x < N → y < N → t x y < N) (hu : ∀ x y : Nat, x < N → y < N → u x y < N) :
    ∀ (K : Nat) (m : PM) (fr : Nat → Nat) (l : List (List Nat)) (w : World) (D : Nat → Prop) (bq bs bv : Nat), Va N m → Cl N t u m → um m.to N < K → (∀ i, fr i < 10) → l.length + (res s (isos N t u m.abs)).length ≤ most →
    Mm no w w [.box bq (sqs (N : Int) t) 36, .box bs (sBox bq bs bv) 114, .box bv #[.func (.func f) #[] cap] 102, .res D (V l D)] →
    Calls Tryd.prog 84 #[.agg (led (N : Int) t (N : Int) u m fr), .pointer (some ⟨bq, 0, none⟩), .pointer (some ⟨bs, 0, none⟩), .pointer (some ⟨bv, 0, none⟩)] w
      (Searched (s && !(isos N t u m.abs).isEmpty) V (l ++ res s (isos N t u m.abs)) D w) := by
  intro K
  induction K with
  | zero => exact fun _ _ _ _ _ _ _ _ _ _ h => absurd h (by omega)
  | succ K IH0 =>
    intro m fr l w D bq bs bv hv hcl hK hfr hlen M0
    have IH := Hid2.mk IH0
    have HT := Hid2.mk ht
    have HU := Hid2.mk hu
    have HV := Hid2.mk hV
    have HF := Hid2.mk hfr
    clear IH0 ht hu hV hfr
    obtain ⟨M, hM⟩ : ∃ M : Mm D w w _, M = M0.only D := ⟨_, rfl⟩
    clear hM M0
    go_enter Tryd.func84, Tryd.ntmps84
    go_wp2_with (first | ((with_reducible apply wpM_box' M 113 (led (N : Int) t (N : Int) u m fr)); rfl; exact ⟨rfl, rfl⟩; clear M; (try clear C); intro bl w9 h_bl M; have C := M.ruleAll; simp only [Go.Proofs.YtinjjaoikofkdaaDoor.ruleAll] at C) | ((with_reducible apply wpM_lda' M 1 36 0 (sqs (N : Int) t)); rfl; rfl; rfl; exact ⟨rfl, inf_sqs.trans (congrArg some (sqs_size ..).symm), _, und_sqs, rfl⟩; exact whole_of rfl) | (go_at_call 52; ((with_reducible refine (elements_any _ _ _ (by omega) (by omega)).mono ?_); rintro e w1 ⟨g, cap_g, rfl, hb, hg, hr⟩; have hsz := M.size; have M9 := M.gain hb (x := .rd g (N : Int).toNat (fun j => .int .u8 (j : Int))) hr (fun b h => by cases h; exact hg); clear M; (try clear C); have M := M9; clear M9; (try simp only [List.set_cons_zero, List.set_cons_succ] at M); have C := M.ruleAll; simp only [Go.Proofs.YtinjjaoikofkdaaDoor.ruleAll] at C; clear hb hg hr)))
    go_loopw [7, 9, 10, 15, 25, 26, 27] (fun _ _ _ i _ _ _ wr => ∃ k : Nat, k ≤ N ∧ i = .int .i64 (k : Int) ∧ (∀ z, z < k → 0 ≤ m.to z) ∧ Mm D w wr [.rd g N (fun j => .int .u8 (j : Int)), .box bl (led (N : Int) t (N : Int) u m fr) 113, .box bq (sqs (N : Int) t) 36, .box bs (sBox bq bs bv) 114, .box bv #[.func (.func f) #[] cap] 102, .res D (V l D)]) (fun _ _ _ i _ _ _ _ => N - (intOf i).toNat)
    case atStart => exact ⟨0, by omega, rfl, fun z hz => absurd hz (by omega), M⟩
    case round =>
      obtain ⟨k, hk, rfl, hz, M9⟩ := hrel
      clear M; (try clear C)
      have M := M9
      clear M9
      have C := M.ruleAll; simp only [Go.Proofs.YtinjjaoikofkdaaDoor.ruleAll] at C
      have HZ := Hid2.mk hz
      clear hz
      by_cases hlt : k < N
      · have hlt' : (k : Int) < (N : Int) := by omega
        have c1 := led_to (n := (N : Int)) (t := t) (k := (N : Int)) (u := u) (m := m) (fr := fr) (x := k) (by omega)
        by_cases hmk : m.to k < 0
        · have htc : toC m k = 255 := by unfold toC; rw [if_pos hmk]
          rw [htc] at c1
          clear htc
          have hI := isos_first (t := t) (u := u) hlt HZ.out hmk
          have HI := Hid2.mk hI
          clear hI
          go_wp2_with (first | ((with_reducible apply wpM_lda' M 2 36 0 (sqs (N : Int) t)); rfl; rfl; rfl; exact ⟨rfl, inf_sqs.trans (congrArg some (sqs_size ..).symm), _, und_sqs, rfl⟩; exact whole_of rfl) | (go_at_call 52; ((with_reducible refine (elements_any _ _ _ (by omega) (by omega)).mono ?_); rintro e w2 ⟨g2, cap_g2, rfl, hb, hg, hr⟩; have hsz := M.size; have M9 := M.gain hb (x := .rd g2 (N : Int).toNat (fun j => .int .u8 (j : Int))) hr (fun b h => by cases h; exact hg); clear M; (try clear C); have M := M9; clear M9; (try simp only [List.set_cons_zero, List.set_cons_succ] at M); have C := M.ruleAll; simp only [Go.Proofs.YtinjjaoikofkdaaDoor.ruleAll] at C; clear hb hg hr)))
          clear c1
          go_loopw [9, 10, 27] (fun _ _ i wr => ∃ (y : Nat) (D' : Nat → Prop) (F : List (List Nat)), y ≤ N ∧ i = .int .i64 (y : Int) ∧ F = ((List.range y).flatMap fun y => isos N t u (upd m.abs k y)) ∧ (s = true → F = []) ∧ (∀ j, D' j → D j ∨ w.heap.size ≤ j) ∧
            Mm D w wr [.rd g2 N (fun j => .int .u8 (j : Int)), .rd g N (fun j => .int .u8 (j : Int)), .box bl (led (N : Int) t (N : Int) u m fr) 113, .box bq (sqs (N : Int) t) 36, .box bs (sBox bq bs bv) 114, .box bv #[.func (.func f) #[] cap] 102, .res D' (V (l ++ F) D')]) (fun _ _ i _ => N - (intOf i).toNat)
          case atStart => exact ⟨0, D, [], by omega, rfl, rfl, fun _ => rfl, fun _ h => .inl h, by rw [List.append_nil]; exact M⟩
          case round =>
            obtain ⟨y, D', F, hy, rfl, hF, hs0, hsub, M9⟩ := hrel
            clear M; (try clear C)
            have M := M9
            clear M9
            have C := M.ruleAll; simp only [Go.Proofs.YtinjjaoikofkdaaDoor.ruleAll] at C
            have HF1 := Hid2.mk hF
            have HS := Hid2.mk hs0
            have HU1 := Hid2.mk hsub
            clear hF hs0 hsub
            by_cases hyN : y < N
            · have hyN' : (y : Int) < (N : Int) := by omega
              obtain ⟨rest, hrest⟩ := flat_prefix (fun y => isos N t u (upd m.abs k y)) (show y + 1 ≤ N by omega)
              rw [← HI.out, List.range_succ, List.flatMap_append, List.flatMap_singleton, ← HF1.out, List.append_assoc] at hrest
              have HE := Hid2.mk hrest
              clear hrest
              have hC := put_closes HT.out HU.out (K := 2 + (2 * N + 1) * um m.to N) hv hlt hyN (by omega)
              have hP := fun b w1 h => put_any N t u m fr k y b w1 h0 h1 HT.out HU.out hv hlt hyN HF.out h
              generalize hR : putF N t u (2 + (2 * N + 1) * um m.to N) m [(k, y)] = R at hC hP
              clear hR
              have hlk : (k : Int) < 10 := by omega
              cases h2 : R.2 with
              | false =>
                have hnil := isos_failed hlt hmk hC h2
                simp only [h2] at hP
                have HN := Hid2.mk hnil
                clear hnil h2 hC
                go_wp2_with (first | ((with_reducible apply wpM_lda' M 2 113 0 (led (N : Int) t (N : Int) u m fr)); rfl; rfl; rfl; exact ⟨rfl, inf_led.trans (congrArg some (led_size ..).symm), _, und_led, rfl⟩; exact whole_of rfl) | ((with_reducible apply wpM_alloc' M 113 (led0)); rfl; exact ⟨rfl, _, zero_led _, rfl⟩; clear M; (try clear C); intro bn w9 h_bn M; have C := M.ruleAll; simp only [Go.Proofs.YtinjjaoikofkdaaDoor.ruleAll] at C) | ((with_reducible apply wpM_sta' M 0 113 (led (N : Int) t (N : Int) u m fr)); rfl; rfl; rfl; rfl; (first | exact .inl (by assumption) | exact .inr rfl | exact .inr (by assumption)); exact ⟨rfl, inf_led.trans (congrArg some (led_size ..).symm), flat_led _ _ _ _ _ _⟩; (simp only [entCells, List.getElem?_cons_zero, List.getElem?_cons_succ, led_size, led0_size]); clear M; (try clear C); intro w9 M; simp only [List.set_cons_zero, List.set_cons_succ, entBlk, entT, List.getElem?_cons_zero, List.getElem?_cons_succ] at M; have C := M.ruleAll; simp only [Go.Proofs.YtinjjaoikofkdaaDoor.ruleAll] at C) | (go_at_call 85; ((with_reducible refine (hP _ _ (M.box 0 rfl)).mono ?_); rintro e w3 ⟨rfl, hg3, fr9, hfr9, hb9⟩; have hsz := M.size; have M9 := M.wrote 0 rfl (.inl h_bn) hg3 hb9; clear M; (try clear C); have M := M9; clear M9; (try simp only [List.set_cons_zero, List.set_cons_succ] at M); have C := M.ruleAll; simp only [Go.Proofs.YtinjjaoikofkdaaDoor.ruleAll] at C; clear hg3 hb9)))
                go_roundw
                case rel => exact ⟨y + 1, D', F, by omega, by go_num, by rw [List.range_succ, List.flatMap_append, List.flatMap_singleton, HN.out, List.append_nil, HF1.out], HS.out, HU1.out, M.drop 0⟩
                case measure => simp [intOf]; omega
              | true =>
                have hnew := isos_closed hlt hmk hC h2
                have hvR := hC.va h2
                have hclR := closed_cl HT.out hcl hC h2
                have humR := closed_um hlt hmk hC h2
                simp only [h2] at hP
                rw [hnew] at HE
                have hlen2 := len_step HE.out HS.out hlen
                have hI2 := fun fr9 hf w1 hM => IH.out R.1 fr9 (l ++ F) w1 D' bq bs bv hvR hclR (by omega) hf hlen2 hM
                obtain ⟨bb, hbb⟩ : ∃ bb, (s && !(isos N t u R.1.abs).isEmpty) = bb := ⟨_, rfl⟩
                simp only [hbb] at hI2
                have HB := Hid2.mk hbb
                have HN := Hid2.mk hnew
                have hsb : (sBox bq bs bv)[0]? = some (.func (.func 84) #[] #[.pointer (some ⟨bq, 0, none⟩), .pointer (some ⟨bs, 0, none⟩), .pointer (some ⟨bv, 0, none⟩)]) := rfl
                clear hnew hbb h2 hC hvR hclR humR hlen2
                cases bb with
                | false =>
                  obtain ⟨e1, e2⟩ := step_false (l := l) HS.out HB.out
                  have E1 := Hid2.mk e1
                  have E2 := Hid2.mk e2
                  clear e1 e2
                  go_wp2_with (first | ((with_reducible apply wpM_lda' M 2 113 0 (led (N : Int) t (N : Int) u m fr)); rfl; rfl; rfl; exact ⟨rfl, inf_led.trans (congrArg some (led_size ..).symm), _, und_led, rfl⟩; exact whole_of rfl) | ((with_reducible apply wpM_alloc' M 113 (led0)); rfl; exact ⟨rfl, _, zero_led _, rfl⟩; clear M; (try clear C); intro bn w9 h_bn M; have C := M.ruleAll; simp only [Go.Proofs.YtinjjaoikofkdaaDoor.ruleAll] at C) | ((with_reducible apply wpM_sta' M 0 113 (led (N : Int) t (N : Int) u m fr)); rfl; rfl; rfl; rfl; (first | exact .inl (by assumption) | exact .inr rfl | exact .inr (by assumption)); exact ⟨rfl, inf_led.trans (congrArg some (led_size ..).symm), flat_led _ _ _ _ _ _⟩; (simp only [entCells, List.getElem?_cons_zero, List.getElem?_cons_succ, led_size, led0_size]); clear M; (try clear C); intro w9 M; simp only [List.set_cons_zero, List.set_cons_succ, entBlk, entT, List.getElem?_cons_zero, List.getElem?_cons_succ] at M; have C := M.ruleAll; simp only [Go.Proofs.YtinjjaoikofkdaaDoor.ruleAll] at C) | (go_at_call 85; ((with_reducible refine (hP _ _ (M.box 0 rfl)).mono ?_); rintro e w3 ⟨rfl, hg3, fr9, hfr9, hb9⟩; have hsz := M.size; have M9 := M.wrote 0 rfl (.inl h_bn) hg3 hb9; clear M; (try clear C); have M := M9; clear M9; (try simp only [List.set_cons_zero, List.set_cons_succ] at M); have C := M.ruleAll; simp only [Go.Proofs.YtinjjaoikofkdaaDoor.ruleAll] at C; clear hg3 hb9; have hw3 := M.size)) | ((with_reducible apply wpM_lda' M 0 113 0 (led (N : Int) t (N : Int) u R.1 fr9)); rfl; rfl; rfl; exact ⟨rfl, inf_led.trans (congrArg some (led_size ..).symm), _, und_led, rfl⟩; exact whole_of rfl) | (go_at_call 84; ((with_reducible refine (hI2 fr9 hfr9 _ (M.anew.sub [4, 5, 6, 7] (by decide))).mono ?_); rintro e w4 ⟨rfl, D2, hD1, hD2, hKp⟩; have hsz := M.size; have M9 := M.visit 7 rfl hD1 hD2 hKp (fun j hj h => (HU1.out j h).resolve_right (by omega)); clear M; (try clear C); have M := M9; clear M9; (try simp only [List.set_cons_zero, List.set_cons_succ] at M); have C := M.ruleAll; simp only [Go.Proofs.YtinjjaoikofkdaaDoor.ruleAll] at C; clear hD1 hKp)))
                  rw [E1.out] at M
                  go_roundw
                  case rel => exact ⟨y + 1, D2, F ++ isos N t u R.1.abs, by omega, by go_num, by rw [List.range_succ, List.flatMap_append, List.flatMap_singleton, HN.out, HF1.out], E2.out, fun j hj => (hD2 j hj).elim (fun h => HU1.out j h) (fun h => .inr (by omega)), M.drop 0⟩
                  case measure => simp [intOf]; omega
                | true =>
                  obtain ⟨e1, e2⟩ := end_true HE.out HS.out HB.out
                  have E1 := Hid2.mk e1
                  have E2 := Hid2.mk (e2 l)
                  clear e1 e2
                  go_wp2_with (first | ((with_reducible apply wpM_lda' M 2 113 0 (led (N : Int) t (N : Int) u m fr)); rfl; rfl; rfl; exact ⟨rfl, inf_led.trans (congrArg some (led_size ..).symm), _, und_led, rfl⟩; exact whole_of rfl) | ((with_reducible apply wpM_alloc' M 113 (led0)); rfl; exact ⟨rfl, _, zero_led _, rfl⟩; clear M; (try clear C); intro bn w9 h_bn M; have C := M.ruleAll; simp only [Go.Proofs.YtinjjaoikofkdaaDoor.ruleAll] at C) | ((with_reducible apply wpM_sta' M 0 113 (led (N : Int) t (N : Int) u m fr)); rfl; rfl; rfl; rfl; (first | exact .inl (by assumption) | exact .inr rfl | exact .inr (by assumption)); exact ⟨rfl, inf_led.trans (congrArg some (led_size ..).symm), flat_led _ _ _ _ _ _⟩; (simp only [entCells, List.getElem?_cons_zero, List.getElem?_cons_succ, led_size, led0_size]); clear M; (try clear C); intro w9 M; simp only [List.set_cons_zero, List.set_cons_succ, entBlk, entT, List.getElem?_cons_zero, List.getElem?_cons_succ] at M; have C := M.ruleAll; simp only [Go.Proofs.YtinjjaoikofkdaaDoor.ruleAll] at C) | (go_at_call 85; ((with_reducible refine (hP _ _ (M.box 0 rfl)).mono ?_); rintro e w3 ⟨rfl, hg3, fr9, hfr9, hb9⟩; have hsz := M.size; have M9 := M.wrote 0 rfl (.inl h_bn) hg3 hb9; clear M; (try clear C); have M := M9; clear M9; (try simp only [List.set_cons_zero, List.set_cons_succ] at M); have C := M.ruleAll; simp only [Go.Proofs.YtinjjaoikofkdaaDoor.ruleAll] at C; clear hg3 hb9; have hw3 := M.size)) | ((with_reducible apply wpM_lda' M 0 113 0 (led (N : Int) t (N : Int) u R.1 fr9)); rfl; rfl; rfl; exact ⟨rfl, inf_led.trans (congrArg some (led_size ..).symm), _, und_led, rfl⟩; exact whole_of rfl) | (go_at_call 84; ((with_reducible refine (hI2 fr9 hfr9 _ (M.anew.sub [4, 5, 6, 7] (by decide))).mono ?_); rintro e w4 ⟨rfl, D2, hD1, hD2, hKp⟩; have hsz := M.size; have M9 := M.visit 7 rfl hD1 hD2 hKp (fun j hj h => (HU1.out j h).resolve_right (by omega)); clear M; (try clear C); have M := M9; clear M9; (try simp only [List.set_cons_zero, List.set_cons_succ] at M); have C := M.ruleAll; simp only [Go.Proofs.YtinjjaoikofkdaaDoor.ruleAll] at C; clear hD1 hKp)))
                  go_ret
                  exact ⟨by rw [E1.out]; rfl, D2, by rw [← E2.out]; exact M.at_ 7 rfl, fun j hj => (hD2 j hj).elim (fun h => HU1.out j h) (fun h => .inr (by omega)), M.kept⟩
            · obtain rfl : y = N := by omega
              obtain ⟨e1, e2⟩ := end_all (l := l) (HI.out.trans HF1.out.symm) HS.out
              have E1 := Hid2.mk e1
              have E2 := Hid2.mk e2
              clear e1 e2
              have hge : ¬ ((y : Int) < (y : Int)) := by omega
              go_wp2
              go_ret
              exact ⟨by rw [E1.out]; rfl, D', by rw [← E2.out]; exact M.at_ 6 rfl, HU1.out, M.kept⟩
        · obtain ⟨v, hv'⟩ : ∃ v : Nat, m.to k = v := ⟨(m.to k).toNat, by omega⟩
          have hvN : v < N := by have := hv.lt k hlt; omega
          have htc : toC m k = (v : Int) := by unfold toC; rw [if_neg hmk, hv']
          have hv255 : ¬ ((v : Int) = 255) := by omega
          rw [htc] at c1
          clear htc
          have h0k : 0 ≤ m.to k := by omega
          clear hv'
          go_wp2
          go_roundw
          case rel => exact ⟨k + 1, by omega, by go_num, fun z hz => by
            by_cases e : z = k
            · subst e; exact h0k
            · exact HZ.out z (by omega), M⟩
          case measure => simp [intOf]; omega
      · obtain rfl : k = N := by omega
        have hI := isos_full HT.out hv hcl (um_all HZ.out)
        have hlw : l.length < most := by
          rw [hI] at hlen
          have : (res s [wordOf k m.abs]).length = 1 := by cases s <;> rfl
          omega
        have hVp := fun w1 h => HV.out.2 l (wordOf k m.abs) D w1 h hlw
        rw [bys_word m h1] at hVp
        have hcp := copy_to (t := t) (u := u) (fr := fr) HZ.out
        have hge : ¬ ((k : Int) < (k : Int)) := by omega
        have so := sqs_order (k : Int) t
        have hbd := build_plc
        go_wp2_with (first | ((with_reducible apply wpM_alloc' M 52 (bys fun _ => 0)); rfl; exact ⟨rfl, _, zero_plc _, rfl⟩; clear M; (try clear C); intro bp w9 h_bp M; have C := M.ruleAll; simp only [Go.Proofs.YtinjjaoikofkdaaDoor.ruleAll] at C) | ((with_reducible apply wpM_sta' M 0 52 (bys fun _ => 0)); rfl; rfl; rfl; rfl; (first | exact .inl (by assumption) | exact .inr rfl | exact .inr (by assumption)); exact ⟨rfl, inf_plc.trans (congrArg some (bys_size ..).symm), flat_bys _⟩; (simp only [entCells, List.getElem?_cons_zero, List.getElem?_cons_succ, bys_size, bys_size]); clear M; (try clear C); intro w9 M; simp only [List.set_cons_zero, List.set_cons_succ, entBlk, entT, List.getElem?_cons_zero, List.getElem?_cons_succ] at M; have C := M.ruleAll; simp only [Go.Proofs.YtinjjaoikofkdaaDoor.ruleAll] at C))
        have hsl := fun b w1 => slice_hi k b h1 w1
        apply wp_region_mm M 5 (by kernel_rfl) (by kernel_rfl); (simp only [List.take_succ_cons, List.take_zero]; repeat (first | exact wpText_nil | (apply wpText_cons; (intro w2 M; have C := M.ruleAll; simp only [Go.Proofs.YtinjjaoikofkdaaDoor.ruleAll] at C; go_wp2; exact ⟨rfl, rfl, M⟩); rfl))); (clear M; (try clear C); intro w2 M; simp only [List.drop_succ_cons, List.drop_zero]; have C := M.ruleAll; simp only [Go.Proofs.YtinjjaoikofkdaaDoor.ruleAll] at C)
        have hent := HV.out.1
        go_wp2_with (first | ((with_reducible apply wpM_copy' M 0 2 0 202 k 10 10 10 k (bys (plTo m k))); exact rfl; rfl; rfl; rfl; rfl; (simp only [Nat.min_def]; split <;> omega); exact .inl (by assumption); rfl; exact und_sl8; kernel_rfl; (refine Nat.le_trans ?_ (Nat.le_of_eq (bys_size ..).symm); omega); (refine Nat.le_trans ?_ (Nat.le_of_eq (led_size ..).symm); omega); exact flat_led _ _ _ _ _ _; exact Eq.trans (bys_size ..) (bys_size ..).symm; exact hcp; clear M; (try clear C); intro w9 M; simp only [List.set_cons_zero, List.set_cons_succ, entBlk, entT, List.getElem?_cons_zero] at M; have C := M.ruleAll; simp only [Go.Proofs.YtinjjaoikofkdaaDoor.ruleAll] at C) | ((with_reducible apply wpM_lda' M 0 52 0 (bys (plTo m k))); rfl; rfl; rfl; exact ⟨rfl, inf_plc.trans (congrArg some (bys_size ..).symm), _, und_plc, rfl⟩; exact whole_of rfl))
        refine (hVp _ (M.at_ 6 rfl)).mono ?_
        rintro e w1 ⟨rfl, D', hD1, hD2, hK⟩
        have hw9 := M.size
        have M9 := M.visit 6 rfl hD1 hD2 hK (fun _ _ h => h)
        clear M; (try clear C)
        go_wp2
        go_ret
        rw [hI]
        refine ⟨by cases s <;> rfl, D', ?_, fun j hj => (hD2 j hj).imp id fun h => by omega, M9.kept⟩
        cases s <;> exact hD1
end Go.Proofs.YtinjjaoikofkdaaDoor

/- The program's visit of all isomorphisms: a contract. -/
namespace Go.Proofs.YtinjjaoikofkdaaDoor
set_option linter.unusedSimpArgs false
set_option linter.unusedVariables false
open Go Go.RowKit

/-- All isomorphisms of two squares. -/
noncomputable def isoAll (N K : Nat) (t u : Nat → Nat → Nat) : List (List Nat) := if N = K then isos N t u fun _ => none else []
/-- What a part is as it is made, k places along. -/
def mkTo (k : Nat) : PM := ⟨fun i => if i < k then -1 else 0, fun i => if i < k then 0 else 1, 0⟩
theorem build_led (n : Int) (t : Nat → Nat → Nat) (k : Int) (u : Nat → Nat → Nat) (w : World) : (Instr.build 113 #[(0, .agg (sqs n t)), (1, .agg (sqs k u))]).run Tryd.prog w = .ok (.agg (led n t k u (mkTo 0) fun _ => 0)) w := by kernel_rfl
theorem zero_sfn (w : World) : (zeroValue 114).run Tryd.prog w = .ok .nilFunc w := by kernel_rfl
set_option maxRecDepth 4000 in
theorem led_init {n k : Int} {t u : Nat → Nat → Nat} {j : Nat} (hj : j < 10) : ((led n t k u (mkTo j) fun _ => 0).setIfInBounds (202 + j) (.int .u8 255)).setIfInBounds (212 + j) (.int .u8 255) = led n t k u (mkTo (j + 1)) fun _ => 0 := by
  unfold led
  rw [tab_set, tab_set]
  refine tab_ext fun i hi => ?_
  by_cases h1 : i = 212 + j
  · subst h1
    rw [if_pos rfl, if_neg (by omega), if_neg (by omega), if_neg (by omega), Nat.add_sub_cancel_left]
    simp [frC, mkTo]
  · rw [if_neg h1]
    by_cases h2 : i = 202 + j
    · subst h2
      rw [if_pos rfl, if_neg (by omega), if_neg (by omega), if_pos (by omega), Nat.add_sub_cancel_left]
      simp [toC, mkTo]
    · rw [if_neg h2]
      by_cases a : i < 101
      · exact (if_pos a).trans (if_pos a).symm
      · refine (if_neg a).trans (Eq.trans ?_ (if_neg a).symm)
        by_cases b : i < 202
        · exact (if_pos b).trans (if_pos b).symm
        · refine (if_neg b).trans (Eq.trans ?_ (if_neg b).symm)
          by_cases c : i < 212
          · refine (if_pos c).trans (Eq.trans ?_ (if_pos c).symm)
            have e : toC (mkTo j) (i - 202) = toC (mkTo (j + 1)) (i - 202) := by
              unfold toC mkTo
              by_cases h : i - 202 < j
              · simp [h, show i - 202 < j + 1 by omega]
              · simp [h, show ¬ i - 202 < j + 1 by omega]
            rw [e]
          · refine (if_neg c).trans (Eq.trans ?_ (if_neg c).symm)
            have e : frC (mkTo j) (fun _ => 0) (i - 212) = frC (mkTo (j + 1)) (fun _ => 0) (i - 212) := by
              unfold frC mkTo
              by_cases h : i - 212 < j
              · simp [h, show i - 212 < j + 1 by omega]
              · simp [h, show ¬ i - 212 < j + 1 by omega]
            rw [e]
set_option maxRecDepth 4000 in
theorem led_start {n k : Int} {t u : Nat → Nat → Nat} : (led n t k u (mkTo 10) fun _ => 0) = led n t k u PM.zero fun _ => 0 := by
  unfold led
  refine tab_ext fun i hi => ?_
  by_cases a : i < 101
  · exact (if_pos a).trans (if_pos a).symm
  · refine (if_neg a).trans (Eq.trans ?_ (if_neg a).symm)
    by_cases b : i < 202
    · exact (if_pos b).trans (if_pos b).symm
    · refine (if_neg b).trans (Eq.trans ?_ (if_neg b).symm)
      by_cases c : i < 212
      · refine (if_pos c).trans (Eq.trans ?_ (if_pos c).symm)
        have e : i - 202 < 10 := by omega
        simp [toC, mkTo, PM.zero, e]
      · refine (if_neg c).trans (Eq.trans ?_ (if_neg c).symm)
        have e : i - 212 < 10 := by omega
        simp [frC, mkTo, PM.zero, e]

/-- What a visit gives. -/
def Visited (V : List (List Nat) → (Nat → Prop) → World → Prop) (l : List (List Nat)) (D : Nat → Prop) (w : World) (e : Ending) (w' : World) : Prop :=
  e = .returned (.tuple #[]) ∧ ∃ D', (Ent.res D' (V l D')).holds w' ∧ (∀ k, D' k → D k ∨ w.heap.size ≤ k) ∧ Kept D w w'

set_option maxRecDepth 100000 in
set_option maxHeartbeats 2000000 in
theorem isomorphisms_any (N K : Nat) (t u : Nat → Nat → Nat) (s : Bool) (f : Nat) (cap : Array Value) (V : List (List Nat) → (Nat → Prop) → World → Prop) (most : Nat) (D : Nat → Prop) (w : World) (hV : Visits s f cap V most) (h0 : 1 ≤ N) (h1 : N ≤ 10)
    (ht : ∀ x y : Nat, x < N → y < N → t x y < N) (hu : ∀ x y : Nat, x < K → y < K → u x y < K) (hD : (Ent.res D (V [] D)).holds w) (hmost : (res s (isoAll N K t u)).length ≤ most) :
    Calls Tryd.prog 74 #[.agg (sqs (N : Int) t), .agg (sqs (K : Int) u), .func (.func f) #[] cap] w (Visited V (res s (isoAll N K t u)) D w) := by
  have M := (Mm.start D w).add hD fun _ h => by cases h
  have HV := Hid2.mk hV
  have so1 := sqs_order (N : Int) t
  have so2 := sqs_order (K : Int) u
  have hmf : ∀ (fn : Fn) (first cap : Array Value) (w : World), (Instr.makeFunc fn first cap).run Tryd.prog w = .ok (.func fn first cap) w := fun _ _ _ _ => rfl
  clear hV hD
  by_cases hNK : N = K
  · subst hNK
    have hS := fun w1 bq bs bv hM => search_any N t u s f cap V most HV.out h0 h1 ht hu (N + 1) PM.zero (fun _ => 0) [] w1 D bq bs bv (zero_va N) (zero_cl N t u) (by have := um_le PM.zero.to N; omega) (fun _ => by omega) (by
      rw [isoAll, if_pos rfl] at hmost
      simpa [PM.zero, zero_abs] using hmost) hM
    have HS := Hid2.mk hS
    clear hS ht hu hmost
    go_enter Tryd.func74, Tryd.ntmps74
    go_wp2_with (first | ((with_reducible apply wpM_box' M 36 (sqs (N : Int) t)); rfl; exact ⟨rfl, rfl⟩; clear M; (try clear C); intro bq w9 h_bq M; have C := M.ruleAll; simp only [Go.Proofs.YtinjjaoikofkdaaDoor.ruleAll] at C) | ((with_reducible apply wpM_box' M 36 (sqs (N : Int) u)); rfl; exact ⟨rfl, rfl⟩; clear M; (try clear C); intro br w9 h_br M; have C := M.ruleAll; simp only [Go.Proofs.YtinjjaoikofkdaaDoor.ruleAll] at C) | ((with_reducible apply wpM_box' M 102 (#[.func (.func f) #[] cap])); rfl; exact ⟨rfl, rfl⟩; clear M; (try clear C); intro bv w9 h_bv M; have C := M.ruleAll; simp only [Go.Proofs.YtinjjaoikofkdaaDoor.ruleAll] at C) | ((with_reducible apply wpM_lda' M 2 36 0 (sqs (N : Int) t)); rfl; rfl; rfl; exact ⟨rfl, inf_sqs.trans (congrArg some (sqs_size ..).symm), _, und_sqs, rfl⟩; exact whole_of rfl) | ((with_reducible apply wpM_lda' M 1 36 0 (sqs (N : Int) u)); rfl; rfl; rfl; exact ⟨rfl, inf_sqs.trans (congrArg some (sqs_size ..).symm), _, und_sqs, rfl⟩; exact whole_of rfl) | (refine wpList_build 113 _ rfl rfl [(0, .agg (sqs (N : Int) t)), (1, .agg (sqs (N : Int) u))] rfl _ (build_led _ _ _ _ _) ?_) | ((with_reducible apply wpM_alloc' M 113 (led0)); rfl; exact ⟨rfl, _, zero_led _, rfl⟩; clear M; (try clear C); intro bl w9 h_bl M; have C := M.ruleAll; simp only [Go.Proofs.YtinjjaoikofkdaaDoor.ruleAll] at C) | ((with_reducible apply wpM_sta' M 0 113 (led (N : Int) t (N : Int) u (mkTo 0) fun _ => 0)); rfl; rfl; rfl; rfl; (first | exact .inl (by assumption) | exact .inr rfl | exact .inr (by assumption)); exact ⟨rfl, inf_led.trans (congrArg some (led_size ..).symm), flat_led _ _ _ _ _ _⟩; (simp only [entCells, List.getElem?_cons_zero, List.getElem?_cons_succ, led_size, led0_size]); clear M; (try clear C); intro w9 M; simp only [List.set_cons_zero, List.set_cons_succ, entBlk, entT, List.getElem?_cons_zero, List.getElem?_cons_succ] at M; have C := M.ruleAll; simp only [Go.Proofs.YtinjjaoikofkdaaDoor.ruleAll] at C))
    clear so1 so2
    go_loopw [7, 17] (fun _ i wr => ∃ k : Nat, k ≤ 10 ∧ i = .int .i64 (k : Int) ∧ Mm D w wr [.box bl (led (N : Int) t (N : Int) u (mkTo k) fun _ => 0) 113, .box bv #[.func (.func f) #[] cap] 102, .box br (sqs (N : Int) u) 36, .box bq (sqs (N : Int) t) 36, .res D (V [] D)]) (fun _ i _ => 10 - (intOf i).toNat)
    case atStart => exact ⟨0, by omega, rfl, M⟩
    case round =>
      obtain ⟨k, hk, rfl, M9⟩ := hrel
      clear M; (try clear C)
      have M := M9
      clear M9
      have C := M.ruleAll; simp only [Go.Proofs.YtinjjaoikofkdaaDoor.ruleAll] at C
      by_cases hlt : k < 10
      · have hlt' : (k : Int) < 10 := by omega
        go_wp2_with (first | ((with_reducible apply wpM_st' M 0 5 (202 + k) ((led (N : Int) t (N : Int) u (mkTo k) fun _ => 0).setIfInBounds (202 + k) (.int .u8 255))); rfl; rfl; rfl; (first | exact .inl (by assumption) | exact .inr rfl | exact .inr (by assumption)); exact ⟨rfl, rfl, by kernel_rfl⟩; (exact Nat.lt_of_lt_of_eq (by omega) (led_size ..).symm); exact rfl; clear M; (try clear C); intro w9 M; simp only [List.set_cons_zero, List.set_cons_succ, entBlk, entT, List.getElem?_cons_zero, List.getElem?_cons_succ] at M; have C := M.ruleAll; simp only [Go.Proofs.YtinjjaoikofkdaaDoor.ruleAll] at C) | ((with_reducible apply wpM_st' M 0 5 (212 + k) (led (N : Int) t (N : Int) u (mkTo (k + 1)) fun _ => 0)); rfl; rfl; rfl; (first | exact .inl (by assumption) | exact .inr rfl | exact .inr (by assumption)); exact ⟨rfl, rfl, by kernel_rfl⟩; (exact Nat.lt_of_lt_of_eq (by omega) (Eq.trans (Array.size_setIfInBounds ..) (led_size ..)).symm); exact led_init hlt; clear M; (try clear C); intro w9 M; simp only [List.set_cons_zero, List.set_cons_succ, entBlk, entT, List.getElem?_cons_zero, List.getElem?_cons_succ] at M; have C := M.ruleAll; simp only [Go.Proofs.YtinjjaoikofkdaaDoor.ruleAll] at C))
        go_roundw
        case rel => exact ⟨k + 1, by omega, by go_num, M⟩
        case measure => simp [intOf]; omega
      · obtain rfl : k = 10 := by omega
        rw [led_start] at M
        have hsb : ∀ bs, (sBox bq bs bv)[0]? = some (.func (.func 84) #[] #[.pointer (some ⟨bq, 0, none⟩), .pointer (some ⟨bs, 0, none⟩), .pointer (some ⟨bv, 0, none⟩)]) := fun _ => rfl
        go_wp2_with (first | ((with_reducible apply wpM_alloc' M 114 (#[.nilFunc])); rfl; exact ⟨rfl, _, zero_sfn _, rfl⟩; clear M; (try clear C); intro bs w9 h_bs M; have C := M.ruleAll; simp only [Go.Proofs.YtinjjaoikofkdaaDoor.ruleAll] at C) | ((with_reducible apply wpM_st' M 0 114 (0) (sBox bq bs bv)); rfl; rfl; rfl; (first | exact .inl (by assumption) | exact .inr rfl | exact .inr (by assumption)); exact ⟨rfl, rfl, by kernel_rfl⟩; exact Nat.zero_lt_one; exact rfl; clear M; (try clear C); intro w9 M; simp only [List.set_cons_zero, List.set_cons_succ, entBlk, entT, List.getElem?_cons_zero, List.getElem?_cons_succ] at M; have C := M.ruleAll; simp only [Go.Proofs.YtinjjaoikofkdaaDoor.ruleAll] at C) | ((with_reducible apply wpM_lda' M 1 113 0 (led (N : Int) t (N : Int) u PM.zero fun _ => 0)); rfl; rfl; rfl; exact ⟨rfl, inf_led.trans (congrArg some (led_size ..).symm), _, und_led, rfl⟩; exact whole_of rfl) | (go_at_call 84; ((with_reducible refine (HS.out _ bq bs bv (M.anew.sub [4, 0, 2, 5] (by decide))).mono ?_); rintro e w4 ⟨rfl, D2, hD1, hD2, hKp⟩; have hsz := M.size; have M9 := M.visit 5 rfl hD1 hD2 hKp (fun _ _ h => h); clear M; (try clear C); have M := M9; clear M9; (try simp only [List.set_cons_zero, List.set_cons_succ] at M); have C := M.ruleAll; simp only [Go.Proofs.YtinjjaoikofkdaaDoor.ruleAll] at C; clear hKp)))
        go_end0
        rw [isoAll, if_pos rfl]
        exact ⟨rfl, D2, M.at_ 5 rfl, fun j hj => (hD2 j hj).imp id fun h => by omega, M.kept⟩
  · have hNK' : ¬ ((N : Int) = (K : Int)) := by omega
    rw [isoAll, if_neg hNK]
    go_enter Tryd.func74, Tryd.ntmps74
    go_wp2_with (first | ((with_reducible apply wpM_box' M 36 (sqs (N : Int) t)); rfl; exact ⟨rfl, rfl⟩; clear M; (try clear C); intro bq w9 h_bq M; have C := M.ruleAll; simp only [Go.Proofs.YtinjjaoikofkdaaDoor.ruleAll] at C) | ((with_reducible apply wpM_box' M 36 (sqs (K : Int) u)); rfl; exact ⟨rfl, rfl⟩; clear M; (try clear C); intro br w9 h_br M; have C := M.ruleAll; simp only [Go.Proofs.YtinjjaoikofkdaaDoor.ruleAll] at C) | ((with_reducible apply wpM_box' M 102 (#[.func (.func f) #[] cap])); rfl; exact ⟨rfl, rfl⟩; clear M; (try clear C); intro bv w9 h_bv M; have C := M.ruleAll; simp only [Go.Proofs.YtinjjaoikofkdaaDoor.ruleAll] at C))
    go_end0
    exact ⟨rfl, D, by cases s <;> exact M.at_ 3 rfl, fun j hj => .inl hj, M.kept⟩
end Go.Proofs.YtinjjaoikofkdaaDoor

/- The program's list of all isomorphisms: a contract. -/
namespace Go.Proofs.YtinjjaoikofkdaaDoor
set_option linter.unusedSimpArgs false
set_option linter.unusedVariables false
open Go Go.RowKit

/-- A variable holds a slice with what has been visited. -/
def AllV (bo B : Nat) (l : List (List Nat)) (D : Nat → Prop) (w : World) : Prop :=
  ∃ v, blk w bo #[v] 107 ∧ w.ownsRow B 52 10 v l.length (plCells l) ∧ v.ownBlock ≠ some bo ∧ B ≤ w.heap.size ∧ ∀ k, D k ↔ (bo = k ∨ v.ownBlock = some k)
theorem AllV.mk {bo B : Nat} {l : List (List Nat)} {w : World} {v : Value} (h1 : blk w bo #[v] 107) (h2 : w.ownsRow B 52 10 v l.length (plCells l)) (h3 : v.ownBlock ≠ some bo) (hB : B ≤ w.heap.size) :
    (Ent.res (fun k => bo = k ∨ v.ownBlock = some k) (AllV bo B l fun k => bo = k ∨ v.ownBlock = some k)).holds w :=
  ⟨fun k hk => by
    rcases hk with rfl | hk
    · exact h1.lt
    · exact (h2.lt k hk).2,
   fun E w' hk hd => by
    have a1 : (Ent.box bo #[v] 107).holds w := h1
    have a2 : (Ent.row B v l.length (plCells l) 52 10).holds w := h2
    have b1 := Ent.holds_of a1 hk fun b hb => hd b (.inl hb)
    have b2 := Ent.holds_of a2 hk fun b hb => hd b (.inr hb)
    exact ⟨v, b1, b2, h3, Nat.le_trans hB hk.size, fun _ => Iff.rfl⟩⟩


theorem zero_slp (w : World) : (zeroValue 107).run Tryd.prog w = .ok (.slice none 0 0) w := by kernel_rfl
theorem bsl_plc0 (w : World) : (Instr.buildSlice 107 0 [].toArray).run Tryd.prog w = .ok (.slice (some ⟨w.heap.size, 0, none⟩) 0 0) (w.alloc (.cells #[] 52)) := by kernel_rfl

/-- What the list of all isomorphisms is. -/
def AllList (l : List (List Nat)) (w : World) (e : Ending) (w' : World) : Prop :=
  ∃ v', e = .returned v' ∧ w'.ownsRow w.heap.size 52 10 v' l.length (plCells l) ∧ Below w.heap.size w w'


end Go.Proofs.YtinjjaoikofkdaaDoor

/- Rows of words, read one by one. -/
namespace Go.Proofs.YtinjjaoikofkdaaDoor
set_option linter.unusedSimpArgs false
set_option linter.unusedVariables false
open Go Go.RowKit

/-- A word as a function. -/
def wf (p : List Nat) (i : Nat) : Nat := p.getD i 0
theorem plCells_len : ∀ l : List (List Nat), (plCells l).length = l.length * 10
  | [] => rfl
  | p :: l => by
    have ih := plCells_len l
    unfold plCells at *
    rw [List.flatMap_cons, List.length_append, ih, Array.length_toList, bys_size, List.length_cons]; omega
theorem plCells_get : ∀ (l : List (List Nat)) {k j : Nat} (hk : k < l.length), j < 10 → (plCells l)[k * 10 + j]? = some (.int .u8 (l[k].getD j 0 : Nat))
  | [], _, _, hk, _ => absurd hk (by simp)
  | p :: l, 0, j, hk, hj => by
    unfold plCells
    rw [List.flatMap_cons, List.getElem?_append_left (by rw [Array.length_toList, bys_size]; omega), Array.getElem?_toList, Nat.zero_mul, Nat.zero_add, bys_get hj]
    rfl
  | p :: l, k + 1, j, hk, hj => by
    have ih := plCells_get l (k := k) (j := j) (by simpa using hk) hj
    unfold plCells at *
    rw [List.flatMap_cons, List.getElem?_append_right (by rw [Array.length_toList, bys_size]; omega), Array.length_toList, bys_size, show (k + 1) * 10 + j - 10 = k * 10 + j by omega, ih]
    rfl
theorem plc_cells {w : World} {g : Nat} {P : List (List Nat)} (h : rds w g (P.length * 10) (fun j => (plCells P).getD j undef)) {k : Nat} (hk : k < P.length) : ∀ j v, (bys fun i => P[k].getD i 0)[j]? = some v → w.cell? ⟨g, k * 10 + j, none⟩ = some v := by
  intro j v hv
  obtain ⟨hj, rfl⟩ := tab_get_some hv
  rw [h.at_ (k * 10 + j) (by omega), List.getD_eq_getElem?_getD, plCells_get P hk hj]
  rfl
theorem own_mono {w : World} {base base' e size n : Nat} {v : Value} {xs : List Value} (h : w.ownsRow base e size v n xs) (hb : base' ≤ base) : w.ownsRow base' e size v n xs := by
  rcases h.2 with h2 | ⟨g, cap, cur, h1, h2, h3⟩
  · exact ⟨h.1, .inl h2⟩
  · exact ⟨h.1, .inr ⟨g, cap, cur, h1, Nat.le_trans hb h2, h3⟩⟩
end Go.Proofs.YtinjjaoikofkdaaDoor

/- The program's check of squares: a contract. -/
namespace Go.Proofs.YtinjjaoikofkdaaDoor
set_option linter.unusedSimpArgs false
set_option linter.unusedVariables false
open Go.RowKit

theorem within_b (n lo hi : Int) (b : Bool) (hb : b = true ↔ lo ≤ n ∧ n ≤ hi) (w : World) :
    Calls Tryd.prog 53 #[.int .i64 n, .int .i64 lo, .int .i64 hi] w fun e w' => e = .returned (.bool b) ∧ w = w' := by
  by_cases h1 : lo ≤ n <;> by_cases h2 : n ≤ hi
  all_goals
    have hb' : b = (decide (lo ≤ n) && decide (n ≤ hi)) := by cases b <;> simp_all
    subst hb'
    clear hb
    go_enter Tryd.func53, Tryd.ntmps53
    go_wp2
    go_ret
    exact ⟨by simp [h1, h2], rfl⟩

/-- The rows and columns as far as k are those of a square. -/
structure SqAt (n : Int) (t : Nat → Nat → Nat) (x : Nat) : Prop where
  zero : ∀ y : Nat, y < 10 → (n ≤ (x : Int) ∨ n ≤ (y : Int)) → t x y = 0
  lt : (x : Int) < n → ∀ y : Nat, (y : Int) < n → (t x y : Int) < n ∧ (t y x : Int) < n
  row : (x : Int) < n → ∀ i j : Nat, (i : Int) < n → (j : Int) < n → t x i = t x j → i = j
  col : (x : Int) < n → ∀ i j : Nat, (i : Int) < n → (j : Int) < n → t i x = t j x → i = j
theorem SqAt.all {n : Int} {t : Nat → Nat → Nat} (h1 : 1 ≤ n) (h2 : n ≤ 10) (h : ∀ x, x < 10 → SqAt n t x) : isSq n t = true :=
  isSq_true.2 ⟨h1, h2,
    ⟨fun x hx hxn => ⟨h1, h2, fun y hy hyn => (h x hx).zero y hy (.inr hyn), fun y hy hyn => ((h x hx).lt hxn y hyn).1, fun i j hi hj hin e => by have := (h x hx).row hxn i j hin (by omega) e; omega⟩,
     fun x y hx hy hxn => (h x hx).zero y hy (.inl hxn)⟩,
    ⟨fun x hx hxn => ⟨h1, h2, fun y hy hyn => (h y hy).zero x hx (.inl hyn), fun y hy hyn => ((h x hx).lt hxn y hyn).2, fun i j hi hj hin e => by have := (h x hx).col hxn i j hin (by omega) e; omega⟩,
     fun x y hx hy hxn => (h y hy).zero x hx (.inr hxn)⟩⟩
theorem SqAt.of {n : Int} {t : Nat → Nat → Nat} (h : IsSq n t) {x : Nat} (hx : x < 10) : SqAt n t x where
  zero y hy hxy := by
    rcases Int.lt_or_le (x : Int) n with h1 | h1
    · exact (h.rows.row x hx h1).zero y hy (by omega)
    · exact h.rows.zero x y hx hy h1
  lt hxn y hyn := ⟨(h.rows.row x hx hxn).lt y (by have := h.hi; omega) hyn, (h.cols.row x hx hxn).lt y (by have := h.hi; omega) hyn⟩
  row hxn i j hi hj e := by
    have h1 := (h.rows.row x hx hxn).inj
    have := h.hi
    rcases Nat.lt_trichotomy i j with h2 | h2 | h2
    · exact absurd e.symm (h1 j i (by omega) h2 hj)
    · exact h2
    · exact absurd e (h1 i j (by omega) h2 hi)
  col hxn i j hi hj e := by
    have h1 := (h.cols.row x hx hxn).inj
    have := h.hi
    rcases Nat.lt_trichotomy i j with h2 | h2 | h2
    · exact absurd e.symm (h1 j i (by omega) h2 hj)
    · exact h2
    · exact absurd e (h1 i j (by omega) h2 hi)

set_option maxRecDepth 100000 in
set_option maxHeartbeats 2000000 in
theorem isSquare_any (n : Int) (t : Nat → Nat → Nat) (w : World) (hby : Byt2 t) :
    Calls Tryd.prog 32 #[.agg (sqs n t)] w fun e w' => e = .returned (.bool (isSq n t)) ∧ Below w.heap.size w w' := by
  have b1 := blk_new w (sqs n t) 36 w.heap.size rfl
  have hB : Below w.heap.size w (w.alloc (.cells (sqs n t) 36)) := (Below.refl _ _).alloc (by simp) _
  have so := sqs_order n t
  by_cases hn : 1 ≤ n ∧ n ≤ 10
  · obtain ⟨hn1, hn2⟩ := hn
    go_enter Tryd.func32, Tryd.ntmps32
    go_wp2_with (first | (go_at_call 53; ((with_reducible refine (within_b _ _ _ true (by simp; omega) _).mono ?_); rintro e w1 ⟨rfl, rfl⟩)))
    clear so
    go_loopw [2, 4, 5, 6, 7, 14] (fun _ _ _ _ _ i wr => ∃ k : Nat, k ≤ 10 ∧ i = .int .i64 k ∧ Below w.heap.size w wr ∧ blk wr w.heap.size (sqs n t) 36 ∧ ∀ x : Nat, x < k → SqAt n t x) (fun _ _ _ _ _ i _ => (10 - intOf i).toNat)
    case atStart => exact ⟨0, by omega, rfl, hB, b1, fun _ h => absurd h (by omega)⟩
    case round =>
      obtain ⟨k, hk, rfl, hB2, b2, hx⟩ := hrel
      have HR := Hid2.mk hx
      clear hx b1 hB
      by_cases hlt : k < 10
      · have hd : decide ((k : Int) < 10) = true := by simp; omega
        go_wp2
        obtain ⟨wo, rfl⟩ : ∃ wo : World, wo = wr := ⟨_, rfl⟩
        go_loopw [2, 5, 6, 7, 17] (fun _ r c _ j wr => ∃ l : Nat, l ≤ 10 ∧ j = .int .i64 l ∧ Below w.heap.size w wr ∧ blk wr w.heap.size (sqs n t) 36 ∧
          (∀ y : Nat, y < l → (n ≤ (k : Int) ∨ n ≤ (y : Int)) → t k y = 0) ∧ (∀ y : Nat, y < l → (k : Int) < n → (y : Int) < n → (t k y : Int) < n ∧ (t y k : Int) < n) ∧
          r = .int .i64 (if (k : Int) < n then msk (t k) (min l n.toNat) else 0 : Nat) ∧ c = .int .i64 (if (k : Int) < n then msk (fun x => t x k) (min l n.toNat) else 0 : Nat)) (fun _ _ _ _ j _ => (10 - intOf j).toNat)
        case atStart => exact ⟨0, by omega, rfl, hB2, b2, fun _ h => absurd h (by omega), fun _ h => absurd h (by omega), by simp [msk], by simp [msk]⟩
        case round =>
          obtain ⟨l, hl, rfl, hB3, b3, hz, hr, rfl, rfl⟩ := hrel
          have HZ := Hid2.mk hz
          have HL := Hid2.mk hr
          clear hz hr b2 hB2
          by_cases hlt2 : l < 10
          · have c1 := b3.cell _ _ (sqs_get (n := n) (t := t) (x := k) (y := l) hlt hlt2)
            have c2 := b3.cell _ _ (sqs_get (n := n) (t := t) (x := l) (y := k) hlt2 hlt)
            have h256 := hby.at_ k l hlt hlt2
            have h256' := hby.at_ l k hlt2 hlt
            by_cases hkn : (k : Int) < n
            · by_cases hln : (l : Int) < n
              · by_cases h1 : (t k l : Int) < n
                · by_cases h2 : (t l k : Int) < n
                  · as_aux_lemma =>
                      go_wp2
                      go_roundw
                      case rel =>
                        refine ⟨l + 1, by omega, by go_num, hB3, b3, fun y hy hyn => ?_, fun y hy hkn' hyn => ?_, ?_, ?_⟩
                        · exact absurd hyn (by omega)
                        · by_cases e : y = l
                          · subst e; exact ⟨h1, h2⟩
                          · exact HL.out y (by omega) hkn' hyn
                        · rw [if_pos hkn, msk_step (N := n.toNat) (by omega) (by omega) (fun i hi => ?_)]
                          by_cases e : i = l
                          · subst e; omega
                          · have := (HL.out i (by omega) hkn (by omega)).1; omega
                        · rw [if_pos hkn, msk_step (f := fun x => t x k) (N := n.toNat) (by omega) (by omega) (fun i hi => ?_)]
                          by_cases e : i = l
                          · subst e; omega
                          · have := (HL.out i (by omega) hkn (by omega)).2; omega
                      case measure => simp [intOf]; omega
                  · have hF : isSq n t = false := isSq_false.2 fun h => h2 ((SqAt.of h hlt).lt hkn l hln).2
                    as_aux_lemma =>
                      go_wp2
                      go_ret
                      exact ⟨by first | rfl | exact ret_b hF, hB3⟩
                · have hF : isSq n t = false := isSq_false.2 fun h => h1 ((SqAt.of h hlt).lt hkn l hln).1
                  as_aux_lemma =>
                    go_wp2
                    go_ret
                    exact ⟨by first | rfl | exact ret_b hF, hB3⟩
              · have g1 : decide (n ≤ (k : Int)) = false := by simp; omega
                have g2 : decide (n ≤ (l : Int)) = true := by simp; omega
                by_cases hz : t k l = 0
                · as_aux_lemma =>
                    go_wp2
                    go_roundw
                    case rel =>
                      refine ⟨l + 1, by omega, by go_num, hB3, b3, fun y hy hyn => ?_, fun y hy hkn' hyn => ?_, ?_, ?_⟩
                      · by_cases e : y = l
                        · subst e; exact hz
                        · exact HZ.out y (by omega) hyn
                      · exact HL.out y (by omega) hkn' hyn
                      · rw [show min (l + 1) n.toNat = min l n.toNat by omega, if_pos hkn]
                      · rw [show min (l + 1) n.toNat = min l n.toNat by omega, if_pos hkn]
                    case measure => simp [intOf]; omega
                · have hF : isSq n t = false := isSq_false.2 fun h => hz ((SqAt.of h hlt).zero l hlt2 (.inr (by omega)))
                  as_aux_lemma =>
                    go_wp2
                    go_ret
                    exact ⟨by first | rfl | exact ret_b hF, hB3⟩
            · have g1 : decide (n ≤ (k : Int)) = true := by simp; omega
              by_cases hz : t k l = 0
              · as_aux_lemma =>
                  go_wp2
                  go_roundw
                  case rel =>
                    refine ⟨l + 1, by omega, by go_num, hB3, b3, fun y hy hyn => ?_, fun y hy hkn' hyn => ?_, ?_, ?_⟩
                    · by_cases e : y = l
                      · subst e; exact hz
                      · exact HZ.out y (by omega) hyn
                    · exact absurd hkn' hkn
                    · simp [hkn]
                    · simp [hkn]
                  case measure => simp [intOf]; omega
              · have hF : isSq n t = false := isSq_false.2 fun h => hz ((SqAt.of h hlt).zero l hlt2 (.inl (by omega)))
                as_aux_lemma =>
                  go_wp2
                  go_ret
                  exact ⟨by first | rfl | exact ret_b hF, hB3⟩
          · obtain rfl : l = 10 := by omega
            rw [show min 10 n.toNat = n.toNat by omega]
            by_cases hkn : (k : Int) < n
            · rw [if_pos hkn, if_pos hkn]
              have hm1 := msk_full (t k) n.toNat (fun i hi => by have := (HL.out i (by omega) hkn (by omega)).1; omega)
              have hm2 := msk_full (fun x => t x k) n.toNat (fun i hi => by have := (HL.out i (by omega) hkn (by omega)).2; omega)
              have M1 := Hid2.mk hm1
              have M2 := Hid2.mk hm2
              clear hm1 hm2
              generalize msk (t k) n.toNat = m1 at M1 ⊢
              generalize msk (fun x => t x k) n.toNat = m2 at M2 ⊢
              have f64 := full64 (N := n.toNat) (by omega)
              obtain ⟨X, hX⟩ : ∃ X : Int, wrap64 (wrap64 (2 ^ n.toNat) - 1) = X := ⟨_, rfl⟩
              rw [hX] at f64
              have F64 := Hid2.mk f64
              clear f64
              by_cases e1 : (m1 : Int) = X
              · by_cases e2 : (m2 : Int) = X
                · as_aux_lemma =>
                    go_wp2
                    go_roundw
                    case rel =>
                      refine ⟨k + 1, by omega, by go_num, hB3, b3, fun x hx => ?_⟩
                      by_cases e : x = k
                      · subst e
                        have i1 := M1.out.1 (by have := F64.out; omega)
                        have i2 := M2.out.1 (by have := F64.out; omega)
                        exact ⟨fun y hy => HZ.out y hy, fun _ y hy => HL.out y (by omega) hkn hy, fun _ i j hi hj h => i1 i j (by omega) (by omega) h, fun _ i j hi hj h => i2 i j (by omega) (by omega) h⟩
                      · exact HR.out x (by omega)
                    case measure => simp [intOf]; omega
                · have hF : isSq n t = false := isSq_false.2 fun h => e2 (by
                    have := M2.out.2 fun i j hi hj h' => (SqAt.of h hlt).col hkn i j (by omega) (by omega) h'
                    rw [F64.out, this])
                  as_aux_lemma =>
                    go_wp2
                    go_ret
                    exact ⟨by first | rfl | exact ret_b hF, hB3⟩
              · have hF : isSq n t = false := isSq_false.2 fun h => e1 (by
                  have := M1.out.2 fun i j hi hj h' => (SqAt.of h hlt).row hkn i j (by omega) (by omega) h'
                  rw [F64.out, this])
                go_wp2
                go_ret
                exact ⟨by first | rfl | exact ret_b hF, hB3⟩
            · rw [if_neg hkn, if_neg hkn]
              as_aux_lemma =>
                go_wp2
                go_roundw
                case rel =>
                  refine ⟨k + 1, by omega, by go_num, hB3, b3, fun x hx => ?_⟩
                  by_cases e : x = k
                  · subst e
                    exact ⟨fun y hy => HZ.out y hy, fun h => absurd h hkn, fun h => absurd h hkn, fun h => absurd h hkn⟩
                  · exact HR.out x (by omega)
                case measure => simp [intOf]; omega
      · have hT := SqAt.all hn1 hn2 fun x hx => HR.out x (by omega)
        as_aux_lemma =>
          go_wp2
          go_ret
          exact ⟨by first | rfl | exact ret_b hT, hB2⟩
  · have hF : isSq n t = false := isSq_false.2 fun h => hn ⟨h.lo, h.hi⟩
    go_enter Tryd.func32, Tryd.ntmps32
    as_aux_lemma =>
      go_wp2_with (first | (go_at_call 53; ((with_reducible refine (within_b _ _ _ false (by simp; omega) _).mono ?_); rintro e w1 ⟨rfl, rfl⟩)))
      go_ret
      exact ⟨by first | rfl | exact ret_b hF, hB⟩
end Go.Proofs.YtinjjaoikofkdaaDoor

/- The reference's checks of permutations, squares and loops: contracts. -/
namespace Go.Proofs.YtinjjaoikofkdaaDoor
set_option linter.unusedSimpArgs false
set_option linter.unusedVariables false
open Go.RowKit

theorem zero_b10 (w : World) : (zeroValue 105).run Tryd.prog w = .ok (.agg (bls fun _ => false)) w := by kernel_rfl
theorem und_b10 : Tryd.prog.underlying 105 = some (.array 10 4) := by kernel_rfl
theorem inf_b10 : (Tryd.prog.info? 105).map (·.size) = some 10 := by kernel_rfl
theorem build_b10 (w : World) : (Instr.build 105 #[]).run Tryd.prog w = .ok (.agg (bls fun _ => false)) w := by kernel_rfl

theorem build_tbl (w : World) : (Instr.build 34 #[]).run Tryd.prog w = .ok (.agg (tbs fun _ _ => 0)) w := by kernel_rfl

theorem l01In_b (n lo hi : Int) (b : Bool) (hb : b = true ↔ lo ≤ n ∧ n ≤ hi) (w : World) :
    Calls Tryd.prog 44 #[.int .i64 n, .int .i64 lo, .int .i64 hi] w fun e w' => e = .returned (.bool b) ∧ w = w' := by
  by_cases h1 : lo ≤ n <;> by_cases h2 : n ≤ hi
  all_goals
    have hb' : b = (decide (lo ≤ n) && decide (n ≤ hi)) := by cases b <;> simp_all
    subst hb'
    clear hb
    go_enter Tryd.func44, Tryd.ntmps44
    go_wp2
    go_ret
    exact ⟨by simp [h1, h2], rfl⟩

set_option maxRecDepth 100000 in
set_option maxHeartbeats 1000000 in
theorem l01Perm_any (n : Int) (p : Nat → Nat) (w : World) (hby : Byt p) :
    Calls Tryd.prog 64 #[.agg (bys p), .int .i64 n] w fun e w' => e = .returned (.bool (isPm n p)) ∧ Below w.heap.size w w' := by
  have hz := zero_b10
  have hbd := build_b10
  by_cases hn : 1 ≤ n ∧ n ≤ 10
  · obtain ⟨hn1, hn2⟩ := hn
    go_enter Tryd.func64, Tryd.ntmps64
    go_wp2_with (first | (go_at_call 44; ((with_reducible refine (l01In_b _ _ _ true (by simp; omega) _).mono ?_); rintro e w1 ⟨rfl, rfl⟩)) | (refine wpList_store_row rfl 105 _ _ rfl _ rfl _ rfl inf_b10 _ _ (blk_new _ _ _ _ (by simp)) (by simp [bls_size]) (flat_bls _) ?_))
    clear hz hbd
    go_loopw [4, 6] (fun _ i wr => ∃ k : Nat, k ≤ 10 ∧ i = .int .i64 k ∧ Below w.heap.size w wr ∧ blk wr w.heap.size (bys p) 52 ∧
      ∃ met : Nat → Bool, blk wr (w.heap.size + 1) (bls met) 105 ∧ (∀ v, met v = true ↔ ∃ j, j < k ∧ (j : Int) < n ∧ p j = v) ∧ PmTo n p k) (fun _ i _ => (10 - intOf i).toNat)
    case atStart =>
      refine ⟨0, by omega, rfl, ?_, ?_, _, blk_put (blk_new _ _ _ _ (by simp)) _, ?_, PmTo.start n p⟩
      · exact below_put (((Below.refl _ _).alloc (by simp) _).alloc (by simp) _) (by omega) _ _
      · exact blk_put_other ((blk_new _ _ _ _ rfl).alloc _) (by omega)
      · simp
    case round =>
      obtain ⟨k, hk, rfl, hB, b1, met, b2, hmet, hto⟩ := hrel
      by_cases hlt : k < 10
      · have c1 := b1.cell k _ (bys_get hlt)
        have hb256 := hby.at_ k hlt
        by_cases hn3 : n ≤ (k : Int)
        · by_cases hp : p k = 0
          · go_wp2
            go_roundw
            case rel => exact ⟨k + 1, by omega, by go_num, hB, b1, met, b2, by
              intro v; rw [hmet]
              constructor
              · rintro ⟨j, h1, h2, h3⟩; exact ⟨j, by omega, h2, h3⟩
              · rintro ⟨j, h1, h2, h3⟩; exact ⟨j, by omega, h2, h3⟩, hto.behind hn3 hp⟩
            case measure => simp [intOf]; omega
          · have hf : isPm n p = false := isPm_false.2 fun h => hp (h.zero k hlt hn3)
            go_wp2
            go_ret
            exact ⟨by first | rfl | exact ret_b hf, hB⟩
        · by_cases hp : (p k : Int) < n
          · have c2 := b2.cell (p k) _ (bls_get (by omega))
            have f2 := b2.free (p k)
            cases hm : met (p k) with
            | true =>
              have hf : isPm n p = false := isPm_false.2 fun h => by
                obtain ⟨j, h1, h2, h3⟩ := (hmet _).1 hm
                exact h.inj k j hlt h1 (by omega) h3.symm
              rw [hm] at c2
              go_wp2
              go_ret
              exact ⟨by first | rfl | exact ret_b hf, hB⟩
            | false =>
              rw [hm] at c2
              go_wp2
              go_roundw
              case rel => exact ⟨k + 1, by omega, by go_num, hB.setCell (by simp) _, b1.other _ _ (by omega), _, (b2.set (p k) (.bool true)).eq (bls_set _ _ _), by
                intro v
                split
                · rename_i h; exact ⟨fun _ => ⟨k, by omega, by omega, h.symm⟩, fun _ => rfl⟩
                · rename_i h; rw [hmet]
                  constructor
                  · rintro ⟨j, h1, h2, h3⟩; exact ⟨j, by omega, h2, h3⟩
                  · rintro ⟨j, h1, h2, h3⟩; exact ⟨j, by
                      by_cases e : j = k
                      · subst e; exact absurd h3.symm h
                      · omega, h2, h3⟩, hto.more (by omega) hp fun j hj h => by
                  have := (hmet (p k)).2 ⟨j, hj, by omega, h⟩
                  rw [hm] at this; cases this⟩
              case measure => simp [intOf]; omega
          · have hf : isPm n p = false := isPm_false.2 fun h => hp (h.lt k hlt (by omega))
            go_wp2
            go_ret
            exact ⟨by first | rfl | exact ret_b hf, hB⟩
      · obtain rfl : k = 10 := by omega
        go_wp2
        go_ret
        exact ⟨ret_b (hto.all hn1 hn2), hB⟩
  · have hf : isPm n p = false := isPm_false.2 fun h => hn ⟨h.lo, h.hi⟩
    go_enter Tryd.func64, Tryd.ntmps64
    go_wp2_with (first | (go_at_call 44; ((with_reducible refine (l01In_b _ _ _ false (by simp; omega) _).mono ?_); rintro e w1 ⟨rfl, rfl⟩)))
    go_ret
    exact ⟨ret_b (hf), (Below.refl _ _).alloc (Nat.le_refl _) _⟩

set_option maxRecDepth 100000 in
set_option maxHeartbeats 1000000 in
theorem l01Turned_any (t : Nat → Nat → Nat) (w : World) :
    Calls Tryd.prog 46 #[.agg (tbs t)] w fun e w' => e = .returned (.agg (tbs fun x y => t y x)) ∧ Below w.heap.size w w' := by
  have hz := zero_tbl
  have hbd := build_tbl
  go_enter Tryd.func46, Tryd.ntmps46
  go_wp2_with (first | (refine wpList_store_row rfl 34 _ _ rfl _ rfl _ rfl inf_tbl _ _ (blk_new _ _ _ _ (by simp)) (by simp [tbs_size]) (flat_tbs _) ?_))
  clear hz hbd
  go_loopw [4, 5] (fun i _ wr => ∃ k : Nat, k ≤ 10 ∧ i = .int .i64 k ∧ Below w.heap.size w wr ∧ blk wr w.heap.size (tbs t) 34 ∧ blk wr (w.heap.size + 1) (tbs fun _ _ => 0) 34 ∧
    blk wr (w.heap.size + 1 + 1) (tbs fun x y => if y < k then t y x else 0) 34) (fun i _ _ => (10 - intOf i).toNat)
  case atStart =>
    refine ⟨0, by omega, rfl, ?_, ?_, ?_, ?_⟩
    · exact below_put ((((Below.refl _ _).alloc (by simp) _).alloc (by simp) _).alloc (by simp; omega) _) (by omega) _ _
    · exact blk_put_other (((blk_new _ _ _ _ (by simp)).alloc _).alloc _) (by omega)
    · exact blk_put_other ((blk_new _ _ _ _ (by simp)).alloc _) (by omega)
    · exact blk_put (blk_new _ _ _ _ (by simp)) _
  case round =>
    obtain ⟨k, hk, rfl, hB, b1, b2, b3⟩ := hrel
    by_cases hlt : k < 10
    · have hd : decide ((k : Int) < 10) = true := by simp; omega
      go_wp2
      obtain ⟨wo, rfl⟩ : ∃ wo : World, wo = wr := ⟨_, rfl⟩
      go_loopw [5] (fun j wr => ∃ l : Nat, l ≤ 10 ∧ j = .int .i64 l ∧ Below w.heap.size w wr ∧ blk wr w.heap.size (tbs t) 34 ∧ blk wr (w.heap.size + 1) (tbs fun _ _ => 0) 34 ∧
        blk wr (w.heap.size + 1 + 1) (tbs fun x y => if y < k ∨ y = k ∧ x < l then t y x else 0) 34) (fun j _ => (10 - intOf j).toNat)
      case atStart =>
        exact ⟨0, by omega, rfl, hB, b1, b2, by simpa using b3⟩
      case round =>
        obtain ⟨l, hl, rfl, hB, b1, b2, b3⟩ := hrel
        by_cases hlt2 : l < 10
        · have c1 := b1.cell _ _ (tbs_get hlt hlt2)
          have c3 := b3.cell _ _ (tbs_get hlt2 hlt)
          have f3 := b3.free (l * 10 + k)
          go_wp2
          have hk' : (k : Int) < 10 := by omega
          have hl' : (l : Int) < 10 := by omega
          go_still_tail 9, (by kernel_rfl)
          go_wp2
          go_roundw
          case rel => exact ⟨l + 1, by omega, by go_num, (hB.setCell (by simp; omega) _).drew, (b1.other _ _ (by omega)).drew, (b2.other _ _ (by omega)).drew, (b3.set _ _).drew.eq (by
            rw [tbs_set hlt2 hlt]
            refine tbs_ext fun i j hi hj => ?_
            by_cases h : i = l ∧ j = k
            · obtain ⟨rfl, rfl⟩ := h; simp
            · rw [if_neg h]
              by_cases h2 : j < k ∨ j = k ∧ i < l
              · rw [if_pos h2, if_pos (by omega)]
              · rw [if_neg h2, if_neg (by omega)])⟩
          case measure => simp [intOf]; omega
        · obtain rfl : l = 10 := by omega
          go_wp2
          go_roundw
          case rel => exact ⟨k + 1, by omega, by go_num, hB, b1, b2, b3.eq (by
            refine tbs_ext fun i j hi hj => ?_
            by_cases h2 : j < k ∨ j = k ∧ i < 10
            · rw [if_pos h2, if_pos (by omega)]
            · rw [if_neg h2, if_neg (by omega)])⟩
          case measure => simp [intOf]; omega
    · obtain rfl : k = 10 := by omega
      rw [tbs_ext (u := fun x y => t y x) (fun i j hi hj => by simp [hj])] at b3
      go_wp2_with (first | (refine wpList_load_part rfl 34 _ rfl _ _ rfl (tbs fun x y => t y x) _ und_tbl rfl inf_tbl (cells_of_blk0 b3) ?_) | (refine wpList_store_row rfl 34 _ _ rfl _ rfl _ rfl inf_tbl _ _ (b2) (by simp [tbs_size]) (flat_tbs _) ?_))
      refine bodyPost_ret (v := .agg (tbs fun x y => t y x)) (by exact results_part rfl _ _ _ _ _ _ rfl und_tbl rfl inf_tbl (cells_of_blk0 (blk_put b2 _))) rfl ?_
      exact ⟨rfl, below_put hB (by omega) _ _⟩
end Go.Proofs.YtinjjaoikofkdaaDoor

/- The reference's checks of squares and loops, and what lays a square: contracts. -/
namespace Go.Proofs.YtinjjaoikofkdaaDoor
set_option linter.unusedSimpArgs false
set_option linter.unusedVariables false
open Go.RowKit

/-! ### '==' on ten bytes -/
theorem inf_u8' : (Tryd.prog.info? 5).isSome = true := by kernel_rfl
theorem inf_u8 : ∃ i, Tryd.prog.info? 5 = some i := Option.isSome_iff_exists.1 inf_u8'
theorem und_u8 : Tryd.prog.underlying 5 = some (.int .u8) := by kernel_rfl

/-- Two rows of ten bytes are the same. -/
def eqb (f g : Nat → Nat) : Bool := decide (∀ i ∈ List.range 10, f i = g i)
theorem eqb_true {f g : Nat → Nat} : eqb f g = true ↔ ∀ i, i < 10 → f i = g i := by simp [eqb]

theorem part_u8 (f : Nat → Nat) (i : Nat) (hi : i < 10) (w : World) : (part 5 (bys f) (i * Tryd.prog.cellsOf 5)).run Tryd.prog w = .ok (.int .u8 (f i)) w := by
  have hc : Tryd.prog.cellsOf 5 = 1 := by kernel_rfl
  have ha : (isAgg 5).run Tryd.prog w = .ok false w := by
    unfold isAgg
    rw [Sem.run_bind, run_underlying und_u8 w]
    rfl
  rw [hc, Nat.mul_one]
  unfold part
  rw [Sem.run_bind, ha]
  simp [bys_get hi]

theorem eqItems_bys (d : Nat) (f g : Nat → Nat) (w : World) : ∀ l : List Nat, (∀ i ∈ l, i < 10) →
    (Op.eqItems (d + 1) 5 (Tryd.prog.cellsOf 5) (bys f) (bys g) l).run Tryd.prog w = .ok (decide (∀ i ∈ l, f i = g i)) w
  | [], _ => by simp [Op.eqItems]
  | i :: l, h => by
    have ih := eqItems_bys d f g w l fun j hj => h j (List.mem_cons_of_mem _ hj)
    simp only [Op.eqItems, Sem.run_bind, part_u8 f i (h i List.mem_cons_self) w, part_u8 g i (h i List.mem_cons_self) w, Result.andThen_ok, run_equalIn_int w d 5 .u8 .u8 _ _ und_u8]
    by_cases e : f i = g i
    · have e' : ((f i : Int) == (g i : Int)) = true := by simp [e]
      rw [e']
      simp only [Bool.not_true, Bool.false_eq_true, if_false, ih]
      simp [e]
    · have e' : ((f i : Int) == (g i : Int)) = false := by simp; omega
      rw [e']
      simp [e]

theorem equal_bys (d : Nat) (T : Nat) (hu : Tryd.prog.underlying T = some (.array 10 5)) (f g : Nat → Nat) (w : World) : (Op.equalIn (d + 2) T (.agg (bys f)) (.agg (bys g))).run Tryd.prog w = .ok (eqb f g) w := by
  obtain ⟨i, hi⟩ := inf_u8
  rw [run_equalIn_array w (d + 1) (bys f) (bys g) hu hi, eqItems_bys d f g w _ (by simp)]
  rfl
theorem neq_bys (f g : Nat → Nat) (w : World) : (binOp .neq 32 (.agg (bys f)) (.agg (bys g))).run Tryd.prog w = .ok (.bool (!eqb f g)) w := by
  rw [run_neq_struct, equal_bys 9998 _ und_bys f g w]; rfl
theorem eql_bys (f g : Nat → Nat) (w : World) : (binOp .eql 32 (.agg (bys f)) (.agg (bys g))).run Tryd.prog w = .ok (.bool (eqb f g)) w := by
  rw [run_eql_struct, equal_bys 9998 _ und_bys f g w]; rfl
theorem egt_bys : Tryd.prog.eqGuardType Tryd.prog.depth 32 = false := by kernel_rfl
theorem build_bys (w : World) : (Instr.build 32 #[]).run Tryd.prog w = .ok (.agg (bys fun _ => 0)) w := by kernel_rfl

set_option maxRecDepth 100000 in
set_option maxHeartbeats 1000000 in
theorem l01Rows_any (n : Int) (t : Nat → Nat → Nat) (w : World) (hby : Byt2 t) (hn0 : 1 ≤ n) (hn1 : n ≤ 10) :
    Calls Tryd.prog 45 #[.agg (tbs t), .int .i64 n] w fun e w' => e = .returned (.bool (isRw n t)) ∧ Below w.heap.size w w' := by
  go_enter Tryd.func45, Tryd.ntmps45
  go_wp2
  go_loopw [4, 5] (fun _ i wr => ∃ k : Nat, k ≤ 10 ∧ i = .int .i64 k ∧ Below w.heap.size w wr ∧ blk wr w.heap.size (tbs t) 34 ∧
    (∀ x, x < k → (x : Int) < n → IsPm n (t x)) ∧ (∀ x y, x < k → y < 10 → n ≤ (x : Int) → t x y = 0)) (fun _ i _ => (10 - intOf i).toNat)
  case atStart =>
    exact ⟨0, by omega, rfl, (Below.refl _ _).alloc (by simp) _, blk_new _ _ _ _ rfl, fun _ h => absurd h (by omega), fun _ _ h => absurd h (by omega)⟩
  case round =>
    obtain ⟨k, hk, rfl, hB, b1, hr, hz⟩ := hrel
    have HR := Hid2.mk hr
    have HZ := Hid2.mk hz
    clear hr hz
    by_cases hlt : k < 10
    · by_cases hkn : (k : Int) < n
      · cases hp : isPm n (t k) with
        | true =>
          go_wp2_with (first | (refine wpList_load_part_g 32 _ rfl rfl _ _ rfl (bys (t k)) _ und_bys rfl inf_bys (cells_of_blk b1 _ _ (tbs_row hlt)) ?_) | (go_at_call 64; ((with_reducible refine (l01Perm_any _ _ _ (hby.row hlt)).mono ?_); rintro e w1 ⟨rfl, hb⟩)))
          go_roundw
          case rel =>
            refine ⟨k + 1, by omega, by go_num, below_self hB hb, b1.later hb, fun x hx hxn => ?_, fun x y hx hy hxn => ?_⟩
            · by_cases h : x = k
              · subst h; exact isPm_true.1 hp
              · exact HR.out x (by omega) hxn
            · exact HZ.out x y (by omega) hy hxn
          case measure => simp [intOf]; omega
        | false =>
          have hF : isRw n t = false := isRw_false.2 fun h => by have := isPm_true.2 (h.row k hlt hkn); rw [hp] at this; cases this
          go_wp2_with (first | (refine wpList_load_part_g 32 _ rfl rfl _ _ rfl (bys (t k)) _ und_bys rfl inf_bys (cells_of_blk b1 _ _ (tbs_row hlt)) ?_) | (go_at_call 64; ((with_reducible refine (l01Perm_any _ _ _ (hby.row hlt)).mono ?_); rintro e w1 ⟨rfl, hb⟩)))
          go_ret
          exact ⟨by first | rfl | exact ret_b hF, below_self hB hb⟩
      · cases hp : eqb (t k) (fun _ => 0) with
        | true =>
          go_wp2_with (first | (refine wpList_load_part_g 32 _ rfl rfl _ _ rfl (bys (t k)) _ und_bys rfl inf_bys (cells_of_blk b1 _ _ (tbs_row hlt)) ?_) | (refine wpList_agg_g .neq 32 _ _ _ rfl rfl (bys (t k)) (bys fun _ => 0) rfl rfl egt_bys _ ((neq_bys _ _ _).trans (by rw [hp])) ?_))
          go_roundw
          case rel =>
            refine ⟨k + 1, by omega, by go_num, hB, b1, fun x hx hxn => HR.out x (by omega) hxn, fun x y hx hy hxn => ?_⟩
            by_cases h : x = k
            · subst h; exact eqb_true.1 hp y hy
            · exact HZ.out x y (by omega) hy hxn
          case measure => simp [intOf]; omega
        | false =>
          have hF : isRw n t = false := isRw_false.2 fun h => by
            have : eqb (t k) (fun _ => 0) = true := eqb_true.2 fun y hy => h.zero k y hlt hy (by omega)
            rw [hp] at this; cases this
          go_wp2_with (first | (refine wpList_load_part_g 32 _ rfl rfl _ _ rfl (bys (t k)) _ und_bys rfl inf_bys (cells_of_blk b1 _ _ (tbs_row hlt)) ?_) | (refine wpList_agg_g .neq 32 _ _ _ rfl rfl (bys (t k)) (bys fun _ => 0) rfl rfl egt_bys _ ((neq_bys _ _ _).trans (by rw [hp])) ?_))
          go_ret
          exact ⟨by first | rfl | exact ret_b hF, hB⟩
    · obtain rfl : k = 10 := by omega
      have hT : isRw n t = true := isRw_true.2 ⟨HR.out, HZ.out⟩
      go_wp2
      go_ret
      exact ⟨by first | rfl | exact ret_b hT, hB⟩

set_option maxRecDepth 100000 in
set_option maxHeartbeats 1000000 in
theorem l01Is_any (n : Int) (t : Nat → Nat → Nat) (w : World) (hby : Byt2 t) :
    Calls Tryd.prog 23 #[.agg (sqs n t)] w fun e w' => e = .returned (.bool (isSq n t)) ∧ Below w.heap.size w w' := by
  have b1 := blk_new w (sqs n t) 36 w.heap.size rfl
  have hB : Below w.heap.size w (w.alloc (.cells (sqs n t) 36)) := (Below.refl _ _).alloc (by simp) _
  by_cases hn : 1 ≤ n ∧ n ≤ 10
  · obtain ⟨hn1, hn2⟩ := hn
    cases hr : isRw n t with
    | false =>
      have hF : isSq n t = false := isSq_false.2 fun h => by have := isRw_true.2 h.rows; rw [hr] at this; cases this
      go_enter Tryd.func23, Tryd.ntmps23
      go_wp2
      apply wp_region_text (fun w' => Below w.heap.size w w' ∧ blk w' w.heap.size (sqs n t) 36) (by kernel_rfl) (by kernel_rfl) (⟨hB.drew, b1.drew⟩); (repeat (first | exact wpText_nil | (apply wpText_cons; (intro w2 hS; obtain ⟨hB2, b2⟩ := hS; have c0 := b2.cell 0 _ (sqs_order n t); go_wp2_with (first | (go_at_call 44; ((with_reducible refine (l01In_b _ _ _ true (by simp; omega) _).mono ?_); rintro e w1 ⟨rfl, rfl⟩)) | (refine wpList_load_part_g 34 _ rfl rfl _ _ rfl (tbs t) _ und_tbl rfl inf_tbl (cells_of_blk b2 _ _ sqs_tbs) ?_) | (go_at_call 45; ((with_reducible refine (l01Rows_any n t _ hby hn1 hn2).mono ?_); rintro e w1 ⟨rfl, hb⟩))); (first | exact ⟨rfl, rfl, hB2, b2⟩ | exact ⟨rfl, rfl, below_self hB2 hb, b2.later hb⟩)); rfl)))
      intro w' hS
      go_wp2
      go_ret
      exact ⟨by first | rfl | exact ret_b hF, hS.1⟩
    | true =>
      cases hr2 : isRw n (fun x y => t y x) with
      | false =>
        have hF : isSq n t = false := isSq_false.2 fun h => by have := isRw_true.2 h.cols; rw [hr2] at this; cases this
        go_enter Tryd.func23, Tryd.ntmps23
        go_wp2
        apply wp_region_text (fun w' => Below w.heap.size w w' ∧ blk w' w.heap.size (sqs n t) 36) (by kernel_rfl) (by kernel_rfl) (⟨hB.drew, b1.drew⟩); (repeat (first | exact wpText_nil | (apply wpText_cons; (intro w2 hS; obtain ⟨hB2, b2⟩ := hS; have c0 := b2.cell 0 _ (sqs_order n t); go_wp2_with (first | (go_at_call 44; ((with_reducible refine (l01In_b _ _ _ true (by simp; omega) _).mono ?_); rintro e w1 ⟨rfl, rfl⟩)) | (refine wpList_load_part_g 34 _ rfl rfl _ _ rfl (tbs t) _ und_tbl rfl inf_tbl (cells_of_blk b2 _ _ sqs_tbs) ?_) | (go_at_call 45; ((with_reducible refine (l01Rows_any n t _ hby hn1 hn2).mono ?_); rintro e w1 ⟨rfl, hb⟩)) | (go_at_call 45; ((with_reducible refine (l01Rows_any n (fun x y => t y x) _ hby.turn hn1 hn2).mono ?_); rintro e w1 ⟨rfl, hb⟩)) | (go_at_call 46; ((with_reducible refine (l01Turned_any _ _).mono ?_); rintro e w1 ⟨rfl, hb⟩))); (first | exact ⟨rfl, rfl, hB2, b2⟩ | exact ⟨rfl, rfl, below_self hB2 hb, b2.later hb⟩)); rfl)))
        intro w' hS
        go_wp2
        go_ret
        exact ⟨by first | rfl | exact ret_b hF, hS.1⟩
      | true =>
        have hT : isSq n t = true := isSq_true.2 ⟨hn1, hn2, isRw_true.1 hr, isRw_true.1 hr2⟩
        go_enter Tryd.func23, Tryd.ntmps23
        go_wp2
        apply wp_region_text (fun w' => Below w.heap.size w w' ∧ blk w' w.heap.size (sqs n t) 36) (by kernel_rfl) (by kernel_rfl) (⟨hB.drew, b1.drew⟩); (repeat (first | exact wpText_nil | (apply wpText_cons; (intro w2 hS; obtain ⟨hB2, b2⟩ := hS; have c0 := b2.cell 0 _ (sqs_order n t); go_wp2_with (first | (go_at_call 44; ((with_reducible refine (l01In_b _ _ _ true (by simp; omega) _).mono ?_); rintro e w1 ⟨rfl, rfl⟩)) | (refine wpList_load_part_g 34 _ rfl rfl _ _ rfl (tbs t) _ und_tbl rfl inf_tbl (cells_of_blk b2 _ _ sqs_tbs) ?_) | (go_at_call 45; ((with_reducible refine (l01Rows_any n t _ hby hn1 hn2).mono ?_); rintro e w1 ⟨rfl, hb⟩)) | (go_at_call 45; ((with_reducible refine (l01Rows_any n (fun x y => t y x) _ hby.turn hn1 hn2).mono ?_); rintro e w1 ⟨rfl, hb⟩)) | (go_at_call 46; ((with_reducible refine (l01Turned_any _ _).mono ?_); rintro e w1 ⟨rfl, hb⟩))); (first | exact ⟨rfl, rfl, hB2, b2⟩ | exact ⟨rfl, rfl, below_self hB2 hb, b2.later hb⟩)); rfl)))
        intro w' hS
        go_wp2
        go_ret
        exact ⟨by first | rfl | exact ret_b hT, hS.1⟩
  · have hF : isSq n t = false := isSq_false.2 fun h => hn ⟨h.lo, h.hi⟩
    go_enter Tryd.func23, Tryd.ntmps23
    go_wp2
    apply wp_region_text (fun w' => Below w.heap.size w w' ∧ blk w' w.heap.size (sqs n t) 36) (by kernel_rfl) (by kernel_rfl) (⟨hB.drew, b1.drew⟩); (repeat (first | exact wpText_nil | (apply wpText_cons; (intro w2 hS; obtain ⟨hB2, b2⟩ := hS; have c0 := b2.cell 0 _ (sqs_order n t); go_wp2_with (first | (go_at_call 44; ((with_reducible refine (l01In_b _ _ _ false (by simp; omega) _).mono ?_); rintro e w1 ⟨rfl, rfl⟩))); (first | exact ⟨rfl, rfl, hB2, b2⟩)); rfl)))
    intro w' hS
    go_wp2
    go_ret
    exact ⟨by first | rfl | exact ret_b hF, hS.1⟩

end Go.Proofs.YtinjjaoikofkdaaDoor

/- The reference's check of loops: a contract. -/
namespace Go.Proofs.YtinjjaoikofkdaaDoor
set_option linter.unusedSimpArgs false
set_option linter.unusedVariables false
open Go.RowKit

set_option maxRecDepth 100000 in
set_option maxHeartbeats 1000000 in
theorem l01Loop_any (n : Int) (t : Nat → Nat → Nat) (w : World) (hby : Byt2 t) :
    Calls Tryd.prog 26 #[.agg (sqs n t)] w fun e w' => e = .returned (.bool (isLp n t)) ∧ Below w.heap.size w w' := by
  have b1 := blk_new w (sqs n t) 36 w.heap.size rfl
  have hB : Below w.heap.size w (w.alloc (.cells (sqs n t) 36)) := (Below.refl _ _).alloc (by simp) _
  cases hs : isSq n t with
  | false =>
    have hF : isLp n t = false := isLp_false.2 fun h => by have := isSq_true.2 h.sq; rw [hs] at this; cases this
    go_enter Tryd.func26, Tryd.ntmps26
    go_wp2_with (first | (refine wpList_load_part rfl 36 _ rfl _ _ rfl (sqs n t) _ und_sqs rfl inf_sqs (cells_of_blk0 b1) ?_) | (go_at_call 23; ((with_reducible refine (l01Is_any _ _ _ hby).mono ?_); rintro e w1 ⟨rfl, hb⟩)))
    go_ret
    exact ⟨by first | rfl | exact ret_b hF, below_self hB hb⟩
  | true =>
    have hsq := isSq_true.1 hs
    have hn1 := hsq.lo
    have hn2 := hsq.hi
    go_enter Tryd.func26, Tryd.ntmps26
    go_wp2_with (first | (refine wpList_load_part rfl 36 _ rfl _ _ rfl (sqs n t) _ und_sqs rfl inf_sqs (cells_of_blk0 b1) ?_) | (go_at_call 23; ((with_reducible refine (l01Is_any _ _ _ hby).mono ?_); rintro e w1 ⟨rfl, hb⟩)))
    go_loopw [2, 3] (fun _ i wr => ∃ k : Nat, (k : Int) ≤ n ∧ i = .int .i64 k ∧ Below w.heap.size w wr ∧ blk wr w.heap.size (sqs n t) 36 ∧
      ∀ x : Nat, x < k → t 0 x = x ∧ t x 0 = x) (fun _ i _ => (10 - intOf i).toNat)
    case atStart => exact ⟨0, by omega, rfl, below_self hB hb, b1.later hb, fun _ h => absurd h (by omega)⟩
    case round =>
      obtain ⟨k, hk, rfl, hB2, b2, hr⟩ := hrel
      have HR := Hid2.mk hr
      clear hr
      have c0 := b2.cell 0 _ (sqs_order n t)
      by_cases hlt : (k : Int) < n
      · have c1 := b2.cell _ _ (sqs_get_first (n := n) (t := t) (y := k) (by omega))
        have c2 := b2.cell _ _ (sqs_get_head (n := n) (t := t) (x := k) (by omega))
        by_cases h1 : t 0 k = k
        · by_cases h2 : t k 0 = k
          · go_wp2
            go_roundw
            case rel =>
              refine ⟨k + 1, by omega, by go_num, hB2, b2, fun x hx => ?_⟩
              by_cases h : x = k
              · subst h; exact ⟨h1, h2⟩
              · exact HR.out x (by omega)
            case measure => simp [intOf]; omega
          · have hF : isLp n t = false := isLp_false.2 fun h => h2 (h.right k (by omega) hlt)
            go_wp2
            go_ret
            exact ⟨by first | rfl | exact ret_b hF, hB2⟩
        · have hF : isLp n t = false := isLp_false.2 fun h => h1 (h.left k (by omega) hlt)
          go_wp2
          go_ret
          exact ⟨by first | rfl | exact ret_b hF, hB2⟩
      · have hT : isLp n t = true := isLp_true.2 ⟨hsq, fun x _ hx => (HR.out x (by omega)).1, fun x _ hx => (HR.out x (by omega)).2⟩
        go_wp2
        go_ret
        exact ⟨by first | rfl | exact ret_b hT, hB2⟩

end Go.Proofs.YtinjjaoikofkdaaDoor

/- The first isomorphism, for the program and for the reference: contracts. -/
namespace Go.Proofs.YtinjjaoikofkdaaDoor
set_option linter.unusedSimpArgs false
set_option linter.unusedVariables false
open Go Go.RowKit

set_option maxRecDepth 100000 in
set_option maxHeartbeats 1000000 in
theorem l02Both_any (n k : Int) (t u : Nat → Nat → Nat) (w : World) (ht : Byt2 t) (hu : Byt2 u) :
    Calls Tryd.prog 79 #[.agg (sqs n t), .agg (sqs k u)] w fun e w' => e = .returned (.int .i64 (if isSq n t = true ∧ isSq k u = true then 0 else 1)) ∧ Below w.heap.size w w' := by
  have M := Mm.start no w
  have H1 := fun w1 => l01Is_any n t w1 ht
  have H2 := fun w1 => l01Is_any k u w1 hu
  cases e1 : isSq n t with
  | false =>
    simp only [e1] at H1
    rw [if_neg (by simp)]
    go_enter Tryd.func79, Tryd.ntmps79
    go_wp2_with (first | ((with_reducible apply wpM_box' M 36 (sqs n t)); rfl; exact ⟨rfl, rfl⟩; clear M; (try clear C); intro bq w9 h_bq M; have C := M.ruleAll; simp only [Go.Proofs.YtinjjaoikofkdaaDoor.ruleAll] at C) | ((with_reducible apply wpM_box' M 36 (sqs k u)); rfl; exact ⟨rfl, rfl⟩; clear M; (try clear C); intro br w9 h_br M; have C := M.ruleAll; simp only [Go.Proofs.YtinjjaoikofkdaaDoor.ruleAll] at C) | ((with_reducible apply wpM_lda' M 1 36 0 (sqs n t)); rfl; rfl; rfl; exact ⟨rfl, inf_sqs.trans (congrArg some (sqs_size ..).symm), _, und_sqs, rfl⟩; exact whole_of rfl) | (go_at_call 23; ((with_reducible refine (H1 _).mono ?_); rintro e w1 ⟨rfl, hb⟩; have hsz := M.size; (try (have G9 := G.later hb; clear G; have G := G9; clear G9)); have M9 := M.later hb; clear M; (try clear C); have M := M9; clear M9; have C := M.ruleAll; simp only [Go.Proofs.YtinjjaoikofkdaaDoor.ruleAll] at C)))
    go_ret
    exact ⟨rfl, M.below⟩
  | true =>
    cases e2 : isSq k u with
    | false =>
      simp only [e1] at H1
      simp only [e2] at H2
      rw [if_neg (by simp)]
      go_enter Tryd.func79, Tryd.ntmps79
      go_wp2_with (first | ((with_reducible apply wpM_box' M 36 (sqs n t)); rfl; exact ⟨rfl, rfl⟩; clear M; (try clear C); intro bq w9 h_bq M; have C := M.ruleAll; simp only [Go.Proofs.YtinjjaoikofkdaaDoor.ruleAll] at C) | ((with_reducible apply wpM_box' M 36 (sqs k u)); rfl; exact ⟨rfl, rfl⟩; clear M; (try clear C); intro br w9 h_br M; have C := M.ruleAll; simp only [Go.Proofs.YtinjjaoikofkdaaDoor.ruleAll] at C) | ((with_reducible apply wpM_lda' M 1 36 0 (sqs n t)); rfl; rfl; rfl; exact ⟨rfl, inf_sqs.trans (congrArg some (sqs_size ..).symm), _, und_sqs, rfl⟩; exact whole_of rfl) | ((with_reducible apply wpM_lda' M 0 36 0 (sqs k u)); rfl; rfl; rfl; exact ⟨rfl, inf_sqs.trans (congrArg some (sqs_size ..).symm), _, und_sqs, rfl⟩; exact whole_of rfl) | (go_at_call 23; ((with_reducible refine (H1 _).mono ?_); rintro e w1 ⟨rfl, hb⟩; have hsz := M.size; (try (have G9 := G.later hb; clear G; have G := G9; clear G9)); have M9 := M.later hb; clear M; (try clear C); have M := M9; clear M9; have C := M.ruleAll; simp only [Go.Proofs.YtinjjaoikofkdaaDoor.ruleAll] at C)) | (go_at_call 23; ((with_reducible refine (H2 _).mono ?_); rintro e w1 ⟨rfl, hb⟩; have hsz := M.size; (try (have G9 := G.later hb; clear G; have G := G9; clear G9)); have M9 := M.later hb; clear M; (try clear C); have M := M9; clear M9; have C := M.ruleAll; simp only [Go.Proofs.YtinjjaoikofkdaaDoor.ruleAll] at C)))
      go_ret
      exact ⟨rfl, M.below⟩
    | true =>
      simp only [e1] at H1
      simp only [e2] at H2
      rw [if_pos ⟨rfl, rfl⟩]
      go_enter Tryd.func79, Tryd.ntmps79
      go_wp2_with (first | ((with_reducible apply wpM_box' M 36 (sqs n t)); rfl; exact ⟨rfl, rfl⟩; clear M; (try clear C); intro bq w9 h_bq M; have C := M.ruleAll; simp only [Go.Proofs.YtinjjaoikofkdaaDoor.ruleAll] at C) | ((with_reducible apply wpM_box' M 36 (sqs k u)); rfl; exact ⟨rfl, rfl⟩; clear M; (try clear C); intro br w9 h_br M; have C := M.ruleAll; simp only [Go.Proofs.YtinjjaoikofkdaaDoor.ruleAll] at C) | ((with_reducible apply wpM_lda' M 1 36 0 (sqs n t)); rfl; rfl; rfl; exact ⟨rfl, inf_sqs.trans (congrArg some (sqs_size ..).symm), _, und_sqs, rfl⟩; exact whole_of rfl) | ((with_reducible apply wpM_lda' M 0 36 0 (sqs k u)); rfl; rfl; rfl; exact ⟨rfl, inf_sqs.trans (congrArg some (sqs_size ..).symm), _, und_sqs, rfl⟩; exact whole_of rfl) | (go_at_call 23; ((with_reducible refine (H1 _).mono ?_); rintro e w1 ⟨rfl, hb⟩; have hsz := M.size; (try (have G9 := G.later hb; clear G; have G := G9; clear G9)); have M9 := M.later hb; clear M; (try clear C); have M := M9; clear M9; have C := M.ruleAll; simp only [Go.Proofs.YtinjjaoikofkdaaDoor.ruleAll] at C)) | (go_at_call 23; ((with_reducible refine (H2 _).mono ?_); rintro e w1 ⟨rfl, hb⟩; have hsz := M.size; (try (have G9 := G.later hb; clear G; have G := G9; clear G9)); have M9 := M.later hb; clear M; (try clear C); have M := M9; clear M9; have C := M.ruleAll; simp only [Go.Proofs.YtinjjaoikofkdaaDoor.ruleAll] at C)))
      go_ret
      exact ⟨rfl, M.below⟩

/-- The first word of a list, and a code. -/
def isoRes : List (List Nat) → (Nat → Nat) × Int
  | [] => (fun _ => 0, 4)
  | p :: _ => (wf p, 0)
/-- A permutation and a code that are handed back. -/
def PlcCode (c : (Nat → Nat) × Int) (w : World) (e : Ending) (w' : World) : Prop := e = .returned (.tuple #[.agg (bys c.1), .int .i64 c.2]) ∧ Below w.heap.size w w'
theorem isoRes_take (l : List (List Nat)) : isoRes (l.take 1) = isoRes l := by cases l <;> rfl
theorem isoRes_none {l : List (List Nat)} (h : l.length = 0) : isoRes l = (fun _ => 0, 4) := by cases l <;> first | rfl | simp at h
theorem isoRes_some {l : List (List Nat)} (h : 0 < l.length) : isoRes l = (wf l[0], 0) := by cases l <;> first | rfl | simp at h
theorem results_plc {P : Program} {fn : Func} {p q : Tmp} {ty : TypeId} (h : fn.results = #[.cell p ty, .tmp q]) (tmps : Array Value) (w : World) (b off : Nat) (part : Array Value) (d : TypeDesc)
    (hp : tmps.getD p undef = .pointer (some ⟨b, off, none⟩)) (hu : P.underlying ty = some d) (hd : (match d with | .struct _ | .array _ _ => true | _ => false) = true) (hi : (P.info? ty).map (·.size) = some part.size)
    (hc : ∀ j v, part[j]? = some v → w.cell? ⟨b, off + j, none⟩ = some v) (v : Value) (hv : tmps.getD q undef = v) :
    (results fn tmps).run P w = .ok (.tuple #[.agg part, v]) w := results_part2 h tmps w b off part d hp hu hd hi hc v hv
theorem zero_i64 (w : World) : (zeroValue 2).run Tryd.prog w = .ok (.int .i64 0) w := by kernel_rfl

/-- ONE OPERATION FLOATS, and it writes what is known. -/
theorem wp_region_mmg1 {P : Program} {D : Nat → Prop} {w0 w : World} {L : List Ent} {a af : Act} {Q : Exit → Act → World → Prop} {id : Nat} {l : List Oper} (Lg0 : List Ent) (M : Mm D w0 w (Lg0 ++ L)) (I : List Nat) (s1 n : Nat) (o1 : Oper) (St : List Value → List Ent → Prop) (hm : P.follows .mixedOrders = true) (hB : newI l.toArray I [s1] n = true) (h1 : l[s1]? = some o1) (hg1 : o1.guard = none) (h0 : St [] Lg0)
    (ht : wpTextG P (Stg St D w0 L) l.toArray (I.filterMap fun i => l[i]?) a af) (hA : ∀ Lg w, St [] Lg → Mm D w0 w (Lg ++ L) → yield P o1 af w fun u w' => Stg St D w0 L [u] w')
    (hQ : ∀ v Lg w', St [v] Lg → Mm D w0 w' (Lg ++ L) → wpList P l.toArray Q (l.drop n) (af.put o1.dst v) w') : (Code.region id l.toArray true).wp P Q a w :=
  wp_region_float1 I s1 n o1 (Stg St D w0 L) hm hB h1 hg1 (fun w ⟨Lg, h, M⟩ => hA Lg w h M) ⟨Lg0, h0, M.drew⟩ ht fun v w' ⟨Lg, h, M⟩ => hQ v Lg w' h M

/-- Two variables hold the first that has been visited. -/
def OneV (bo bc : Nat) (l : List (List Nat)) (D : Nat → Prop) (w : World) : Prop :=
  blk w bo (bys (isoRes l).1) 52 ∧ blk w bc #[.int .i64 (isoRes l).2] 2 ∧ bo ≠ bc ∧ ∀ k, D k ↔ (bo = k ∨ bc = k)
theorem OneV.mk {bo bc : Nat} {l : List (List Nat)} {w : World} (h1 : blk w bo (bys (isoRes l).1) 52) (h2 : blk w bc #[.int .i64 (isoRes l).2] 2) (h3 : bo ≠ bc) :
    (Ent.res (fun k => bo = k ∨ bc = k) (OneV bo bc l fun k => bo = k ∨ bc = k)).holds w :=
  ⟨fun k hk => by
    rcases hk with rfl | rfl
    · exact h1.lt
    · exact h2.lt,
   fun E w' hk hd => by
    have a1 : (Ent.box bo (bys (isoRes l).1) 52).holds w := h1
    have a2 : (Ent.box bc #[.int .i64 (isoRes l).2] 2).holds w := h2
    exact ⟨Ent.holds_of a1 hk fun b hb => hd b (.inl hb), Ent.holds_of a2 hk fun b hb => hd b (.inr hb), h3, fun _ => Iff.rfl⟩⟩

set_option maxRecDepth 100000 in
set_option maxHeartbeats 200000 in
theorem oneVisit_any (bo bc : Nat) : Visits true 75 #[.pointer (some ⟨bo, 0, none⟩), .pointer (some ⟨bc, 0, none⟩)] (OneV bo bc) 1 := by
  refine ⟨enters_of (P := Tryd.prog) (f := 75) (by exact Tryd.func75) (by kernel_rfl) rfl, fun l p D w hV hl => ?_⟩
  obtain rfl : l = [] := by cases l <;> first | rfl | simp at hl
  obtain ⟨h1, h2, h3, h4⟩ := Ent.res_now hV
  have h1' : blk w bo (bys fun _ => 0) 52 := h1
  have h2' : blk w bc #[.int .i64 4] 2 := h2
  have M := ((Mm.start D w).add (x := .box bc #[.int .i64 4] 2) h2' fun _ h => by cases h).add (x := .box bo (bys fun _ => 0) 52) h1' (fun y hy => by
    simp only [List.mem_singleton] at hy; subst hy
    exact fun b hb hb' => h3 (by cases hb; cases hb'; rfl))
  have hDo : D bo := (h4 bo).2 (.inl rfl)
  have hDc : D bc := (h4 bc).2 (.inr rfl)
  have H3 := Hid2.mk h3
  clear h1 h2 h1' h2' h3 h4 hl hV
  have C := M.ruleAll; simp only [Go.Proofs.YtinjjaoikofkdaaDoor.ruleAll] at C
  show Calls Tryd.prog 75 #[.agg (bys (wf p)), .pointer (some ⟨bo, 0, none⟩), .pointer (some ⟨bc, 0, none⟩)] w _
  go_enter Tryd.func75, Tryd.ntmps75
  go_wp2_with (first | ((with_reducible apply wpM_box' M 52 (bys (wf p))); rfl; exact ⟨rfl, rfl⟩; clear M; (try clear C); intro bp w9 h_bp M; have C := M.ruleAll; simp only [Go.Proofs.YtinjjaoikofkdaaDoor.ruleAll] at C) | ((with_reducible apply wpM_lda' M 0 52 0 (bys (wf p))); rfl; rfl; rfl; exact ⟨rfl, inf_plc.trans (congrArg some (bys_size ..).symm), _, und_plc, rfl⟩; exact whole_of rfl) | ((with_reducible apply wpM_sta' M 1 52 (bys (wf p))); rfl; rfl; rfl; rfl; (first | exact .inl (by assumption) | exact .inr rfl | exact .inr (by assumption)); exact ⟨rfl, inf_plc.trans (congrArg some (bys_size ..).symm), flat_bys _⟩; (simp only [entCells, List.getElem?_cons_zero, List.getElem?_cons_succ, bys_size, bys_size]); clear M; (try clear C); intro w9 M; simp only [List.set_cons_zero, List.set_cons_succ, entBlk, entT, List.getElem?_cons_zero, List.getElem?_cons_succ] at M; have C := M.ruleAll; simp only [Go.Proofs.YtinjjaoikofkdaaDoor.ruleAll] at C) | ((with_reducible apply wpM_st' M 2 2 (0) (#[.int .i64 0])); rfl; rfl; rfl; (first | exact .inl (by assumption) | exact .inr rfl | exact .inr (by assumption)); exact ⟨rfl, rfl, by kernel_rfl⟩; exact Nat.zero_lt_one; exact rfl; clear M; (try clear C); intro w9 M; simp only [List.set_cons_zero, List.set_cons_succ, entBlk, entT, List.getElem?_cons_zero, List.getElem?_cons_succ] at M; have C := M.ruleAll; simp only [Go.Proofs.YtinjjaoikofkdaaDoor.ruleAll] at C))
  go_ret
  refine ⟨rfl, _, OneV.mk (l := [p]) (M.box 1 rfl) (M.box 2 rfl) H3.out, fun k hk => .inl ?_, M.kept⟩
  rcases hk with rfl | rfl
  · exact hDo
  · exact hDc

/-- A variable that is written. -/
def StO (b4 : Nat) (f : Nat → Nat) : List Value → List Ent → Prop
  | [], Lg => Lg = [.box b4 (bys fun _ => 0) 52]
  | u :: _, Lg => Lg = [.box b4 (bys f) 52] ∧ u = undef

set_option maxRecDepth 100000 in
set_option maxHeartbeats 1000000 in
theorem implIso_any (N K : Nat) (t u : Nat → Nat → Nat) (w : World) (ht : Byt2 t) (hu : Byt2 u) (e1 : isSq (N : Int) t = true) (e2 : isSq (K : Int) u = true) :
    Calls Tryd.prog 59 #[.agg (sqs (N : Int) t), .agg (sqs (K : Int) u)] w (PlcCode (isoRes (isoAll N K t u)) w) := by
  have M := Mm.start no w
  have H1 := fun w1 => isSquare_any (N : Int) t w1 ht
  have H2 := fun w1 => isSquare_any (K : Int) u w1 hu
  simp only [e1] at H1
  simp only [e2] at H2
  have sq1 := isSq_true.1 e1
  have sq2 := isSq_true.1 e2
  have h0 : 1 ≤ N := by have := sq1.lo; omega
  have h1 : N ≤ 10 := by have := sq1.hi; omega
  have hI := fun w1 bo bc D hD => isomorphisms_any N K t u true 75 #[.pointer (some ⟨bo, 0, none⟩), .pointer (some ⟨bc, 0, none⟩)] (OneV bo bc) 1 D w1 (oneVisit_any bo bc) h0 h1 (Lat.of_sq sq1).lt (Lat.of_sq sq2).lt hD (by show (List.take 1 _).length ≤ 1; rw [List.length_take]; omega)
  have HI := Hid2.mk hI
  have hmf : ∀ (fn : Fn) (first cap : Array Value) (w : World), (Instr.makeFunc fn first cap).run Tryd.prog w = .ok (.func fn first cap) w := fun _ _ _ _ => rfl
  clear hI ht hu e1 e2 sq1 sq2 h0 h1
  have hbd := build_plc
  go_enter Tryd.func59, Tryd.ntmps59
  go_wp2_with (first | ((with_reducible apply wpM_box' M 36 (sqs (N : Int) t)); rfl; exact ⟨rfl, rfl⟩; clear M; (try clear C); intro bq w9 h_bq M; have C := M.ruleAll; simp only [Go.Proofs.YtinjjaoikofkdaaDoor.ruleAll] at C) | ((with_reducible apply wpM_box' M 36 (sqs (K : Int) u)); rfl; exact ⟨rfl, rfl⟩; clear M; (try clear C); intro br w9 h_br M; have C := M.ruleAll; simp only [Go.Proofs.YtinjjaoikofkdaaDoor.ruleAll] at C) | (have hq := h_b4; clear hq; ((with_reducible apply wpM_alloc' M 52 (bys fun _ => 0)); rfl; exact ⟨rfl, _, zero_plc _, rfl⟩; clear M; (try clear C); intro bo w9 h_bo M; have C := M.ruleAll; simp only [Go.Proofs.YtinjjaoikofkdaaDoor.ruleAll] at C)) | ((with_reducible apply wpM_alloc' M 52 (bys fun _ => 0)); rfl; exact ⟨rfl, _, zero_plc _, rfl⟩; clear M; (try clear C); intro b4 w9 h_b4 M; have C := M.ruleAll; simp only [Go.Proofs.YtinjjaoikofkdaaDoor.ruleAll] at C) | ((with_reducible apply wpM_alloc' M 2 (#[.int .i64 0])); rfl; exact ⟨rfl, _, zero_i64 _, rfl⟩; clear M; (try clear C); intro bc w9 h_bc M; have C := M.ruleAll; simp only [Go.Proofs.YtinjjaoikofkdaaDoor.ruleAll] at C) | ((with_reducible apply wpM_lda' M 2 36 0 (sqs (N : Int) t)); rfl; rfl; rfl; exact ⟨rfl, inf_sqs.trans (congrArg some (sqs_size ..).symm), _, und_sqs, rfl⟩; exact whole_of rfl) | ((with_reducible apply wpM_lda' M 1 36 0 (sqs (K : Int) u)); rfl; rfl; rfl; exact ⟨rfl, inf_sqs.trans (congrArg some (sqs_size ..).symm), _, und_sqs, rfl⟩; exact whole_of rfl) | (go_at_call 32; ((with_reducible refine (H1 _).mono ?_); rintro e w1 ⟨rfl, hb⟩; have hsz := M.size; (try (have G9 := G.later hb; clear G; have G := G9; clear G9)); have M9 := M.later hb; clear M; (try clear C); have M := M9; clear M9; have C := M.ruleAll; simp only [Go.Proofs.YtinjjaoikofkdaaDoor.ruleAll] at C)) | (go_at_call 32; ((with_reducible refine (H2 _).mono ?_); rintro e w1 ⟨rfl, hb⟩; have hsz := M.size; (try (have G9 := G.later hb; clear G; have G := G9; clear G9)); have M9 := M.later hb; clear M; (try clear C); have M := M9; clear M9; have C := M.ruleAll; simp only [Go.Proofs.YtinjjaoikofkdaaDoor.ruleAll] at C)) | (refine wpList_build 52 _ rfl rfl [] rfl _ (build_plc _) ?_) | ((with_reducible apply wpM_sta' M 1 52 (bys fun _ => 0)); rfl; rfl; rfl; rfl; (first | exact .inl (by assumption) | exact .inr rfl | exact .inr (by assumption)); exact ⟨rfl, inf_plc.trans (congrArg some (bys_size ..).symm), flat_bys _⟩; (simp only [entCells, List.getElem?_cons_zero, List.getElem?_cons_succ, bys_size, bys_size]); clear M; (try clear C); intro w9 M; simp only [List.set_cons_zero, List.set_cons_succ, entBlk, entT, List.getElem?_cons_zero, List.getElem?_cons_succ] at M; have C := M.ruleAll; simp only [Go.Proofs.YtinjjaoikofkdaaDoor.ruleAll] at C) | ((with_reducible apply wpM_st' M 0 2 (0) (#[.int .i64 4])); rfl; rfl; rfl; (first | exact .inl (by assumption) | exact .inr rfl | exact .inr (by assumption)); exact ⟨rfl, rfl, by kernel_rfl⟩; exact Nat.zero_lt_one; exact rfl; clear M; (try clear C); intro w9 M; simp only [List.set_cons_zero, List.set_cons_succ, entBlk, entT, List.getElem?_cons_zero, List.getElem?_cons_succ] at M; have C := M.ruleAll; simp only [Go.Proofs.YtinjjaoikofkdaaDoor.ruleAll] at C) | ((with_reducible apply wpM_lda' M 4 36 0 (sqs (N : Int) t)); rfl; rfl; rfl; exact ⟨rfl, inf_sqs.trans (congrArg some (sqs_size ..).symm), _, und_sqs, rfl⟩; exact whole_of rfl) | ((with_reducible apply wpM_lda' M 3 36 0 (sqs (K : Int) u)); rfl; rfl; rfl; exact ⟨rfl, inf_sqs.trans (congrArg some (sqs_size ..).symm), _, und_sqs, rfl⟩; exact whole_of rfl))
  have hne : bo ≠ bc := fun e => M.dist 0 1 _ _ rfl rfl (by decide) bo (by subst e; rfl) rfl
  have hn4 : b4 ≠ bc := fun e => M.dist 0 2 _ _ rfl rfl (by decide) b4 (by subst e; rfl) rfl
  have hn5 : b4 ≠ bo := fun e => M.dist 1 2 _ _ rfl rfl (by decide) b4 (by subst e; rfl) rfl
  refine (HI.out _ bo bc _ (OneV.mk (l := []) (M.box 1 rfl) (M.box 0 rfl) hne)).mono ?_
  rintro e w1 ⟨rfl, D', hD1, hD2, hK⟩
  obtain ⟨g1, g2, g3, g4⟩ := Ent.res_now hD1
  have hr : isoRes (res true (isoAll N K t u)) = isoRes (isoAll N K t u) := isoRes_take _
  rw [hr] at g1 g2
  have M1 := (((M.sub [2] (by decide)).go hK (fun k hk h => by rcases h with rfl | rfl <;> omega) (fun x hx b hb h => by
    simp only [List.filterMap_cons, List.filterMap_nil, List.getElem?_cons_succ, List.getElem?_cons_zero, List.mem_singleton] at hx
    subst hx
    cases hb
    rcases h with h | h
    · exact hn5 h.symm
    · exact hn4 h.symm)).add (x := .box bc #[.int .i64 (isoRes (isoAll N K t u)).2] 2) g2 (fun y hy => by
      simp only [List.filterMap_cons, List.filterMap_nil, List.getElem?_cons_succ, List.getElem?_cons_zero, List.mem_singleton] at hy; subst hy
      exact fun b hb hb' => hn4 (by cases hb; cases hb'; rfl))).add (x := .box bo (bys (isoRes (isoAll N K t u)).1) 52) g1 (fun y hy => by
      simp only [List.filterMap_cons, List.filterMap_nil, List.getElem?_cons_succ, List.getElem?_cons_zero, List.mem_cons, List.not_mem_nil, or_false] at hy
      rcases hy with rfl | rfl
      · exact fun b hb hb' => hne (by cases hb; cases hb'; rfl)
      · exact fun b hb hb' => hn5 (by cases hb; cases hb'; rfl))
  have M2 := M1.sub [2, 0, 1] (by decide)
  simp only [List.filterMap_cons, List.filterMap_nil, List.getElem?_cons_succ, List.getElem?_cons_zero] at M2
  clear M; (try clear C)
  have M := M2
  clear M2 M1 hD1 hD2 hK g1 g2 g3 g4 hr HI H1 H2
  obtain ⟨⟨f, d⟩, hc⟩ : ∃ c, c = isoRes (isoAll N K t u) := ⟨_, rfl⟩
  rw [← hc] at M
  have HC := Hid2.mk hc
  clear hc
  have C := M.ruleAll; simp only [Go.Proofs.YtinjjaoikofkdaaDoor.ruleAll] at C
  go_wp2
  apply wp_region_mmg1 [.box b4 (bys fun _ => 0) 52] (L := [.box bo (bys f) 52, .box bc #[.int .i64 d] 2]) M [0, 1] 2 3 _ (StO b4 f) (by kernel_rfl) (by kernel_rfl) rfl rfl rfl
  case ht => (repeat (first | exact wpTextG_nil | (apply wpTextG_cons; (intro g9 w2 hG; obtain ⟨Lg9, hSt9, G⟩ := hG; have M := G.suffix; have C := M.ruleAll; simp only [Go.Proofs.YtinjjaoikofkdaaDoor.ruleAll] at C; go_wp2_with (first | ((with_reducible apply wpM_lda' M 0 52 0 (bys f)); rfl; rfl; rfl; exact ⟨rfl, inf_plc.trans (congrArg some (bys_size ..).symm), _, und_plc, rfl⟩; exact whole_of rfl)); exact ⟨rfl, rfl, Lg9, hSt9, G⟩); rfl)))
  case hA =>
    intro Lg w2 h M
    obtain rfl := h
    refine yield_store (ops := #[]) (by exact rfl) (by exact rfl) ?_
    simp only [List.cons_append, List.nil_append] at M
    have C := M.ruleAll; simp only [Go.Proofs.YtinjjaoikofkdaaDoor.ruleAll] at C
    go_wp2_with (first | ((with_reducible apply wpM_sta' M 0 52 (bys f)); rfl; rfl; rfl; rfl; (first | exact .inl (by assumption) | exact .inr rfl | exact .inr (by assumption)); exact ⟨rfl, inf_plc.trans (congrArg some (bys_size ..).symm), flat_bys _⟩; (simp only [entCells, List.getElem?_cons_zero, List.getElem?_cons_succ, bys_size, bys_size]); clear M; (try clear C); intro w9 M; simp only [List.set_cons_zero, List.set_cons_succ, entBlk, entT, List.getElem?_cons_zero, List.getElem?_cons_succ] at M; have C := M.ruleAll; simp only [Go.Proofs.YtinjjaoikofkdaaDoor.ruleAll] at C))
    exact ⟨_, ⟨rfl, rfl⟩, M⟩
  clear M; (try clear C)
  intro v Lg w2 h M
  obtain ⟨rfl, rfl⟩ := h
  simp only [List.drop_succ_cons, List.drop_zero, List.cons_append, List.nil_append] at M ⊢
  have C := M.ruleAll; simp only [Go.Proofs.YtinjjaoikofkdaaDoor.ruleAll] at C
  go_wp2
  refine bodyPost_ret (v := .tuple #[.agg (bys f), .int .i64 d]) (by exact results_plc rfl _ _ _ _ (bys f) _ rfl und_plc rfl (inf_plc.trans (congrArg some (bys_size _).symm)) (cells_of_blk0 (M.box 0 rfl)) _ rfl) rfl ?_
  exact ⟨by rw [← HC.out], M.below⟩

set_option maxRecDepth 100000 in
set_option maxHeartbeats 1000000 in
theorem specIso_any (N : Nat) (t u : Nat → Nat → Nat) (w : World) (ht : Byt2 t) (hu : Byt2 u) (e1 : isSq (N : Int) t = true) (e2 : isSq (N : Int) u = true) :
    Calls Tryd.prog 65 #[.agg (sqs (N : Int) t), .agg (sqs (N : Int) u)] w (PlcCode (isoRes (isoAll N N t u)) w) := by
  have M := Mm.start no w
  have H1 := fun w1 => l02Both_any (N : Int) (N : Int) t u w1 ht hu
  simp only [e1, e2, and_self, if_true] at H1
  have sq1 := isSq_true.1 e1
  have sq2 := isSq_true.1 e2
  have h0 : 1 ≤ N := by have := sq1.lo; omega
  have h1 : N ≤ 10 := by have := sq1.hi; omega
  have H2 : ∀ w1, Calls Tryd.prog 80 #[.agg (sqs (N : Int) t), .agg (sqs (N : Int) u), .int .i64 1] w1 (AllList ((isos N t u fun _ => none).take 1) w1) := fun w1 => l02All_any N t u 1 w1 h0 h1 (Lat.of_sq sq1).lt (Lat.of_sq sq2).lt (by omega) (by omega)
  have hr : isoRes (isoAll N N t u) = isoRes ((isos N t u fun _ => none).take 1) := by rw [isoRes_take, isoAll, if_pos rfl]
  rw [hr]
  generalize (isos N t u fun _ => none).take 1 = L at H2
  clear hr ht hu e1 e2 sq1 sq2 h0 h1
  have hbd := build_plc
  by_cases hz : L.length = 0
  · rw [isoRes_none hz]
    have e0 : ((L.length : Int) == 0) = true := by rw [hz]; rfl
    clear hz
    go_enter Tryd.func65, Tryd.ntmps65
    go_wp2_with (first | ((with_reducible apply wpM_box' M 36 (sqs (N : Int) t)); rfl; exact ⟨rfl, rfl⟩; clear M; (try clear C); intro bq w9 h_bq M; have C := M.ruleAll; simp only [Go.Proofs.YtinjjaoikofkdaaDoor.ruleAll] at C) | ((with_reducible apply wpM_box' M 36 (sqs (N : Int) u)); rfl; exact ⟨rfl, rfl⟩; clear M; (try clear C); intro br w9 h_br M; have C := M.ruleAll; simp only [Go.Proofs.YtinjjaoikofkdaaDoor.ruleAll] at C) | ((with_reducible apply wpM_alloc' M 52 (bys fun _ => 0)); rfl; exact ⟨rfl, _, zero_plc _, rfl⟩; clear M; (try clear C); intro b4 w9 h_b4 M; have C := M.ruleAll; simp only [Go.Proofs.YtinjjaoikofkdaaDoor.ruleAll] at C) | ((with_reducible apply wpM_lda' M 2 36 0 (sqs (N : Int) t)); rfl; rfl; rfl; exact ⟨rfl, inf_sqs.trans (congrArg some (sqs_size ..).symm), _, und_sqs, rfl⟩; exact whole_of rfl) | ((with_reducible apply wpM_lda' M 1 36 0 (sqs (N : Int) u)); rfl; rfl; rfl; exact ⟨rfl, inf_sqs.trans (congrArg some (sqs_size ..).symm), _, und_sqs, rfl⟩; exact whole_of rfl) | (go_at_call 79; ((with_reducible refine (H1 _).mono ?_); rintro e w1 ⟨rfl, hb⟩; have hsz := M.size; (try (have G9 := G.later hb; clear G; have G := G9; clear G9)); have M9 := M.later hb; clear M; (try clear C); have M := M9; clear M9; have C := M.ruleAll; simp only [Go.Proofs.YtinjjaoikofkdaaDoor.ruleAll] at C)) | (go_at_call 80; ((with_reducible refine (H2 _).mono ?_); rintro e w1 ⟨v, rfl, hO, hb⟩; have hsz := M.size; have M9 := M.later hb; clear M; (try clear C); have M := M9; clear M9; (try simp only [List.set_cons_zero, List.set_cons_succ] at M); have C := M.ruleAll; simp only [Go.Proofs.YtinjjaoikofkdaaDoor.ruleAll] at C; clear hb; obtain ⟨pp, cap, rfl⟩ := own_form hO)) | (refine wpList_build 52 _ rfl rfl [] rfl _ (build_plc _) ?_) | ((with_reducible apply wpM_sta' M 0 52 (bys fun _ => 0)); rfl; rfl; rfl; rfl; (first | exact .inl (by assumption) | exact .inr rfl | exact .inr (by assumption)); exact ⟨rfl, inf_plc.trans (congrArg some (bys_size ..).symm), flat_bys _⟩; (simp only [entCells, List.getElem?_cons_zero, List.getElem?_cons_succ, bys_size, bys_size]); clear M; (try clear C); intro w9 M; simp only [List.set_cons_zero, List.set_cons_succ, entBlk, entT, List.getElem?_cons_zero, List.getElem?_cons_succ] at M; have C := M.ruleAll; simp only [Go.Proofs.YtinjjaoikofkdaaDoor.ruleAll] at C))
    refine bodyPost_ret (v := .tuple #[.agg (bys fun _ => 0), .int .i64 4]) (by exact results_plc rfl _ _ _ _ (bys fun _ => 0) _ rfl und_plc rfl (inf_plc.trans (congrArg some (bys_size _).symm)) (cells_of_blk0 (M.box 0 rfl)) _ rfl) rfl ?_
    exact ⟨rfl, M.below⟩
  · have hp : 0 < L.length := by omega
    rw [isoRes_some hp]
    have e0 : ((L.length : Int) == 0) = false := beq_eq_false_iff_ne.2 (by omega)
    have hp' : (0 : Int) < (L.length : Int) := by omega
    have HZ := Hid2.mk (show 0 < L.length * 10 by omega)
    obtain ⟨p, hpp⟩ : ∃ p, p = L[0] := ⟨_, rfl⟩
    have hc0 : ∀ {w3 g}, rds w3 g (L.length * 10) (fun j => (plCells L).getD j undef) → ∀ j v, (bys (wf p))[j]? = some v → w3.cell? ⟨g, 0 + j, none⟩ = some v := fun h j v hv => by
      have := plc_cells h hp j v (by rw [← hpp]; exact hv)
      rwa [Nat.zero_mul] at this
    rw [← hpp]
    have HC0 := Hid2.mk @hc0
    clear hz hp hc0 hpp
    go_enter Tryd.func65, Tryd.ntmps65
    go_wp2_with (first | ((with_reducible apply wpM_box' M 36 (sqs (N : Int) t)); rfl; exact ⟨rfl, rfl⟩; clear M; (try clear C); intro bq w9 h_bq M; have C := M.ruleAll; simp only [Go.Proofs.YtinjjaoikofkdaaDoor.ruleAll] at C) | ((with_reducible apply wpM_box' M 36 (sqs (N : Int) u)); rfl; exact ⟨rfl, rfl⟩; clear M; (try clear C); intro br w9 h_br M; have C := M.ruleAll; simp only [Go.Proofs.YtinjjaoikofkdaaDoor.ruleAll] at C) | ((with_reducible apply wpM_alloc' M 52 (bys fun _ => 0)); rfl; exact ⟨rfl, _, zero_plc _, rfl⟩; clear M; (try clear C); intro b4 w9 h_b4 M; have C := M.ruleAll; simp only [Go.Proofs.YtinjjaoikofkdaaDoor.ruleAll] at C) | ((with_reducible apply wpM_lda' M 2 36 0 (sqs (N : Int) t)); rfl; rfl; rfl; exact ⟨rfl, inf_sqs.trans (congrArg some (sqs_size ..).symm), _, und_sqs, rfl⟩; exact whole_of rfl) | ((with_reducible apply wpM_lda' M 1 36 0 (sqs (N : Int) u)); rfl; rfl; rfl; exact ⟨rfl, inf_sqs.trans (congrArg some (sqs_size ..).symm), _, und_sqs, rfl⟩; exact whole_of rfl) | (go_at_call 79; ((with_reducible refine (H1 _).mono ?_); rintro e w1 ⟨rfl, hb⟩; have hsz := M.size; (try (have G9 := G.later hb; clear G; have G := G9; clear G9)); have M9 := M.later hb; clear M; (try clear C); have M := M9; clear M9; have C := M.ruleAll; simp only [Go.Proofs.YtinjjaoikofkdaaDoor.ruleAll] at C)) | (go_at_call 80; ((with_reducible refine (H2 _).mono ?_); rintro e w1 ⟨v, rfl, hO, hb⟩; have hsz := M.size; have M9 := M.later hb; clear M; (try clear C); have M := M9; clear M9; (try simp only [List.set_cons_zero, List.set_cons_succ] at M); have C := M.ruleAll; simp only [Go.Proofs.YtinjjaoikofkdaaDoor.ruleAll] at C; clear hb; obtain ⟨g, cap, rfl, _, _, hr⟩ := own_rds hO HZ.out)) | (refine wpList_load_part rfl 52 _ rfl (g) (0) rfl (bys (wf p)) _ und_plc rfl inf_plc (HC0.out hr) ?_) | ((with_reducible apply wpM_sta' M 0 52 (bys (wf p))); rfl; rfl; rfl; rfl; (first | exact .inl (by assumption) | exact .inr rfl | exact .inr (by assumption)); exact ⟨rfl, inf_plc.trans (congrArg some (bys_size ..).symm), flat_bys _⟩; (simp only [entCells, List.getElem?_cons_zero, List.getElem?_cons_succ, bys_size, bys_size]); clear M; (try clear C); intro w9 M; simp only [List.set_cons_zero, List.set_cons_succ, entBlk, entT, List.getElem?_cons_zero, List.getElem?_cons_succ] at M; have C := M.ruleAll; simp only [Go.Proofs.YtinjjaoikofkdaaDoor.ruleAll] at C))
    refine bodyPost_ret (v := .tuple #[.agg (bys (wf p)), .int .i64 0]) (by exact results_plc rfl _ _ _ _ (bys (wf p)) _ rfl und_plc rfl (inf_plc.trans (congrArg some (bys_size _).symm)) (cells_of_blk0 (M.box 0 rfl)) _ rfl) rfl ?_
    exact ⟨rfl, M.below⟩
end Go.Proofs.YtinjjaoikofkdaaDoor

/- Names: contracts. -/
namespace Go.Proofs.YtinjjaoikofkdaaDoor
set_option linter.unusedSimpArgs false
set_option linter.unusedVariables false
open Go Go.RowKit

/-- Whether a letter may stand at a place of a name. -/
def nameAt (c : Int) (i : Nat) : Bool := (decide (97 ≤ c) && decide (c ≤ 122)) || ((decide (48 ≤ c) && decide (c ≤ 57)) && decide (i ≠ 0))
def chr (s : ByteArray) (i : Nat) : Int := if h : i < s.size then (s[i].toNat : Int) else 0
theorem chr_at {s : ByteArray} {i : Nat} (h : i < s.size) : chr s i = (s[i].toNat : Int) := dif_pos h
theorem name_ok {c : Int} {i : Nat} (h : ¬ (c < 97 ∨ 122 < c) ∨ (¬ (c < 48 ∨ 57 < c) ∧ i ≠ 0)) : nameAt c i = true := by
  unfold nameAt
  simp only [Bool.or_eq_true, Bool.and_eq_true, decide_eq_true_eq]
  omega
theorem name_no {c : Int} {i : Nat} (h : (c < 97 ∨ 122 < c) ∧ ((c < 48 ∨ 57 < c) ∨ i = 0)) : nameAt c i = false := by
  rw [← Bool.not_eq_true]
  unfold nameAt
  simp only [Bool.or_eq_true, Bool.and_eq_true, decide_eq_true_eq]
  omega
def nameTo (s : ByteArray) (k : Nat) : Bool := (List.range k).all fun i => nameAt (chr s i) i
/-- Whether a text is a name. -/
def nameB (s : ByteArray) : Bool := nameTo s s.size && (decide (1 ≤ s.size) && decide (s.size ≤ 12))
theorem nameTo_succ (s : ByteArray) (k : Nat) : nameTo s (k + 1) = (nameTo s k && nameAt (chr s k) k) := by unfold nameTo; rw [List.range_succ, List.all_append]; simp
theorem nameB_fails {s : ByteArray} {k : Nat} (hk : k < s.size) (h : nameAt (chr s k) k = false) : nameB s = false := by
  unfold nameB nameTo
  have : ((List.range s.size).all fun i => nameAt (chr s i) i) = false := by
    rw [List.all_eq_false]; exact ⟨k, List.mem_range.2 hk, by rw [h]; simp⟩
  rw [this]; rfl

theorem nameB_all {s : ByteArray} (h : nameTo s s.size = true) : nameB s = (decide (1 ≤ s.size) && decide (s.size ≤ 12)) := by unfold nameB; rw [h]; rfl

set_option maxRecDepth 100000 in
set_option maxHeartbeats 1000000 in
theorem isName_any (s : ByteArray) (w : World) (hs : s.size ≤ 1048576) : Calls Tryd.prog 37 #[.string s] w fun e w' => e = .returned (.bool (nameB s)) ∧ Below w.heap.size w w' := by
  have M := Mm.start no w
  go_enter Tryd.func37, Tryd.ntmps37
  go_wp2
  go_loopw [8, 3, 4, 5] (fun i _ _ _ wr => ∃ k : Nat, k ≤ s.size ∧ i = .int .i64 (k : Int) ∧ nameTo s k = true ∧ Mm no w wr []) (fun i _ _ _ _ => s.size - (intOf i).toNat)
  case atStart => exact ⟨0, by omega, rfl, rfl, M⟩
  case round =>
    obtain ⟨k, hk, rfl, hl, M9⟩ := hrel
    clear M; (try clear C)
    have M := M9
    clear M9
    have HL := Hid2.mk hl
    clear hl
    by_cases hlt : k < s.size
    · have hlt' : (k : Int) < (s.size : Int) := by omega
      go_wp2
      all_goals
        have hb1 : ((k : Int) == 0) = true → k = 0 := by simp
        have hb2 : ((k : Int) == 0) = false → k ≠ 0 := by simp
        have hb3 : (!decide (((s[k]'hlt).toNat : Int) ≤ 122)) = false → ((s[k]'hlt).toNat : Int) ≤ 122 := by simp
        have hb4 : (!decide (((s[k]'hlt).toNat : Int) ≤ 122)) = true → ¬ ((s[k]'hlt).toNat : Int) ≤ 122 := by simp
        (try have z1 := hb1 (by assumption))
        (try have z2 := hb2 (by assumption))
        (try have z3 := hb3 (by assumption))
        (try have z4 := hb4 (by assumption))
        first
          | exact ⟨⟨k + 1, by omega, by go_num, by rw [nameTo_succ, HL.out, chr_at hlt, name_ok (by omega)]; rfl, M⟩, by simp [intOf]; omega⟩
          | (go_ret; exact ⟨by rw [nameB_fails hlt (by rw [chr_at hlt]; exact name_no (by omega))]; rfl, M.below⟩)
    · obtain rfl : k = s.size := by omega
      have hB := nameB_all HL.out
      have hge : ¬ ((s.size : Int) < (s.size : Int)) := by omega
      have HB := Hid2.mk hB
      clear hB
      go_wp2
      all_goals
        go_ret
        first
          | exact ⟨by rw [show nameB s = decide ((s.size : Int) ≤ 12) by rw [HB.out, Bool.eq_iff_iff]; simp only [Bool.and_eq_true, decide_eq_true_eq]; omega]; rfl, M.below⟩
          | exact ⟨by rw [show nameB s = false by rw [HB.out, ← Bool.not_eq_true]; simp only [Bool.and_eq_true, decide_eq_true_eq]; omega]; rfl, M.below⟩

set_option maxRecDepth 100000 in
set_option maxHeartbeats 2000000 in
theorem l11Name_any (s : ByteArray) (w : World) (hs : s.size ≤ 1048576) : Calls Tryd.prog 24 #[.string s] w fun e w' => e = .returned (.bool (nameB s)) ∧ Below w.heap.size w w' := by
  have M := Mm.start no w
  go_enter Tryd.func24, Tryd.ntmps24
  go_wp2
  go_loopw [3, 4, 5] (fun i _ _ wr => ∃ k : Nat, k ≤ s.size ∧ i = .int .i64 (k : Int) ∧ nameTo s k = true ∧ Mm no w wr []) (fun i _ _ _ => s.size - (intOf i).toNat)
  case atStart => exact ⟨0, by omega, rfl, rfl, M⟩
  case round =>
    obtain ⟨k, hk, rfl, hl, M9⟩ := hrel
    clear M; (try clear C)
    have M := M9
    clear M9
    have HL := Hid2.mk hl
    clear hl
    by_cases hlt : k < s.size
    · have hlt' : (k : Int) < (s.size : Int) := by omega
      by_cases h1 : 97 ≤ ((s[k]'hlt).toNat : Int)
      · have d1 : decide (97 ≤ ((s[k]'hlt).toNat : Int)) = true := decide_eq_true h1
        have h2 : 48 ≤ ((s[k]'hlt).toNat : Int) := by omega
        have d2 : decide (48 ≤ ((s[k]'hlt).toNat : Int)) = true := decide_eq_true h2
        go_wp2
        apply wp_region_mm M 21 (by kernel_rfl) (by kernel_rfl); (simp only [List.take_succ_cons, List.take_zero]; repeat (first | exact wpText_nil | (apply wpText_cons; (intro w2 M; have C := M.ruleAll; simp only [Go.Proofs.YtinjjaoikofkdaaDoor.ruleAll] at C; go_wp2; exact ⟨rfl, rfl, M⟩); rfl))); (clear M; (try clear C); intro w2 M; simp only [List.drop_succ_cons, List.drop_zero]; have C := M.ruleAll; simp only [Go.Proofs.YtinjjaoikofkdaaDoor.ruleAll] at C)
        go_wp2
        all_goals
          have hb1 : ((k : Int) == 0) = true → k = 0 := by simp
          have hb2 : ((k : Int) == 0) = false → k ≠ 0 := by simp
          have hb3 : (!decide (((s[k]'hlt).toNat : Int) ≤ 122)) = false → ((s[k]'hlt).toNat : Int) ≤ 122 := by simp
          have hb4 : (!decide (((s[k]'hlt).toNat : Int) ≤ 122)) = true → ¬ ((s[k]'hlt).toNat : Int) ≤ 122 := by simp
          (try have z1 := hb1 (by assumption))
          (try have z2 := hb2 (by assumption))
          (try have z3 := hb3 (by assumption))
          (try have z4 := hb4 (by assumption))
          first
            | exact ⟨⟨k + 1, by omega, by go_num, by rw [nameTo_succ, HL.out, chr_at hlt, name_ok (by omega)]; rfl, M⟩, by simp [intOf]; omega⟩
            | (go_ret; exact ⟨by rw [nameB_fails hlt (by rw [chr_at hlt]; exact name_no (by omega))]; rfl, M.below⟩)
      · have d1 : decide (97 ≤ ((s[k]'hlt).toNat : Int)) = false := decide_eq_false h1
        by_cases h2 : 48 ≤ ((s[k]'hlt).toNat : Int)
        · have d2 : decide (48 ≤ ((s[k]'hlt).toNat : Int)) = true := decide_eq_true h2
          go_wp2
          apply wp_region_mm M 21 (by kernel_rfl) (by kernel_rfl); (simp only [List.take_succ_cons, List.take_zero]; repeat (first | exact wpText_nil | (apply wpText_cons; (intro w2 M; have C := M.ruleAll; simp only [Go.Proofs.YtinjjaoikofkdaaDoor.ruleAll] at C; go_wp2; exact ⟨rfl, rfl, M⟩); rfl))); (clear M; (try clear C); intro w2 M; simp only [List.drop_succ_cons, List.drop_zero]; have C := M.ruleAll; simp only [Go.Proofs.YtinjjaoikofkdaaDoor.ruleAll] at C)
          go_wp2
          all_goals
            have hb1 : ((k : Int) == 0) = true → k = 0 := by simp
            have hb2 : ((k : Int) == 0) = false → k ≠ 0 := by simp
            have hb3 : (!decide (((s[k]'hlt).toNat : Int) ≤ 122)) = false → ((s[k]'hlt).toNat : Int) ≤ 122 := by simp
            have hb4 : (!decide (((s[k]'hlt).toNat : Int) ≤ 122)) = true → ¬ ((s[k]'hlt).toNat : Int) ≤ 122 := by simp
            (try have z1 := hb1 (by assumption))
            (try have z2 := hb2 (by assumption))
            (try have z3 := hb3 (by assumption))
            (try have z4 := hb4 (by assumption))
            first
              | exact ⟨⟨k + 1, by omega, by go_num, by rw [nameTo_succ, HL.out, chr_at hlt, name_ok (by omega)]; rfl, M⟩, by simp [intOf]; omega⟩
              | (go_ret; exact ⟨by rw [nameB_fails hlt (by rw [chr_at hlt]; exact name_no (by omega))]; rfl, M.below⟩)
        · have d2 : decide (48 ≤ ((s[k]'hlt).toNat : Int)) = false := decide_eq_false h2
          go_wp2
          apply wp_region_mm M 21 (by kernel_rfl) (by kernel_rfl); (simp only [List.take_succ_cons, List.take_zero]; repeat (first | exact wpText_nil | (apply wpText_cons; (intro w2 M; have C := M.ruleAll; simp only [Go.Proofs.YtinjjaoikofkdaaDoor.ruleAll] at C; go_wp2; exact ⟨rfl, rfl, M⟩); rfl))); (clear M; (try clear C); intro w2 M; simp only [List.drop_succ_cons, List.drop_zero]; have C := M.ruleAll; simp only [Go.Proofs.YtinjjaoikofkdaaDoor.ruleAll] at C)
          go_wp2
          all_goals
            have hb1 : ((k : Int) == 0) = true → k = 0 := by simp
            have hb2 : ((k : Int) == 0) = false → k ≠ 0 := by simp
            have hb3 : (!decide (((s[k]'hlt).toNat : Int) ≤ 122)) = false → ((s[k]'hlt).toNat : Int) ≤ 122 := by simp
            have hb4 : (!decide (((s[k]'hlt).toNat : Int) ≤ 122)) = true → ¬ ((s[k]'hlt).toNat : Int) ≤ 122 := by simp
            (try have z1 := hb1 (by assumption))
            (try have z2 := hb2 (by assumption))
            (try have z3 := hb3 (by assumption))
            (try have z4 := hb4 (by assumption))
            first
              | exact ⟨⟨k + 1, by omega, by go_num, by rw [nameTo_succ, HL.out, chr_at hlt, name_ok (by omega)]; rfl, M⟩, by simp [intOf]; omega⟩
              | (go_ret; exact ⟨by rw [nameB_fails hlt (by rw [chr_at hlt]; exact name_no (by omega))]; rfl, M.below⟩)
    · obtain rfl : k = s.size := by omega
      have hB := nameB_all HL.out
      have hge : ¬ ((s.size : Int) < (s.size : Int)) := by omega
      have HB := Hid2.mk hB
      clear hB
      go_wp2
      all_goals
        go_ret
        first
          | exact ⟨by rw [show nameB s = decide ((s.size : Int) ≤ 12) by rw [HB.out, Bool.eq_iff_iff]; simp only [Bool.and_eq_true, decide_eq_true_eq]; omega]; rfl, M.below⟩
          | exact ⟨by rw [show nameB s = false by rw [HB.out, ← Bool.not_eq_true]; simp only [Bool.and_eq_true, decide_eq_true_eq]; omega]; rfl, M.below⟩
end Go.Proofs.YtinjjaoikofkdaaDoor

/- The program's check of loops: a contract. -/
namespace Go.Proofs.YtinjjaoikofkdaaDoor
set_option linter.unusedSimpArgs false
set_option linter.unusedVariables false
open Go.RowKit

theorem unit_isLp {n : Int} {t : Nat → Nat → Nat} (h : IsSq n t) : isLp n t = unitB n t 0 := by
  cases hu : unitB n t 0 with
  | true =>
    have := unitB_true.1 hu
    exact isLp_true.2 ⟨h, fun x _ hx => (this x hx).1, fun x _ hx => (this x hx).2⟩
  | false =>
    refine isLp_false.2 fun hl => unitB_false.1 hu fun x hx => ?_
    have := h.hi
    exact ⟨hl.left x (by omega) hx, hl.right x (by omega) hx⟩

set_option maxRecDepth 100000 in
set_option maxHeartbeats 1000000 in
theorem isLoop_any (n : Int) (t : Nat → Nat → Nat) (w : World) (hby : Byt2 t) :
    Calls Tryd.prog 54 #[.agg (sqs n t)] w fun e w' => e = .returned (.bool (isLp n t)) ∧ Below w.heap.size w w' := by
  have b1 := blk_new w (sqs n t) 36 w.heap.size rfl
  have hB : Below w.heap.size w (w.alloc (.cells (sqs n t) 36)) := (Below.refl _ _).alloc (by simp) _
  cases hs : isSq n t with
  | false =>
    have hF : isLp n t = false := isLp_false.2 fun h => by have := isSq_true.2 h.sq; rw [hs] at this; cases this
    go_enter Tryd.func54, Tryd.ntmps54
    go_wp2_with (first | (refine wpList_load_part rfl 36 _ rfl _ _ rfl (sqs n t) _ und_sqs rfl inf_sqs (cells_of_blk0 b1) ?_) | (go_at_call 32; ((with_reducible refine (isSquare_any _ _ _ hby).mono ?_); rintro e w1 ⟨rfl, hb⟩)))
    go_ret
    exact ⟨by first | rfl | exact ret_b hF, below_self hB hb⟩
  | true =>
    have hsq := isSq_true.1 hs
    have hL := unit_isLp hsq
    go_enter Tryd.func54, Tryd.ntmps54
    go_wp2_with (first | (refine wpList_load_part rfl 36 _ rfl _ _ rfl (sqs n t) _ und_sqs rfl inf_sqs (cells_of_blk0 b1) ?_) | (go_at_call 32; ((with_reducible refine (isSquare_any _ _ _ hby).mono ?_); rintro e w1 ⟨rfl, hb⟩; have b2 := b1.later hb)) | (refine wpList_load_part_g 36 _ rfl rfl _ _ rfl (sqs n t) _ und_sqs rfl inf_sqs (cells_of_blk0 b2) ?_) | (go_at_call 73; refine (isUnit_any n t 0 _ hsq.lo hsq.hi (by omega) hby).mono ?_; rintro e w2 ⟨rfl, hb2⟩))
    go_ret
    exact ⟨by first | rfl | exact ret_b hL, below_self (below_self hB hb) hb2⟩
end Go.Proofs.YtinjjaoikofkdaaDoor

/- Whether two loops are alike, for the program and for the reference; lists of squares: contracts. -/
namespace Go.Proofs.YtinjjaoikofkdaaDoor
set_option linter.unusedSimpArgs false
set_option linter.unusedVariables false
open Go Go.RowKit

set_option maxRecDepth 100000 in
set_option maxHeartbeats 1000000 in
theorem alike_any (N K : Nat) (t u : Nat → Nat → Nat) (w : World) (ht : Byt2 t) (hu : Byt2 u) (e1 : isSq (N : Int) t = true) (e2 : isSq (K : Int) u = true) :
    Calls Tryd.prog 40 #[.agg (sqs (N : Int) t), .agg (sqs (K : Int) u)] w fun e w' => e = .returned (.bool ((isoRes (isoAll N K t u)).2 == 0)) ∧ Below w.heap.size w w' := by
  have M := Mm.start no w
  have H := fun w1 => implIso_any N K t u w1 ht hu e1 e2
  generalize isoRes (isoAll N K t u) = c at H ⊢
  obtain ⟨f, d⟩ := c
  clear ht hu e1 e2
  go_enter Tryd.func40, Tryd.ntmps40
  go_wp2_with (first | ((with_reducible apply wpM_box' M 36 (sqs (N : Int) t)); rfl; exact ⟨rfl, rfl⟩; clear M; (try clear C); intro bq w9 h_bq M; have C := M.ruleAll; simp only [Go.Proofs.YtinjjaoikofkdaaDoor.ruleAll] at C) | ((with_reducible apply wpM_box' M 36 (sqs (K : Int) u)); rfl; exact ⟨rfl, rfl⟩; clear M; (try clear C); intro br w9 h_br M; have C := M.ruleAll; simp only [Go.Proofs.YtinjjaoikofkdaaDoor.ruleAll] at C) | ((with_reducible apply wpM_lda' M 1 36 0 (sqs (N : Int) t)); rfl; rfl; rfl; exact ⟨rfl, inf_sqs.trans (congrArg some (sqs_size ..).symm), _, und_sqs, rfl⟩; exact whole_of rfl) | ((with_reducible apply wpM_lda' M 0 36 0 (sqs (K : Int) u)); rfl; rfl; rfl; exact ⟨rfl, inf_sqs.trans (congrArg some (sqs_size ..).symm), _, und_sqs, rfl⟩; exact whole_of rfl) | (go_at_call 59; ((with_reducible refine (H _).mono ?_); rintro e w1 ⟨rfl, hb⟩; have hsz := M.size; (try (have G9 := G.later hb; clear G; have G := G9; clear G9)); have M9 := M.later hb; clear M; (try clear C); have M := M9; clear M9; have C := M.ruleAll; simp only [Go.Proofs.YtinjjaoikofkdaaDoor.ruleAll] at C)) | ((with_reducible apply wpM_alloc' M 52 (bys fun _ => 0)); rfl; exact ⟨rfl, _, zero_plc _, rfl⟩; clear M; (try clear C); intro b5 w9 h_b5 M; have C := M.ruleAll; simp only [Go.Proofs.YtinjjaoikofkdaaDoor.ruleAll] at C) | ((with_reducible apply wpM_sta' M 0 52 (bys f)); rfl; rfl; rfl; rfl; (first | exact .inl (by assumption) | exact .inr rfl | exact .inr (by assumption)); exact ⟨rfl, inf_plc.trans (congrArg some (bys_size ..).symm), flat_bys _⟩; (simp only [entCells, List.getElem?_cons_zero, List.getElem?_cons_succ, bys_size, bys_size]); clear M; (try clear C); intro w9 M; simp only [List.set_cons_zero, List.set_cons_succ, entBlk, entT, List.getElem?_cons_zero, List.getElem?_cons_succ] at M; have C := M.ruleAll; simp only [Go.Proofs.YtinjjaoikofkdaaDoor.ruleAll] at C))
  go_ret
  exact ⟨rfl, M.below⟩

set_option maxRecDepth 100000 in
set_option maxHeartbeats 1000000 in
theorem l11Alike_any (N K : Nat) (t u : Nat → Nat → Nat) (w : World) (ht : Byt2 t) (hu : Byt2 u) (e1 : isSq (N : Int) t = true) (e2 : isSq (K : Int) u = true) :
    Calls Tryd.prog 47 #[.agg (sqs (N : Int) t), .agg (sqs (K : Int) u)] w fun e w' => e = .returned (.tuple #[.agg (bys (isoRes (isoAll N K t u)).1), .bool ((isoRes (isoAll N K t u)).2 == 0)]) ∧ Below w.heap.size w w' := by
  have M := Mm.start no w
  have so1 := sqs_order (N : Int) t
  have so2 := sqs_order (K : Int) u
  have hbd := build_plc
  by_cases hNK : N = K
  · subst hNK
    have H := fun w1 => specIso_any N t u w1 ht hu e1 e2
    generalize isoRes (isoAll N N t u) = c at H ⊢
    obtain ⟨f, d⟩ := c
    clear ht hu e1 e2
    have hnn : ((N : Int) == (N : Int)) = true := by simp
    go_enter Tryd.func47, Tryd.ntmps47
    go_wp2_with (first | ((with_reducible apply wpM_box' M 36 (sqs (N : Int) t)); rfl; exact ⟨rfl, rfl⟩; clear M; (try clear C); intro bq w9 h_bq M; have C := M.ruleAll; simp only [Go.Proofs.YtinjjaoikofkdaaDoor.ruleAll] at C) | ((with_reducible apply wpM_box' M 36 (sqs (N : Int) u)); rfl; exact ⟨rfl, rfl⟩; clear M; (try clear C); intro br w9 h_br M; have C := M.ruleAll; simp only [Go.Proofs.YtinjjaoikofkdaaDoor.ruleAll] at C) | ((with_reducible apply wpM_lda' M 2 36 0 (sqs (N : Int) t)); rfl; rfl; rfl; exact ⟨rfl, inf_sqs.trans (congrArg some (sqs_size ..).symm), _, und_sqs, rfl⟩; exact whole_of rfl) | ((with_reducible apply wpM_lda' M 1 36 0 (sqs (N : Int) u)); rfl; rfl; rfl; exact ⟨rfl, inf_sqs.trans (congrArg some (sqs_size ..).symm), _, und_sqs, rfl⟩; exact whole_of rfl) | (go_at_call 65; ((with_reducible refine (H _).mono ?_); rintro e w1 ⟨rfl, hb⟩; have hsz := M.size; (try (have G9 := G.later hb; clear G; have G := G9; clear G9)); have M9 := M.later hb; clear M; (try clear C); have M := M9; clear M9; have C := M.ruleAll; simp only [Go.Proofs.YtinjjaoikofkdaaDoor.ruleAll] at C)) | ((with_reducible apply wpM_alloc' M 52 (bys fun _ => 0)); rfl; exact ⟨rfl, _, zero_plc _, rfl⟩; clear M; (try clear C); intro b4 w9 h_b4 M; have C := M.ruleAll; simp only [Go.Proofs.YtinjjaoikofkdaaDoor.ruleAll] at C) | ((with_reducible apply wpM_sta' M 0 52 (bys f)); rfl; rfl; rfl; rfl; (first | exact .inl (by assumption) | exact .inr rfl | exact .inr (by assumption)); exact ⟨rfl, inf_plc.trans (congrArg some (bys_size ..).symm), flat_bys _⟩; (simp only [entCells, List.getElem?_cons_zero, List.getElem?_cons_succ, bys_size, bys_size]); clear M; (try clear C); intro w9 M; simp only [List.set_cons_zero, List.set_cons_succ, entBlk, entT, List.getElem?_cons_zero, List.getElem?_cons_succ] at M; have C := M.ruleAll; simp only [Go.Proofs.YtinjjaoikofkdaaDoor.ruleAll] at C) | ((with_reducible apply wpM_lda' M 0 52 0 (bys f)); rfl; rfl; rfl; exact ⟨rfl, inf_plc.trans (congrArg some (bys_size ..).symm), _, und_plc, rfl⟩; exact whole_of rfl) | ((with_reducible apply wpM_sta' M 1 52 (bys f)); rfl; rfl; rfl; rfl; (first | exact .inl (by assumption) | exact .inr rfl | exact .inr (by assumption)); exact ⟨rfl, inf_plc.trans (congrArg some (bys_size ..).symm), flat_bys _⟩; (simp only [entCells, List.getElem?_cons_zero, List.getElem?_cons_succ, bys_size, bys_size]); clear M; (try clear C); intro w9 M; simp only [List.set_cons_zero, List.set_cons_succ, entBlk, entT, List.getElem?_cons_zero, List.getElem?_cons_succ] at M; have C := M.ruleAll; simp only [Go.Proofs.YtinjjaoikofkdaaDoor.ruleAll] at C))
    refine bodyPost_ret (v := .tuple #[.agg (bys f), .bool (d == 0)]) (by exact results_plc rfl _ _ _ _ (bys f) _ rfl und_plc rfl (inf_plc.trans (congrArg some (bys_size _).symm)) (cells_of_blk0 (M.box 1 rfl)) _ rfl) rfl ?_
    exact ⟨rfl, M.below⟩
  · have hi : isoAll N K t u = [] := if_neg hNK
    rw [hi]
    have hnn : ((N : Int) == (K : Int)) = false := beq_eq_false_iff_ne.2 (by omega)
    clear hi ht hu e1 e2
    go_enter Tryd.func47, Tryd.ntmps47
    go_wp2_with (first | ((with_reducible apply wpM_box' M 36 (sqs (N : Int) t)); rfl; exact ⟨rfl, rfl⟩; clear M; (try clear C); intro bq w9 h_bq M; have C := M.ruleAll; simp only [Go.Proofs.YtinjjaoikofkdaaDoor.ruleAll] at C) | ((with_reducible apply wpM_box' M 36 (sqs (K : Int) u)); rfl; exact ⟨rfl, rfl⟩; clear M; (try clear C); intro br w9 h_br M; have C := M.ruleAll; simp only [Go.Proofs.YtinjjaoikofkdaaDoor.ruleAll] at C) | ((with_reducible apply wpM_alloc' M 52 (bys fun _ => 0)); rfl; exact ⟨rfl, _, zero_plc _, rfl⟩; clear M; (try clear C); intro b4 w9 h_b4 M; have C := M.ruleAll; simp only [Go.Proofs.YtinjjaoikofkdaaDoor.ruleAll] at C) | (refine wpList_build 52 _ rfl rfl [] rfl _ (build_plc _) ?_) | ((with_reducible apply wpM_sta' M 0 52 (bys fun _ => 0)); rfl; rfl; rfl; rfl; (first | exact .inl (by assumption) | exact .inr rfl | exact .inr (by assumption)); exact ⟨rfl, inf_plc.trans (congrArg some (bys_size ..).symm), flat_bys _⟩; (simp only [entCells, List.getElem?_cons_zero, List.getElem?_cons_succ, bys_size, bys_size]); clear M; (try clear C); intro w9 M; simp only [List.set_cons_zero, List.set_cons_succ, entBlk, entT, List.getElem?_cons_zero, List.getElem?_cons_succ] at M; have C := M.ruleAll; simp only [Go.Proofs.YtinjjaoikofkdaaDoor.ruleAll] at C))
    refine bodyPost_ret (v := .tuple #[.agg (bys fun _ => 0), .bool false]) (by exact results_plc rfl _ _ _ _ (bys fun _ => 0) _ rfl und_plc rfl (inf_plc.trans (congrArg some (bys_size _).symm)) (cells_of_blk0 (M.box 0 rfl)) _ rfl) rfl ?_
    exact ⟨rfl, M.below⟩
end Go.Proofs.YtinjjaoikofkdaaDoor

/- Lists of squares: contracts. -/
namespace Go.Proofs.YtinjjaoikofkdaaDoor
set_option linter.unusedSimpArgs false
set_option linter.unusedVariables false
open Go Go.RowKit

theorem sqC_size (q : Sqr) : (sqC q).size = 101 := sqs_size ..
theorem sq_cells {w : World} {g : Nat} {l : List Sqr} (h : rds w g (l.length * 101) (fun j => (slC l).getD j undef)) {k : Nat} (hk : k < l.length) : ∀ j v, (sqs l[k].n l[k].t)[j]? = some v → w.cell? ⟨g, k * 101 + j, none⟩ = some v := row_cells sqC_size h hk
/-- Whether a square is a loop. -/
noncomputable def lpB (q : Sqr) : Bool := isLp q.n q.t

set_option maxRecDepth 100000 in
set_option maxHeartbeats 1000000 in
theorem areLoops_any (l : List Sqr) (hlen : l.length ≤ 10000000) (hby : ∀ q ∈ l, Byt2 q.t) (w : World) (g cap : Nat) (hr : rds w g (l.length * 101) (fun j => (slC l).getD j undef)) :
    Calls Tryd.prog 34 #[.slice (some ⟨g, 0, none⟩) l.length cap] w fun e w' => e = .returned (.bool (l.all lpB)) ∧ Below w.heap.size w w' := by
  have M := (Mm.start no w).add (x := .rd g (l.length * 101) (fun j => (slC l).getD j undef)) hr fun _ h => by cases h
  have HBY := Hid2.mk hby
  clear hr hby
  have C := M.ruleAll; simp only [Go.Proofs.YtinjjaoikofkdaaDoor.ruleAll] at C
  go_enter Tryd.func34, Tryd.ntmps34
  go_wp2
  go_loopw [7, 4] (fun i _ wr => ∃ k : Nat, k ≤ l.length ∧ i = .int .i64 (k : Int) ∧ (l.take k).all lpB = true ∧ Mm no w wr [.rd g (l.length * 101) (fun j => (slC l).getD j undef)]) (fun i _ _ => l.length - (intOf i).toNat)
  case atStart => exact ⟨0, by omega, rfl, rfl, M⟩
  case round =>
    obtain ⟨k, hk, rfl, hl, M9⟩ := hrel
    clear M; (try clear C)
    have M := M9
    clear M9
    have C := M.ruleAll; simp only [Go.Proofs.YtinjjaoikofkdaaDoor.ruleAll] at C
    have HL := Hid2.mk hl
    clear hl
    by_cases hlt : k < l.length
    · have hlt' : (k : Int) < (l.length : Int) := by omega
      have hall := all_take lpB l hlt
      have hfail := @all_fails _ lpB l k hlt
      have hB := HBY.out _ (List.getElem_mem hlt)
      obtain ⟨q, hq⟩ : ∃ q, q = l[k] := ⟨_, rfl⟩
      have hcells : ∀ {w3}, rds w3 g (l.length * 101) (fun j => (slC l).getD j undef) → ∀ j v, (sqs q.n q.t)[j]? = some v → w3.cell? ⟨g, k * 101 + j, none⟩ = some v := fun h => by rw [hq]; exact sq_cells h hlt
      rw [← hq] at hall hfail hB
      have H := fun w1 => isLoop_any q.n q.t w1 hB
      have HCE := Hid2.mk @hcells
      have hlp : lpB q = isLp q.n q.t := rfl
      rw [← hlp] at H
      clear hq hB hcells hlp
      cases hv : lpB q with
      | true =>
        simp only [hv] at H
        have HST := Hid2.mk (show (l.take (k + 1)).all lpB = true by rw [hall, HL.out, hv]; rfl)
        clear hall hfail hv
        go_wp2_with (first | (refine wpList_load_part rfl 36 _ rfl (g) (k * 101) rfl (sqs q.n q.t) _ und_sqs rfl inf_sqs (HCE.out (by first | exact M.rd 0 rfl | exact M.rd 1 rfl)) ?_) | ((with_reducible apply wpM_alloc' M 36 (sqs 0 fun _ _ => 0)); rfl; exact ⟨rfl, _, zero_sqs _, rfl⟩; clear M; (try clear C); intro b4 w9 h_b4 M; have C := M.ruleAll; simp only [Go.Proofs.YtinjjaoikofkdaaDoor.ruleAll] at C) | ((with_reducible apply wpM_sta' M 0 36 (sqs q.n q.t)); rfl; rfl; rfl; rfl; (first | exact .inl (by assumption) | exact .inr rfl | exact .inr (by assumption)); exact ⟨rfl, inf_sqs.trans (congrArg some (sqs_size ..).symm), flat_sqs _ _⟩; (simp only [entCells, List.getElem?_cons_zero, List.getElem?_cons_succ, sqs_size, sqs_size]); clear M; (try clear C); intro w9 M; simp only [List.set_cons_zero, List.set_cons_succ, entBlk, entT, List.getElem?_cons_zero, List.getElem?_cons_succ] at M; have C := M.ruleAll; simp only [Go.Proofs.YtinjjaoikofkdaaDoor.ruleAll] at C) | ((with_reducible apply wpM_lda' M 0 36 0 (sqs q.n q.t)); rfl; rfl; rfl; exact ⟨rfl, inf_sqs.trans (congrArg some (sqs_size ..).symm), _, und_sqs, rfl⟩; exact whole_of rfl) | (go_at_call 54; ((with_reducible refine (H _).mono ?_); rintro e w1 ⟨rfl, hb⟩; have hsz := M.size; (try (have G9 := G.later hb; clear G; have G := G9; clear G9)); have M9 := M.later hb; clear M; (try clear C); have M := M9; clear M9; have C := M.ruleAll; simp only [Go.Proofs.YtinjjaoikofkdaaDoor.ruleAll] at C)))
        go_roundw
        case rel => exact ⟨k + 1, by omega, by go_num, HST.out, M.drop 0⟩
        case measure => simp [intOf]; omega
      | false =>
        simp only [hv] at H
        have HST := Hid2.mk (hfail hv)
        clear hall hfail hv
        go_wp2_with (first | (refine wpList_load_part rfl 36 _ rfl (g) (k * 101) rfl (sqs q.n q.t) _ und_sqs rfl inf_sqs (HCE.out (by first | exact M.rd 0 rfl | exact M.rd 1 rfl)) ?_) | ((with_reducible apply wpM_alloc' M 36 (sqs 0 fun _ _ => 0)); rfl; exact ⟨rfl, _, zero_sqs _, rfl⟩; clear M; (try clear C); intro b4 w9 h_b4 M; have C := M.ruleAll; simp only [Go.Proofs.YtinjjaoikofkdaaDoor.ruleAll] at C) | ((with_reducible apply wpM_sta' M 0 36 (sqs q.n q.t)); rfl; rfl; rfl; rfl; (first | exact .inl (by assumption) | exact .inr rfl | exact .inr (by assumption)); exact ⟨rfl, inf_sqs.trans (congrArg some (sqs_size ..).symm), flat_sqs _ _⟩; (simp only [entCells, List.getElem?_cons_zero, List.getElem?_cons_succ, sqs_size, sqs_size]); clear M; (try clear C); intro w9 M; simp only [List.set_cons_zero, List.set_cons_succ, entBlk, entT, List.getElem?_cons_zero, List.getElem?_cons_succ] at M; have C := M.ruleAll; simp only [Go.Proofs.YtinjjaoikofkdaaDoor.ruleAll] at C) | ((with_reducible apply wpM_lda' M 0 36 0 (sqs q.n q.t)); rfl; rfl; rfl; exact ⟨rfl, inf_sqs.trans (congrArg some (sqs_size ..).symm), _, und_sqs, rfl⟩; exact whole_of rfl) | (go_at_call 54; ((with_reducible refine (H _).mono ?_); rintro e w1 ⟨rfl, hb⟩; have hsz := M.size; (try (have G9 := G.later hb; clear G; have G := G9; clear G9)); have M9 := M.later hb; clear M; (try clear C); have M := M9; clear M9; have C := M.ruleAll; simp only [Go.Proofs.YtinjjaoikofkdaaDoor.ruleAll] at C)))
        go_ret
        exact ⟨by rw [HST.out]; rfl, M.below⟩
    · obtain rfl : k = l.length := by omega
      have hge : ¬ ((l.length : Int) < (l.length : Int)) := by omega
      go_wp2
      go_ret
      exact ⟨by rw [← HL.out, List.take_length]; rfl, M.below⟩

set_option maxRecDepth 100000 in
set_option maxHeartbeats 400000 in
theorem isLarge_any (q : Sqr) (w : World) : Calls Tryd.prog 36 #[.agg (sqs q.n q.t)] w fun e w' => e = .returned (.bool (decide (7 < q.n))) ∧ Below w.heap.size w w' := by
  have M := Mm.start no w
  have so := sqs_order q.n q.t
  go_enter Tryd.func36, Tryd.ntmps36
  go_wp2_with (first | ((with_reducible apply wpM_box' M 36 (sqs q.n q.t)); rfl; exact ⟨rfl, rfl⟩; clear M; (try clear C); intro bq w9 h_bq M; have C := M.ruleAll; simp only [Go.Proofs.YtinjjaoikofkdaaDoor.ruleAll] at C))
  go_ret
  exact ⟨rfl, M.below⟩
end Go.Proofs.YtinjjaoikofkdaaDoor

/- Places in lists of squares and of names: contracts. -/
namespace Go.Proofs.YtinjjaoikofkdaaDoor
set_option linter.unusedSimpArgs false
set_option linter.unusedVariables false
open Go Go.RowKit

set_option maxRecDepth 100000 in
set_option maxHeartbeats 1000000 in
theorem indexFunc_any (l : List Sqr) (hlen : l.length ≤ 10000000) (w : World) (g cap : Nat) (hr : rds w g (l.length * 101) (fun j => (slC l).getD j undef)) (f : Nat) (cp : Array Value) (p : Sqr → Bool)
    (hen : ∀ (args : Array Value) (w : World), (callFunc f args).run Tryd.prog w = .ok (.enter f args) w)
    (hf : ∀ q ∈ l, ∀ w1, Below w.heap.size w w1 → Calls Tryd.prog f (#[.agg (sqs q.n q.t)] ++ cp) w1 fun e w' => e = .returned (.bool (p q)) ∧ Below w1.heap.size w1 w') :
    Calls Tryd.prog 55 #[.slice (some ⟨g, 0, none⟩) l.length cap, .func (.func f) #[] cp] w fun e w' => e = .returned (.int .i64 (placeOf p l)) ∧ Below w.heap.size w w' := by
  have M := (Mm.start no w).add (x := .rd g (l.length * 101) (fun j => (slC l).getD j undef)) hr fun _ h => by cases h
  have HF := Hid2.mk hf
  clear hr hf
  have C := M.ruleAll; simp only [Go.Proofs.YtinjjaoikofkdaaDoor.ruleAll] at C
  go_enter Tryd.func55, Tryd.ntmps55
  go_wp2
  go_loopw [8, 5] (fun i _ wr => ∃ k : Nat, k ≤ l.length ∧ i = .int .i64 (k : Int) ∧ (∀ j (h : j < l.length), j < k → p l[j] = false) ∧ Mm no w wr [.rd g (l.length * 101) (fun j => (slC l).getD j undef)]) (fun i _ _ => l.length - (intOf i).toNat)
  case atStart => exact ⟨0, by omega, rfl, fun j _ h => by omega, M⟩
  case round =>
    obtain ⟨k, hk, rfl, hl, M9⟩ := hrel
    clear M; (try clear C)
    have M := M9
    clear M9
    have C := M.ruleAll; simp only [Go.Proofs.YtinjjaoikofkdaaDoor.ruleAll] at C
    have HL := Hid2.mk hl
    clear hl
    by_cases hlt : k < l.length
    · have hlt' : (k : Int) < (l.length : Int) := by omega
      have hfound := fun h => @placeOf_some _ p l k hlt (fun j hj => HL.out j (Nat.lt_trans hj hlt) hj) h
      have hnext : p l[k] = false → ∀ j (h : j < l.length), j < k + 1 → p l[j] = false := fun h j hj h1 => by
        rcases Nat.lt_or_eq_of_le (Nat.lt_succ_iff.1 h1) with h2 | rfl
        · exact HL.out j hj h2
        · exact h
      have hF := HF.out _ (List.getElem_mem hlt)
      obtain ⟨q, hq⟩ : ∃ q, q = l[k] := ⟨_, rfl⟩
      have hcells : ∀ {w3}, rds w3 g (l.length * 101) (fun j => (slC l).getD j undef) → ∀ j v, (sqs q.n q.t)[j]? = some v → w3.cell? ⟨g, k * 101 + j, none⟩ = some v := fun h => by rw [hq]; exact sq_cells h hlt
      rw [← hq] at hfound hnext hF
      have HCE := Hid2.mk @hcells
      clear hq hcells
      cases hv : p q with
      | false =>
        simp only [hv] at hF
        have HST := Hid2.mk (hnext hv)
        clear hfound hnext hv
        go_wp2_with (first | (refine wpList_load_part rfl 36 _ rfl (g) (k * 101) rfl (sqs q.n q.t) _ und_sqs rfl inf_sqs (HCE.out (M.rd 0 rfl)) ?_))
        refine (hF _ M.below).mono ?_
        rintro e w1 ⟨rfl, hb⟩
        have M9 := M.later hb
        clear M; (try clear C)
        have M := M9
        clear M9
        have C := M.ruleAll; simp only [Go.Proofs.YtinjjaoikofkdaaDoor.ruleAll] at C
        go_wp2
        go_roundw
        case rel => exact ⟨k + 1, by omega, by go_num, HST.out, M⟩
        case measure => simp [intOf]; omega
      | true =>
        simp only [hv] at hF
        have HST := Hid2.mk (hfound hv)
        clear hfound hnext hv
        go_wp2_with (first | (refine wpList_load_part rfl 36 _ rfl (g) (k * 101) rfl (sqs q.n q.t) _ und_sqs rfl inf_sqs (HCE.out (M.rd 0 rfl)) ?_))
        refine (hF _ M.below).mono ?_
        rintro e w1 ⟨rfl, hb⟩
        have M9 := M.later hb
        clear M; (try clear C)
        have M := M9
        clear M9
        have C := M.ruleAll; simp only [Go.Proofs.YtinjjaoikofkdaaDoor.ruleAll] at C
        go_wp2
        go_ret
        exact ⟨by rw [HST.out]; rfl, M.below⟩
    · obtain rfl : k = l.length := by omega
      have hge : ¬ ((l.length : Int) < (l.length : Int)) := by omega
      go_wp2
      go_ret
      exact ⟨by rw [placeOf_none fun j hj => HL.out j hj hj]; rfl, M.below⟩

theorem placeOf_sign {α : Type} (p : α → Bool) (l : List α) : decide (0 ≤ placeOf p l) = l.any p := by
  unfold placeOf
  cases h : l.findIdx? p with
  | none =>
    rw [List.findIdx?_eq_none_iff] at h
    rw [show l.any p = false from List.any_eq_false.2 fun x hx => by rw [h x hx]; simp]
    rfl
  | some i =>
    obtain ⟨hi, h1, _⟩ := List.findIdx?_eq_some_iff_getElem.1 h
    rw [show l.any p = true from List.any_eq_true.2 ⟨l[i], List.getElem_mem hi, h1⟩]
    simp

set_option maxRecDepth 100000 in
set_option maxHeartbeats 400000 in
theorem containsFunc_any (l : List Sqr) (hlen : l.length ≤ 10000000) (w : World) (g cap : Nat) (hr : rds w g (l.length * 101) (fun j => (slC l).getD j undef)) (f : Nat) (cp : Array Value) (p : Sqr → Bool)
    (hen : ∀ (args : Array Value) (w : World), (callFunc f args).run Tryd.prog w = .ok (.enter f args) w)
    (hf : ∀ q ∈ l, ∀ w1, Below w.heap.size w w1 → Calls Tryd.prog f (#[.agg (sqs q.n q.t)] ++ cp) w1 fun e w' => e = .returned (.bool (p q)) ∧ Below w1.heap.size w1 w') :
    Calls Tryd.prog 35 #[.slice (some ⟨g, 0, none⟩) l.length cap, .func (.func f) #[] cp] w fun e w' => e = .returned (.bool (l.any p)) ∧ Below w.heap.size w w' := by
  have M := Mm.start no w
  have C := M.rules
  have H := indexFunc_any l hlen w g cap hr f cp p hen hf
  rw [← placeOf_sign]
  generalize placeOf p l = r at H ⊢
  clear hf hr
  go_enter Tryd.func35, Tryd.ntmps35
  go_wp2_with (first | (go_at_call 55; ((with_reducible refine (H).mono ?_); rintro e w1 ⟨rfl, hb⟩; have hsz := M.size; (try (have G9 := G.later hb; clear G; have G := G9; clear G9)); have M9 := M.later hb; clear M; (try clear C); have M := M9; clear M9; have C := M.ruleAll; simp only [Go.Proofs.YtinjjaoikofkdaaDoor.ruleAll] at C)))
  go_ret
  exact ⟨rfl, M.below⟩

/-- A row of names. -/
def nmF (l : List ByteArray) (j : Nat) : Value := .string (l.getD j .empty)
theorem nmF_at {l : List ByteArray} {k : Nat} (h : k < l.length) : nmF l k = .string l[k] := by unfold nmF; rw [List.getD_eq_getElem?_getD, List.getElem?_eq_getElem h]; rfl

set_option maxRecDepth 100000 in
set_option maxHeartbeats 1000000 in
theorem index_any (l : List ByteArray) (m : Nat) (hm : m ≤ l.length) (hlen : l.length ≤ 10000000) (s : ByteArray) (w : World) (g cap : Nat) (hr : rds w g l.length (nmF l)) :
    Calls Tryd.prog 56 #[.slice (some ⟨g, 0, none⟩) m cap, .string s] w fun e w' => e = .returned (.int .i64 (placeOf (fun x => s.toList == x.toList) (l.take m))) ∧ Below w.heap.size w w' := by
  have M := (Mm.start no w).add (x := .rd g l.length (nmF l)) hr fun _ h => by cases h
  clear hr
  have C := M.ruleAll; simp only [Go.Proofs.YtinjjaoikofkdaaDoor.ruleAll] at C
  go_enter Tryd.func56, Tryd.ntmps56
  go_wp2
  go_loopw [8, 5] (fun i _ wr => ∃ k : Nat, k ≤ m ∧ i = .int .i64 (k : Int) ∧ (∀ j (h : j < (l.take m).length), j < k → (s.toList == (l.take m)[j].toList) = false) ∧ Mm no w wr [.rd g l.length (nmF l)]) (fun i _ _ => m - (intOf i).toNat)
  case atStart => exact ⟨0, by omega, rfl, fun j _ h => by omega, M⟩
  case round =>
    obtain ⟨k, hk, rfl, hl, M9⟩ := hrel
    clear M; (try clear C)
    have M := M9
    clear M9
    have hml : (l.take m).length = m := by rw [List.length_take]; omega
    have HL := Hid2.mk hl
    clear hl
    by_cases hlt : k < m
    · have hlt' : (k : Int) < (m : Int) := by omega
      have hkl : k < (l.take m).length := by omega
      have hfound := fun h => @placeOf_some _ (fun x => s.toList == x.toList) (l.take m) k hkl (fun j hj => HL.out j (Nat.lt_trans hj hkl) hj) h
      have hnext : (s.toList == (l.take m)[k].toList) = false → ∀ j (h : j < (l.take m).length), j < k + 1 → (s.toList == (l.take m)[j].toList) = false := fun h j hj h1 => by
        rcases Nat.lt_or_eq_of_le (Nat.lt_succ_iff.1 h1) with h2 | rfl
        · exact HL.out j hj h2
        · exact h
      have hx : nmF l k = .string (l.take m)[k] := by rw [nmF_at (by omega), List.getElem_take]
      obtain ⟨x, hxx⟩ : ∃ x, x = (l.take m)[k] := ⟨_, rfl⟩
      rw [← hxx] at hfound hnext hx
      have hc := (M.rd 0 rfl).at_ k (by omega)
      rw [hx] at hc
      have HX := Hid2.mk hxx
      clear hxx hx
      cases hv : (s.toList == x.toList) with
      | false =>
        have HST := Hid2.mk (hnext hv)
        clear hfound hnext
        go_wp2
        go_roundw
        case rel => exact ⟨k + 1, by omega, by go_num, HST.out, M⟩
        case measure => simp [intOf]; omega
      | true =>
        have HST := Hid2.mk (hfound hv)
        clear hfound hnext
        go_wp2
        go_ret
        exact ⟨by rw [HST.out]; rfl, M.below⟩
    · obtain rfl : k = m := by omega
      have hge : ¬ ((k : Int) < (k : Int)) := by omega
      go_wp2
      go_ret
      exact ⟨by rw [placeOf_none fun j hj => HL.out j hj (by omega)]; rfl, M.below⟩

set_option maxRecDepth 100000 in
set_option maxHeartbeats 400000 in
theorem contains_any (l : List ByteArray) (m : Nat) (hm : m ≤ l.length) (hlen : l.length ≤ 10000000) (s : ByteArray) (w : World) (g cap : Nat) (hr : rds w g l.length (nmF l)) :
    Calls Tryd.prog 38 #[.slice (some ⟨g, 0, none⟩) m cap, .string s] w fun e w' => e = .returned (.bool ((l.take m).any fun x => s.toList == x.toList)) ∧ Below w.heap.size w w' := by
  have M := Mm.start no w
  have C := M.rules
  have H := index_any l m hm hlen s w g cap hr
  rw [← placeOf_sign]
  generalize placeOf (fun x : ByteArray => s.toList == x.toList) (l.take m) = r at H ⊢
  clear hr
  go_enter Tryd.func38, Tryd.ntmps38
  go_wp2_with (first | (go_at_call 56; ((with_reducible refine (H).mono ?_); rintro e w1 ⟨rfl, hb⟩; have hsz := M.size; (try (have G9 := G.later hb; clear G; have G := G9; clear G9)); have M9 := M.later hb; clear M; (try clear C); have M := M9; clear M9; have C := M.ruleAll; simp only [Go.Proofs.YtinjjaoikofkdaaDoor.ruleAll] at C)))
  go_ret
  exact ⟨rfl, M.below⟩

/-- A book: its names and its loops. -/
def bkA (g1 c1 g2 c2 n m : Nat) : Array Value := #[.slice (some ⟨g1, 0, none⟩) n c1, .slice (some ⟨g2, 0, none⟩) m c2]
theorem bok_size (g1 c1 g2 c2 n m : Nat) : (bkA g1 c1 g2 c2 n m).size = 2 := rfl
theorem flat_bok (g1 c1 g2 c2 n m : Nat) : flat (bkA g1 c1 g2 c2 n m) := fun u hu => by
  simp only [bkA, List.mem_cons, List.not_mem_nil, or_false] at hu
  rcases hu with rfl | rfl <;> simp
theorem und_bok : Tryd.prog.underlying 25 = some (.struct (Tryd.prog.fieldsOf 25)) := by kernel_rfl
theorem inf_bok : (Tryd.prog.info? 25).map (·.size) = some 2 := by kernel_rfl

set_option maxRecDepth 100000 in
set_option maxHeartbeats 1000000 in
theorem l11Place_any (l : List ByteArray) (hlen : l.length ≤ 10000000) (s : ByteArray) (w : World) (g1 c1 g2 c2 m : Nat) (hr : rds w g1 l.length (nmF l)) :
    Calls Tryd.prog 25 #[.agg (bkA g1 c1 g2 c2 l.length m), .string s] w fun e w' => e = .returned (.int .i64 (placeOf (fun x => x.toList == s.toList) l)) ∧ Below w.heap.size w w' := by
  have M := (Mm.start no w).add (x := .rd g1 l.length (nmF l)) hr fun _ h => by cases h
  have k0 : (bkA g1 c1 g2 c2 l.length m)[0]? = some (.slice (some ⟨g1, 0, none⟩) l.length c1) := rfl
  clear hr
  have C := M.ruleAll; simp only [Go.Proofs.YtinjjaoikofkdaaDoor.ruleAll] at C
  go_enter Tryd.func25, Tryd.ntmps25
  go_wp2_with (first | ((with_reducible apply wpM_box' M 25 (bkA g1 c1 g2 c2 l.length m)); rfl; exact ⟨rfl, rfl⟩; clear M; (try clear C); intro bb w9 h_bb M; have C := M.ruleAll; simp only [Go.Proofs.YtinjjaoikofkdaaDoor.ruleAll] at C))
  go_loopw [5] (fun i wr => ∃ k : Nat, k ≤ l.length ∧ i = .int .i64 (k : Int) ∧ (∀ j (h : j < l.length), j < k → (l[j].toList == s.toList) = false) ∧ Mm no w wr [.box bb (bkA g1 c1 g2 c2 l.length m) 25, .rd g1 l.length (nmF l)]) (fun i _ => l.length - (intOf i).toNat)
  case atStart => exact ⟨0, by omega, rfl, fun j _ h => by omega, M⟩
  case round =>
    obtain ⟨k, hk, rfl, hl, M9⟩ := hrel
    clear M; (try clear C)
    have M := M9
    clear M9
    have C := M.ruleAll; simp only [Go.Proofs.YtinjjaoikofkdaaDoor.ruleAll] at C
    have HL := Hid2.mk hl
    clear hl
    by_cases hlt : k < l.length
    · have hlt' : (k : Int) < (l.length : Int) := by omega
      have hfound := fun h => @placeOf_some _ (fun x => x.toList == s.toList) l k hlt (fun j hj => HL.out j (Nat.lt_trans hj hlt) hj) h
      have hnext : (l[k].toList == s.toList) = false → ∀ j (h : j < l.length), j < k + 1 → (l[j].toList == s.toList) = false := fun h j hj h1 => by
        rcases Nat.lt_or_eq_of_le (Nat.lt_succ_iff.1 h1) with h2 | rfl
        · exact HL.out j hj h2
        · exact h
      have hx := nmF_at hlt
      obtain ⟨x, hxx⟩ : ∃ x, x = l[k] := ⟨_, rfl⟩
      rw [← hxx] at hfound hnext hx
      have HX := Hid2.mk hxx
      clear hxx
      cases hv : (x.toList == s.toList) with
      | false =>
        have HST := Hid2.mk (hnext hv)
        clear hfound hnext
        go_wp2
        go_roundw
        case rel => exact ⟨k + 1, by omega, by go_num, HST.out, M⟩
        case measure => simp [intOf]; omega
      | true =>
        have HST := Hid2.mk (hfound hv)
        clear hfound hnext
        go_wp2
        go_ret
        exact ⟨by rw [HST.out]; rfl, M.below⟩
    · obtain rfl : k = l.length := by omega
      have hge : ¬ ((l.length : Int) < (l.length : Int)) := by omega
      go_wp2
      go_ret
      exact ⟨by rw [placeOf_none fun j hj => HL.out j hj hj]; rfl, M.below⟩
end Go.Proofs.YtinjjaoikofkdaaDoor

/- The loop of a book that is alike one, for the reference: a contract. -/
namespace Go.Proofs.YtinjjaoikofkdaaDoor
set_option linter.unusedSimpArgs false
set_option linter.unusedVariables false
open Go Go.RowKit

/-- A square that is valid. -/
def okS (q : Sqr) : Prop := Byt2 q.t ∧ isSq q.n q.t = true
/-- Whether two squares are alike; and the first isomorphism. -/
noncomputable def alkB (q r : Sqr) : Bool := (isoRes (isoAll q.n.toNat r.n.toNat q.t r.t)).2 == 0
noncomputable def alkP (q r : Sqr) : Nat → Nat := (isoRes (isoAll q.n.toNat r.n.toNat q.t r.t)).1
theorem l11Alike_sq (q r : Sqr) (w : World) (hq : okS q) (hr : okS r) : Calls Tryd.prog 47 #[.agg (sqs q.n q.t), .agg (sqs r.n r.t)] w fun e w' => e = .returned (.tuple #[.agg (bys (alkP q r)), .bool (alkB q r)]) ∧ Below w.heap.size w w' := by
  have s1 := isSq_true.1 hq.2
  have s2 := isSq_true.1 hr.2
  have e1 : ((q.n.toNat : Nat) : Int) = q.n := Int.toNat_of_nonneg (by have := s1.lo; omega)
  have e2 : ((r.n.toNat : Nat) : Int) = r.n := Int.toNat_of_nonneg (by have := s2.lo; omega)
  have h := l11Alike_any q.n.toNat r.n.toNat q.t r.t w hq.1 hr.1 (by rw [e1]; exact hq.2) (by rw [e2]; exact hr.2)
  rw [e1, e2] at h
  exact h
theorem alike_sq (q r : Sqr) (w : World) (hq : okS q) (hr : okS r) : Calls Tryd.prog 40 #[.agg (sqs q.n q.t), .agg (sqs r.n r.t)] w fun e w' => e = .returned (.bool (alkB q r)) ∧ Below w.heap.size w w' := by
  have s1 := isSq_true.1 hq.2
  have s2 := isSq_true.1 hr.2
  have e1 : ((q.n.toNat : Nat) : Int) = q.n := Int.toNat_of_nonneg (by have := s1.lo; omega)
  have e2 : ((r.n.toNat : Nat) : Int) = r.n := Int.toNat_of_nonneg (by have := s2.lo; omega)
  have h := alike_any q.n.toNat r.n.toNat q.t r.t w hq.1 hr.1 (by rw [e1]; exact hq.2) (by rw [e2]; exact hr.2)
  rw [e1, e2] at h
  exact h

theorem results_part3 {P : Program} {fn : Func} {p q : Tmp} {ty : TypeId} (h : fn.results = #[.tmp q, .cell p ty]) (tmps : Array Value) (w : World) (b off : Nat) (part : Array Value) (d : TypeDesc)
    (hp : tmps.getD p undef = .pointer (some ⟨b, off, none⟩)) (hu : P.underlying ty = some d) (hd : (match d with | .struct _ | .array _ _ => true | _ => false) = true) (hi : (P.info? ty).map (·.size) = some part.size)
    (hc : ∀ j v, part[j]? = some v → w.cell? ⟨b, off + j, none⟩ = some v) (v : Value) (hv : tmps.getD q undef = v) :
    (results fn tmps).run P w = .ok (.tuple #[v, .agg part]) w := by
  have hp' : tmps[p]?.getD undef = .pointer (some ⟨b, off, none⟩) := by simpa using hp
  have hv' : tmps[q]?.getD undef = v := by simpa using hv
  simp [results, h, hp', hv', asAddr, run_load_part w b off ty part d hu hd hi hc]

/-- The first square of a list that is alike one, and the isomorphism. -/
noncomputable def keptP (q : Sqr) (l : List Sqr) : Nat → Nat := match l.find? (alkB q) with | some r => alkP q r | none => fun _ => 0
theorem keptP_some {q : Sqr} {l : List Sqr} {k : Nat} (hk : k < l.length) (hb : ∀ j (h : j < k), alkB q (l[j]'(Nat.lt_trans h hk)) = false) (h : alkB q l[k] = true) : keptP q l = alkP q l[k] := by
  have : l.find? (alkB q) = some l[k] := List.find?_eq_some_iff_getElem.2 ⟨h, k, hk, rfl, fun j hj => by simp [hb j hj]⟩
  unfold keptP; rw [this]
theorem keptP_none {q : Sqr} {l : List Sqr} (hb : ∀ j (h : j < l.length), alkB q l[j] = false) : keptP q l = fun _ => 0 := by
  have : l.find? (alkB q) = none := List.find?_eq_none.2 fun x hx => by
    obtain ⟨j, hj, rfl⟩ := List.getElem_of_mem hx
    simp [hb j hj]
  unfold keptP; rw [this]
/-- A new variable with a permutation. -/
def StW2 (w0 : World) (f : Nat → Nat) : List Value → List Ent → Prop
  | [], Lg => Lg = []
  | [v], Lg => ∃ b, v = .pointer (some ⟨b, 0, none⟩) ∧ w0.heap.size ≤ b ∧ Lg = [.box b (bys fun _ => 0) 52]
  | v :: u :: _, Lg => (∃ b, v = .pointer (some ⟨b, 0, none⟩) ∧ w0.heap.size ≤ b ∧ Lg = [.box b (bys f) 52]) ∧ u = undef

set_option maxRecDepth 100000 in
set_option maxHeartbeats 2000000 in
theorem l11Kept_any (q : Sqr) (l : List Sqr) (hlen : l.length ≤ 10000000) (hq : okS q) (hl : ∀ r ∈ l, okS r) (w : World) (g1 c1 g2 c2 n : Nat) (hr : rds w g2 (l.length * 101) (fun j => (slC l).getD j undef)) :
    Calls Tryd.prog 27 #[.agg (bkA g1 c1 g2 c2 n l.length), .agg (sqs q.n q.t)] w fun e w' => e = .returned (.tuple #[.int .i64 (placeOf (alkB q) l), .agg (bys (keptP q l))]) ∧ Below w.heap.size w w' := by
  have M := (Mm.start no w).add (x := .rd g2 (l.length * 101) (fun j => (slC l).getD j undef)) hr fun _ h => by cases h
  have k0 : (bkA g1 c1 g2 c2 n l.length)[1]? = some (.slice (some ⟨g2, 0, none⟩) l.length c2) := rfl
  have HQ := Hid2.mk hq
  have HLL := Hid2.mk hl
  have hbd := build_plc
  clear hr hq hl
  have C := M.ruleAll; simp only [Go.Proofs.YtinjjaoikofkdaaDoor.ruleAll] at C
  go_enter Tryd.func27, Tryd.ntmps27
  go_wp2_with (first | ((with_reducible apply wpM_box' M 25 (bkA g1 c1 g2 c2 n l.length)); rfl; exact ⟨rfl, rfl⟩; clear M; (try clear C); intro bb w9 h_bb M; have C := M.ruleAll; simp only [Go.Proofs.YtinjjaoikofkdaaDoor.ruleAll] at C) | ((with_reducible apply wpM_box' M 36 (sqs q.n q.t)); rfl; exact ⟨rfl, rfl⟩; clear M; (try clear C); intro bq w9 h_bq M; have C := M.ruleAll; simp only [Go.Proofs.YtinjjaoikofkdaaDoor.ruleAll] at C) | ((with_reducible apply wpM_alloc' M 52 (bys fun _ => 0)); rfl; exact ⟨rfl, _, zero_plc _, rfl⟩; clear M; (try clear C); intro b5 w9 h_b5 M; have C := M.ruleAll; simp only [Go.Proofs.YtinjjaoikofkdaaDoor.ruleAll] at C))
  go_loopw [6, 7, 8] (fun i _ _ wr => ∃ k : Nat, k ≤ l.length ∧ i = .int .i64 (k : Int) ∧ (∀ j (h : j < l.length), j < k → alkB q l[j] = false) ∧ Mm no w wr [.box b5 (bys fun _ => 0) 52, .box bq (sqs q.n q.t) 36, .box bb (bkA g1 c1 g2 c2 n l.length) 25, .rd g2 (l.length * 101) (fun j => (slC l).getD j undef)]) (fun i _ _ _ => l.length - (intOf i).toNat)
  case atStart => exact ⟨0, by omega, rfl, fun j _ h => by omega, M⟩
  case round =>
    obtain ⟨k, hk, rfl, hl, M9⟩ := hrel
    clear M; (try clear C)
    have M := M9
    clear M9
    have C := M.ruleAll; simp only [Go.Proofs.YtinjjaoikofkdaaDoor.ruleAll] at C
    have HL := Hid2.mk hl
    clear hl
    by_cases hlt : k < l.length
    · have hlt' : (k : Int) < (l.length : Int) := by omega
      have hfound := fun h => @placeOf_some _ (alkB q) l k hlt (fun j hj => HL.out j (Nat.lt_trans hj hlt) hj) h
      have hfound2 := fun h => @keptP_some q l k hlt (fun j hj => HL.out j (Nat.lt_trans hj hlt) hj) h
      have hnext : alkB q l[k] = false → ∀ j (h : j < l.length), j < k + 1 → alkB q l[j] = false := fun h j hj h1 => by
        rcases Nat.lt_or_eq_of_le (Nat.lt_succ_iff.1 h1) with h2 | rfl
        · exact HL.out j hj h2
        · exact h
      have hF := fun w1 => l11Alike_sq q l[k] w1 HQ.out (HLL.out _ (List.getElem_mem hlt))
      obtain ⟨r, hr⟩ : ∃ r, r = l[k] := ⟨_, rfl⟩
      have hcells : ∀ {w3}, rds w3 g2 (l.length * 101) (fun j => (slC l).getD j undef) → ∀ j v, (sqs r.n r.t)[j]? = some v → w3.cell? ⟨g2, k * 101 + j, none⟩ = some v := fun h => by rw [hr]; exact sq_cells h hlt
      rw [← hr] at hfound hfound2 hnext hF
      have HCE := Hid2.mk @hcells
      clear hr hcells
      generalize alkP q r = f at hF hfound2
      generalize hv : alkB q r = b at hF hfound hfound2 hnext
      clear hv
      have HF1 := Hid2.mk hfound
      have HF2 := Hid2.mk hfound2
      have HN := Hid2.mk hnext
      clear hfound hfound2 hnext
      go_wp2
      apply wp_region_mmf2 M [0, 1, 2, 3, 4, 5, 6, 7, 8, 9] 10 11 12 _ _ (StW2 w f) (by kernel_rfl) (by kernel_rfl) rfl rfl rfl rfl rfl
      case ht => (repeat (first | exact wpTextG_nil | (apply wpTextG_cons; (intro g9 w2 hG; obtain ⟨Lg9, hSt9, G⟩ := hG; have M := G.suffix; have C := M.ruleAll; simp only [Go.Proofs.YtinjjaoikofkdaaDoor.ruleAll] at C; go_wp2_with (first | ((with_reducible apply wpM_lda' M 1 36 0 (sqs q.n q.t)); rfl; rfl; rfl; exact ⟨rfl, inf_sqs.trans (congrArg some (sqs_size ..).symm), _, und_sqs, rfl⟩; exact whole_of rfl) | (refine wpList_load_part rfl 36 _ rfl (g2) (k * 101) rfl (sqs r.n r.t) _ und_sqs rfl inf_sqs (HCE.out (M.rd 3 rfl)) ?_) | (go_at_call 47; ((with_reducible refine (hF _).mono ?_); rintro e w1 ⟨rfl, hb⟩; have hsz := M.size; (try (have G9 := G.later hb; clear G; have G := G9; clear G9)); have M9 := M.later hb; clear M; (try clear C); have M := M9; clear M9; have C := M.ruleAll; simp only [Go.Proofs.YtinjjaoikofkdaaDoor.ruleAll] at C))); exact ⟨rfl, rfl, Lg9, hSt9, G⟩); rfl)))
      case hA =>
        intro Lg w2 h M
        obtain rfl : Lg = [] := h
        refine yield_walk (ops := #[]) rfl rfl (by simp [Act.put]) ?_
        go_wp2_with (first | ((with_reducible apply wpM_alloc' M 52 (bys fun _ => 0)); rfl; exact ⟨rfl, _, zero_plc _, rfl⟩; clear M; (try clear C); intro b6 w9 h_b6 M; have C := M.ruleAll; simp only [Go.Proofs.YtinjjaoikofkdaaDoor.ruleAll] at C))
        exact ⟨_, ⟨b6, rfl, by assumption, rfl⟩, M⟩
      case hA2 =>
        intro v Lg w2 h M
        obtain ⟨b6, rfl, hb6, rfl⟩ := h
        refine yield_store (ops := #[]) (by exact rfl) (by exact rfl) ?_
        simp only [List.cons_append, List.nil_append] at M
        have C := M.ruleAll; simp only [Go.Proofs.YtinjjaoikofkdaaDoor.ruleAll] at C
        go_wp2_with (first | ((with_reducible apply wpM_sta' M 0 52 (bys f)); rfl; rfl; rfl; rfl; (first | exact .inl (by assumption) | exact .inr rfl | exact .inr (by assumption)); exact ⟨rfl, inf_plc.trans (congrArg some (bys_size ..).symm), flat_bys _⟩; (simp only [entCells, List.getElem?_cons_zero, List.getElem?_cons_succ, bys_size, bys_size]); clear M; (try clear C); intro w9 M; simp only [List.set_cons_zero, List.set_cons_succ, entBlk, entT, List.getElem?_cons_zero, List.getElem?_cons_succ] at M; have C := M.ruleAll; simp only [Go.Proofs.YtinjjaoikofkdaaDoor.ruleAll] at C))
        exact ⟨_, ⟨⟨b6, rfl, hb6, rfl⟩, rfl⟩, M⟩
      clear M; (try clear C)
      intro v u9 Lg w2 h M
      obtain ⟨⟨b6, rfl, hb6, rfl⟩, rfl⟩ := h
      simp only [List.drop_succ_cons, List.drop_zero, List.cons_append, List.nil_append] at M ⊢
      have C := M.ruleAll; simp only [Go.Proofs.YtinjjaoikofkdaaDoor.ruleAll] at C
      cases b with
      | false =>
        go_wp2
        go_roundw
        case rel => exact ⟨k + 1, by omega, by go_num, HN.out rfl, M.drop 0⟩
        case measure => simp [intOf]; omega
      | true =>
        go_wp2
        apply wp_region_mm M 3 (by kernel_rfl) (by kernel_rfl); (simp only [List.take_succ_cons, List.take_zero]; repeat (first | exact wpText_nil | (apply wpText_cons; (intro w2 M; have C := M.ruleAll; simp only [Go.Proofs.YtinjjaoikofkdaaDoor.ruleAll] at C; go_wp2_with (first | ((with_reducible apply wpM_lda' M 0 52 0 (bys f)); rfl; rfl; rfl; exact ⟨rfl, inf_plc.trans (congrArg some (bys_size ..).symm), _, und_plc, rfl⟩; exact whole_of rfl)); exact ⟨rfl, rfl, M⟩); rfl))); (clear M; (try clear C); intro w2 M; simp only [List.drop_succ_cons, List.drop_zero]; have C := M.ruleAll; simp only [Go.Proofs.YtinjjaoikofkdaaDoor.ruleAll] at C)
        go_wp2_with (first | ((with_reducible apply wpM_sta' M 1 52 (bys f)); rfl; rfl; rfl; rfl; (first | exact .inl (by assumption) | exact .inr rfl | exact .inr (by assumption)); exact ⟨rfl, inf_plc.trans (congrArg some (bys_size ..).symm), flat_bys _⟩; (simp only [entCells, List.getElem?_cons_zero, List.getElem?_cons_succ, bys_size, bys_size]); clear M; (try clear C); intro w9 M; simp only [List.set_cons_zero, List.set_cons_succ, entBlk, entT, List.getElem?_cons_zero, List.getElem?_cons_succ] at M; have C := M.ruleAll; simp only [Go.Proofs.YtinjjaoikofkdaaDoor.ruleAll] at C))
        refine bodyPost_ret (v := .tuple #[.int .i64 (k : Int), .agg (bys f)]) (by exact results_part3 rfl _ _ _ _ (bys f) _ rfl und_plc rfl (inf_plc.trans (congrArg some (bys_size _).symm)) (cells_of_blk0 (M.box 1 rfl)) _ rfl) rfl ?_
        exact ⟨by rw [HF1.out (by first | rfl | trivial), HF2.out (by first | rfl | trivial)], M.below⟩
    · obtain rfl : k = l.length := by omega
      have hge : ¬ ((l.length : Int) < (l.length : Int)) := by omega
      have h1 := placeOf_none fun j hj => HL.out j hj hj
      have h2 := keptP_none fun j hj => HL.out j hj hj
      have HF1 := Hid2.mk h1
      have HF2 := Hid2.mk h2
      clear h1 h2
      go_wp2_with (first | (refine wpList_build 52 _ rfl rfl [] rfl _ (build_plc _) ?_) | ((with_reducible apply wpM_sta' M 0 52 (bys fun _ => 0)); rfl; rfl; rfl; rfl; (first | exact .inl (by assumption) | exact .inr rfl | exact .inr (by assumption)); exact ⟨rfl, inf_plc.trans (congrArg some (bys_size ..).symm), flat_bys _⟩; (simp only [entCells, List.getElem?_cons_zero, List.getElem?_cons_succ, bys_size, bys_size]); clear M; (try clear C); intro w9 M; simp only [List.set_cons_zero, List.set_cons_succ, entBlk, entT, List.getElem?_cons_zero, List.getElem?_cons_succ] at M; have C := M.ruleAll; simp only [Go.Proofs.YtinjjaoikofkdaaDoor.ruleAll] at C))
      refine bodyPost_ret (v := .tuple #[.int .i64 (-1), .agg (bys fun _ => 0)]) (by exact results_part3 rfl _ _ _ _ (bys fun _ => 0) _ rfl und_plc rfl (inf_plc.trans (congrArg some (bys_size _).symm)) (cells_of_blk0 (M.box 0 rfl)) _ rfl) rfl ?_
      exact ⟨by rw [HF1.out, HF2.out], M.below⟩
end Go.Proofs.YtinjjaoikofkdaaDoor

/- What a book is, plain. -/
namespace Go.Proofs.YtinjjaoikofkdaaDoor
set_option linter.unusedSimpArgs false
set_option linter.unusedVariables false
open Go Go.RowKit

def sq00 : Sqr := ⟨0, fun _ _ => 0⟩
/-- Whether one name and one loop of a book are valid. -/
noncomputable def itemB (ns : List ByteArray) (ls : List Sqr) (i : Nat) : Bool :=
  nameB (ns.getD i .empty) && (placeOf (fun x => x.toList == (ns.getD i .empty).toList) ns == (i : Int)) && lpB (ls.getD i sq00) && !decide (7 < (ls.getD i sq00).n)
noncomputable def firstB (ls : List Sqr) (i : Nat) : Bool := placeOf (alkB (ls.getD i sq00)) ls == (i : Int)
/-- Whether a book is valid. -/
noncomputable def isBk (ns : List ByteArray) (ls : List Sqr) : Bool :=
  decide (ns.length ≤ 20) && decide (ls.length = ns.length) && (List.range ns.length).all (itemB ns ls) && (List.range ls.length).all (firstB ls)
theorem isBk_item {ns : List ByteArray} {ls : List Sqr} {k : Nat} (hk : k < ns.length) (h : itemB ns ls k = false) : isBk ns ls = false := by
  unfold isBk
  rw [show (List.range ns.length).all (itemB ns ls) = false from List.all_eq_false.2 ⟨k, List.mem_range.2 hk, by simp [h]⟩]
  simp
theorem isBk_first {ns : List ByteArray} {ls : List Sqr} {k : Nat} (hk : k < ls.length) (h : firstB ls k = false) : isBk ns ls = false := by
  unfold isBk
  rw [show (List.range ls.length).all (firstB ls) = false from List.all_eq_false.2 ⟨k, List.mem_range.2 hk, by simp [h]⟩]
  simp
theorem isBk_all {ns : List ByteArray} {ls : List Sqr} (h1 : ns.length ≤ 20) (h2 : ls.length = ns.length) (h3 : ∀ i, i < ns.length → itemB ns ls i = true) (h4 : ∀ i, i < ls.length → firstB ls i = true) : isBk ns ls = true := by
  unfold isBk
  rw [show (List.range ns.length).all (itemB ns ls) = true from List.all_eq_true.2 fun i hi => h3 i (List.mem_range.1 hi), show (List.range ls.length).all (firstB ls) = true from List.all_eq_true.2 fun i hi => h4 i (List.mem_range.1 hi)]
  simp [h1, h2]
theorem isBk_long {ns : List ByteArray} {ls : List Sqr} (h : ¬ (ns.length ≤ 20 ∧ ls.length = ns.length)) : isBk ns ls = false := by
  unfold isBk
  rcases Classical.em (ns.length ≤ 20) with h1 | h1
  · rw [show decide (ls.length = ns.length) = false from decide_eq_false fun e => h ⟨h1, e⟩]; simp
  · rw [show decide (ns.length ≤ 20) = false from decide_eq_false h1]; simp
theorem sq_head {l : List Sqr} {k : Nat} (hk : k < l.length) : (slC l).getD (k * 101) undef = .int .i64 l[k].n := by
  have h := rowC_get (f := sqC) sqC_size l hk (j := 0) (by omega)
  rw [Nat.add_zero] at h
  rw [List.getD_eq_getElem?_getD]
  show ((rowC sqC l)[k * 101]?).getD undef = _
  rw [h]
  show ((sqs l[k].n l[k].t)[0]?).getD undef = _
  rw [sqs_order]; rfl
end Go.Proofs.YtinjjaoikofkdaaDoor

/- Books, for the reference: a contract. -/
namespace Go.Proofs.YtinjjaoikofkdaaDoor
set_option linter.unusedSimpArgs false
set_option linter.unusedVariables false
open Go Go.RowKit

/-- A new variable and a place. -/
def StW3 (w0 : World) (p : Int) : List Value → List Ent → Prop
  | [], Lg => Lg = []
  | [v], Lg => ∃ b, v = .pointer (some ⟨b, 0, none⟩) ∧ w0.heap.size ≤ b ∧ Lg = [.box b (bys fun _ => 0) 52]
  | v :: u :: _, Lg => (∃ b, v = .pointer (some ⟨b, 0, none⟩) ∧ w0.heap.size ≤ b ∧ Lg = [.box b (bys fun _ => 0) 52]) ∧ u = .int .i64 p

set_option maxRecDepth 100000 in
set_option maxHeartbeats 4000000 in
theorem l11Is_any (ns : List ByteArray) (ls : List Sqr) (hn : ns.length ≤ 1048576) (hm : ls.length ≤ 1048576) (hsz : ∀ x ∈ ns, x.size ≤ 1048576) (hby : ∀ q ∈ ls, Byt2 q.t) (w : World) (g1 c1 g2 c2 : Nat)
    (hr1 : rds w g1 ns.length (nmF ns)) (hr2 : rds w g2 (ls.length * 101) (fun j => (slC ls).getD j undef)) (hg : g1 ≠ g2) :
    Calls Tryd.prog 11 #[.agg (bkA g1 c1 g2 c2 ns.length ls.length)] w fun e w' => e = .returned (.bool (isBk ns ls)) ∧ Below w.heap.size w w' := by
  have M := ((Mm.start no w).add (x := .rd g2 (ls.length * 101) (fun j => (slC ls).getD j undef)) hr2 fun _ h => by cases h).add (x := .rd g1 ns.length (nmF ns)) hr1 fun y hy => by
    simp only [List.mem_singleton] at hy; subst hy
    exact fun b hb hb' => hg (by cases hb; cases hb'; rfl)
  have k0 : (bkA g1 c1 g2 c2 ns.length ls.length)[0]? = some (.slice (some ⟨g1, 0, none⟩) ns.length c1) := rfl
  have k1 : (bkA g1 c1 g2 c2 ns.length ls.length)[1]? = some (.slice (some ⟨g2, 0, none⟩) ls.length c2) := rfl
  have HBY := Hid2.mk hby
  have HSZ := Hid2.mk hsz
  clear hr1 hr2 hg hby hsz
  have C := M.ruleAll; simp only [Go.Proofs.YtinjjaoikofkdaaDoor.ruleAll] at C
  by_cases hlong : ns.length ≤ 20 ∧ ls.length = ns.length
  case neg =>
    have HST := Hid2.mk (isBk_long hlong)
    by_cases h20 : ns.length ≤ 20
    · have hne : ls.length ≠ ns.length := fun e => hlong ⟨h20, e⟩
      have d1 : ¬ (20 < (ns.length : Int)) := by omega
      have d2 : decide (20 < (ns.length : Int)) = false := decide_eq_false d1
      have d3 : ((ls.length : Int) == (ns.length : Int)) = false := beq_eq_false_iff_ne.2 (by omega)
      clear hlong
      go_enter Tryd.func11, Tryd.ntmps11
      go_wp2_with (first | ((with_reducible apply wpM_box' M 25 (bkA g1 c1 g2 c2 ns.length ls.length)); rfl; exact ⟨rfl, rfl⟩; clear M; (try clear C); intro bb w9 h_bb M; have C := M.ruleAll; simp only [Go.Proofs.YtinjjaoikofkdaaDoor.ruleAll] at C))
      go_ret
      exact ⟨by rw [HST.out]; rfl, M.below⟩
    · have d1 : 20 < (ns.length : Int) := by omega
      have d2 : decide (20 < (ns.length : Int)) = true := decide_eq_true d1
      clear hlong
      go_enter Tryd.func11, Tryd.ntmps11
      go_wp2_with (first | ((with_reducible apply wpM_box' M 25 (bkA g1 c1 g2 c2 ns.length ls.length)); rfl; exact ⟨rfl, rfl⟩; clear M; (try clear C); intro bb w9 h_bb M; have C := M.ruleAll; simp only [Go.Proofs.YtinjjaoikofkdaaDoor.ruleAll] at C))
      go_ret
      exact ⟨by rw [HST.out]; rfl, M.below⟩
  case pos =>
    obtain ⟨h20, hLN⟩ := hlong
    have d1 : ¬ (20 < (ns.length : Int)) := by omega
    have d2 : decide (20 < (ns.length : Int)) = false := decide_eq_false d1
    have d3 : ((ls.length : Int) == (ns.length : Int)) = true := beq_iff_eq.2 (by omega)
    have HLN := Hid2.mk hLN
    have hbk := fun h3 h4 => isBk_all (ns := ns) (ls := ls) h20 hLN h3 h4
    have HBK := Hid2.mk hbk
    clear hLN hbk
    go_enter Tryd.func11, Tryd.ntmps11
    go_wp2_with (first | ((with_reducible apply wpM_box' M 25 (bkA g1 c1 g2 c2 ns.length ls.length)); rfl; exact ⟨rfl, rfl⟩; clear M; (try clear C); intro bb w9 h_bb M; have C := M.ruleAll; simp only [Go.Proofs.YtinjjaoikofkdaaDoor.ruleAll] at C))
    clear d1 d2 d3
    go_loopw [3] (fun i wr => ∃ k : Nat, k ≤ ns.length ∧ i = .int .i64 (k : Int) ∧ (∀ j, j < k → itemB ns ls j = true) ∧ Mm no w wr [.box bb (bkA g1 c1 g2 c2 ns.length ls.length) 25, .rd g1 ns.length (nmF ns), .rd g2 (ls.length * 101) (fun j => (slC ls).getD j undef)]) (fun i _ => ns.length - (intOf i).toNat)
    case atStart => exact ⟨0, by omega, rfl, fun j h => by omega, M⟩
    case round =>
      obtain ⟨k, hk, rfl, hl, M9⟩ := hrel
      clear M; (try clear C)
      have M := M9
      clear M9
      have C := M.ruleAll; simp only [Go.Proofs.YtinjjaoikofkdaaDoor.ruleAll] at C
      have HL := Hid2.mk hl
      clear hl
      by_cases hlt : k < ns.length
      · have hlt' : (k : Int) < (ns.length : Int) := by omega
        have hkl : k < ls.length := by rw [HLN.out]; exact hlt
        have hkl' : (k : Int) < (ls.length : Int) := by omega
        have hfail := fun h => @isBk_item ns ls k hlt h
        have hnext : itemB ns ls k = true → ∀ j, j < k + 1 → itemB ns ls j = true := fun h j h1 => by
          rcases Nat.lt_or_eq_of_le (Nat.lt_succ_iff.1 h1) with h2 | rfl
          · exact HL.out j h2
          · exact h
        obtain ⟨x, hx⟩ : ∃ x, x = ns.getD k .empty := ⟨_, rfl⟩
        obtain ⟨q, hq⟩ : ∃ q, q = ls.getD k sq00 := ⟨_, rfl⟩
        have hxe : x = ns[k] := by rw [hx, List.getD_eq_getElem?_getD, List.getElem?_eq_getElem hlt]; rfl
        have hqe : q = ls[k] := by rw [hq, List.getD_eq_getElem?_getD, List.getElem?_eq_getElem hkl]; rfl
        have hxn : nmF ns k = .string x := by rw [hx]; rfl
        have hit : itemB ns ls k = (nameB x && (placeOf (fun y => y.toList == x.toList) ns == (k : Int)) && lpB q && !decide (7 < q.n)) := by rw [hx, hq]; rfl
        have hA := fun w1 => l11Name_any x w1 (HSZ.out x (by rw [hxe]; exact List.getElem_mem hlt))
        have hP : ∀ w1, Mm no w w1 [.box bb (bkA g1 c1 g2 c2 ns.length ls.length) 25, .rd g1 ns.length (nmF ns), .rd g2 (ls.length * 101) (fun j => (slC ls).getD j undef)] → _ := fun w1 M => l11Place_any ns (by omega) x w1 g1 c1 g2 c2 ls.length (M.rd 1 rfl)
        have hL := fun w1 => l01Loop_any q.n q.t w1 (HBY.out q (by rw [hqe]; exact List.getElem_mem hkl))
        have hlp : lpB q = isLp q.n q.t := rfl
        rw [← hlp] at hL
        have hcells : ∀ {w3}, rds w3 g2 (ls.length * 101) (fun j => (slC ls).getD j undef) → ∀ j v, (sqs q.n q.t)[j]? = some v → w3.cell? ⟨g2, k * 101 + j, none⟩ = some v := fun h => by rw [hqe]; exact sq_cells h hkl
        have hhd : (slC ls)[k * 101]?.getD undef = .int .i64 q.n := by rw [hqe, ← List.getD_eq_getElem?_getD]; exact sq_head hkl
        have hk101 : k * 101 < ls.length * 101 := by omega
        have HCE := Hid2.mk @hcells
        clear hx hq hxe hqe hlp hcells
        generalize nameB x = a1 at hA hit
        generalize placeOf (fun y : ByteArray => y.toList == x.toList) ns = p at hP hit
        generalize lpB q = a3 at hL hit
        have HIT := Hid2.mk hit
        have HFAIL := Hid2.mk hfail
        have HN := Hid2.mk hnext
        clear hit hfail hnext
        cases a1 with
        | false =>
          go_wp2
          apply wp_region_mm M 31 (by kernel_rfl) (by kernel_rfl); (simp only [List.take_succ_cons, List.take_zero]; repeat (first | exact wpText_nil | (apply wpText_cons; (intro w2 M; have C := M.ruleAll; simp only [Go.Proofs.YtinjjaoikofkdaaDoor.ruleAll] at C; go_wp2_with (first | (go_at_call 24; ((with_reducible refine (hA _).mono ?_); rintro e w1 ⟨rfl, hb⟩; have hsz := M.size; (try (have G9 := G.later hb; clear G; have G := G9; clear G9)); have M9 := M.later hb; clear M; (try clear C); have M := M9; clear M9; have C := M.ruleAll; simp only [Go.Proofs.YtinjjaoikofkdaaDoor.ruleAll] at C)) | ((with_reducible apply wpM_lda' M 0 25 0 (bkA g1 c1 g2 c2 ns.length ls.length)); rfl; rfl; rfl; exact ⟨rfl, inf_bok.trans (congrArg some (bok_size ..).symm), _, und_bok, rfl⟩; exact whole_of rfl) | (go_at_call 25; ((with_reducible refine (hP _ M).mono ?_); rintro e w1 ⟨rfl, hb⟩; have hsz := M.size; (try (have G9 := G.later hb; clear G; have G := G9; clear G9)); have M9 := M.later hb; clear M; (try clear C); have M := M9; clear M9; have C := M.ruleAll; simp only [Go.Proofs.YtinjjaoikofkdaaDoor.ruleAll] at C)) | (refine wpList_load_part_g 36 _ rfl rfl (g2) (k * 101) rfl (sqs q.n q.t) _ und_sqs rfl inf_sqs (HCE.out (M.rd 2 rfl)) ?_) | (go_at_call 26; ((with_reducible refine (hL _).mono ?_); rintro e w1 ⟨rfl, hb⟩; have hsz := M.size; (try (have G9 := G.later hb; clear G; have G := G9; clear G9)); have M9 := M.later hb; clear M; (try clear C); have M := M9; clear M9; have C := M.ruleAll; simp only [Go.Proofs.YtinjjaoikofkdaaDoor.ruleAll] at C))); exact ⟨rfl, rfl, M⟩); rfl))); (clear M; (try clear C); intro w2 M; simp only [List.drop_succ_cons, List.drop_zero]; have C := M.ruleAll; simp only [Go.Proofs.YtinjjaoikofkdaaDoor.ruleAll] at C)
          go_wp2
          go_ret
          exact ⟨by rw [HFAIL.out (by rw [HIT.out]; simp [*])]; rfl, M.below⟩
        | true =>
          by_cases hpk : p = (k : Int)
          case neg =>
            have d5 : decide (p = (k : Int)) = false := decide_eq_false hpk
            have d6 : (p == (k : Int)) = false := beq_eq_false_iff_ne.2 hpk
            go_wp2
            apply wp_region_mm M 31 (by kernel_rfl) (by kernel_rfl); (simp only [List.take_succ_cons, List.take_zero]; repeat (first | exact wpText_nil | (apply wpText_cons; (intro w2 M; have C := M.ruleAll; simp only [Go.Proofs.YtinjjaoikofkdaaDoor.ruleAll] at C; go_wp2_with (first | (go_at_call 24; ((with_reducible refine (hA _).mono ?_); rintro e w1 ⟨rfl, hb⟩; have hsz := M.size; (try (have G9 := G.later hb; clear G; have G := G9; clear G9)); have M9 := M.later hb; clear M; (try clear C); have M := M9; clear M9; have C := M.ruleAll; simp only [Go.Proofs.YtinjjaoikofkdaaDoor.ruleAll] at C)) | ((with_reducible apply wpM_lda' M 0 25 0 (bkA g1 c1 g2 c2 ns.length ls.length)); rfl; rfl; rfl; exact ⟨rfl, inf_bok.trans (congrArg some (bok_size ..).symm), _, und_bok, rfl⟩; exact whole_of rfl) | (go_at_call 25; ((with_reducible refine (hP _ M).mono ?_); rintro e w1 ⟨rfl, hb⟩; have hsz := M.size; (try (have G9 := G.later hb; clear G; have G := G9; clear G9)); have M9 := M.later hb; clear M; (try clear C); have M := M9; clear M9; have C := M.ruleAll; simp only [Go.Proofs.YtinjjaoikofkdaaDoor.ruleAll] at C)) | (refine wpList_load_part_g 36 _ rfl rfl (g2) (k * 101) rfl (sqs q.n q.t) _ und_sqs rfl inf_sqs (HCE.out (M.rd 2 rfl)) ?_) | (go_at_call 26; ((with_reducible refine (hL _).mono ?_); rintro e w1 ⟨rfl, hb⟩; have hsz := M.size; (try (have G9 := G.later hb; clear G; have G := G9; clear G9)); have M9 := M.later hb; clear M; (try clear C); have M := M9; clear M9; have C := M.ruleAll; simp only [Go.Proofs.YtinjjaoikofkdaaDoor.ruleAll] at C))); exact ⟨rfl, rfl, M⟩); rfl))); (clear M; (try clear C); intro w2 M; simp only [List.drop_succ_cons, List.drop_zero]; have C := M.ruleAll; simp only [Go.Proofs.YtinjjaoikofkdaaDoor.ruleAll] at C)
            go_wp2
            go_ret
            exact ⟨by rw [HFAIL.out (by rw [HIT.out]; simp [*])]; rfl, M.below⟩
          case pos =>
            subst hpk
            cases a3 with
            | false =>
              go_wp2
              apply wp_region_mm M 31 (by kernel_rfl) (by kernel_rfl); (simp only [List.take_succ_cons, List.take_zero]; repeat (first | exact wpText_nil | (apply wpText_cons; (intro w2 M; have C := M.ruleAll; simp only [Go.Proofs.YtinjjaoikofkdaaDoor.ruleAll] at C; go_wp2_with (first | (go_at_call 24; ((with_reducible refine (hA _).mono ?_); rintro e w1 ⟨rfl, hb⟩; have hsz := M.size; (try (have G9 := G.later hb; clear G; have G := G9; clear G9)); have M9 := M.later hb; clear M; (try clear C); have M := M9; clear M9; have C := M.ruleAll; simp only [Go.Proofs.YtinjjaoikofkdaaDoor.ruleAll] at C)) | ((with_reducible apply wpM_lda' M 0 25 0 (bkA g1 c1 g2 c2 ns.length ls.length)); rfl; rfl; rfl; exact ⟨rfl, inf_bok.trans (congrArg some (bok_size ..).symm), _, und_bok, rfl⟩; exact whole_of rfl) | (go_at_call 25; ((with_reducible refine (hP _ M).mono ?_); rintro e w1 ⟨rfl, hb⟩; have hsz := M.size; (try (have G9 := G.later hb; clear G; have G := G9; clear G9)); have M9 := M.later hb; clear M; (try clear C); have M := M9; clear M9; have C := M.ruleAll; simp only [Go.Proofs.YtinjjaoikofkdaaDoor.ruleAll] at C)) | (refine wpList_load_part_g 36 _ rfl rfl (g2) (k * 101) rfl (sqs q.n q.t) _ und_sqs rfl inf_sqs (HCE.out (M.rd 2 rfl)) ?_) | (go_at_call 26; ((with_reducible refine (hL _).mono ?_); rintro e w1 ⟨rfl, hb⟩; have hsz := M.size; (try (have G9 := G.later hb; clear G; have G := G9; clear G9)); have M9 := M.later hb; clear M; (try clear C); have M := M9; clear M9; have C := M.ruleAll; simp only [Go.Proofs.YtinjjaoikofkdaaDoor.ruleAll] at C))); exact ⟨rfl, rfl, M⟩); rfl))); (clear M; (try clear C); intro w2 M; simp only [List.drop_succ_cons, List.drop_zero]; have C := M.ruleAll; simp only [Go.Proofs.YtinjjaoikofkdaaDoor.ruleAll] at C)
              go_wp2
              go_ret
              exact ⟨by rw [HFAIL.out (by rw [HIT.out]; simp [*])]; rfl, M.below⟩
            | true =>
              by_cases h7 : 7 < q.n
              · have d7 : decide (7 < q.n) = true := decide_eq_true h7
                go_wp2
                apply wp_region_mm M 31 (by kernel_rfl) (by kernel_rfl); (simp only [List.take_succ_cons, List.take_zero]; repeat (first | exact wpText_nil | (apply wpText_cons; (intro w2 M; have C := M.ruleAll; simp only [Go.Proofs.YtinjjaoikofkdaaDoor.ruleAll] at C; go_wp2_with (first | (go_at_call 24; ((with_reducible refine (hA _).mono ?_); rintro e w1 ⟨rfl, hb⟩; have hsz := M.size; (try (have G9 := G.later hb; clear G; have G := G9; clear G9)); have M9 := M.later hb; clear M; (try clear C); have M := M9; clear M9; have C := M.ruleAll; simp only [Go.Proofs.YtinjjaoikofkdaaDoor.ruleAll] at C)) | ((with_reducible apply wpM_lda' M 0 25 0 (bkA g1 c1 g2 c2 ns.length ls.length)); rfl; rfl; rfl; exact ⟨rfl, inf_bok.trans (congrArg some (bok_size ..).symm), _, und_bok, rfl⟩; exact whole_of rfl) | (go_at_call 25; ((with_reducible refine (hP _ M).mono ?_); rintro e w1 ⟨rfl, hb⟩; have hsz := M.size; (try (have G9 := G.later hb; clear G; have G := G9; clear G9)); have M9 := M.later hb; clear M; (try clear C); have M := M9; clear M9; have C := M.ruleAll; simp only [Go.Proofs.YtinjjaoikofkdaaDoor.ruleAll] at C)) | (refine wpList_load_part_g 36 _ rfl rfl (g2) (k * 101) rfl (sqs q.n q.t) _ und_sqs rfl inf_sqs (HCE.out (M.rd 2 rfl)) ?_) | (go_at_call 26; ((with_reducible refine (hL _).mono ?_); rintro e w1 ⟨rfl, hb⟩; have hsz := M.size; (try (have G9 := G.later hb; clear G; have G := G9; clear G9)); have M9 := M.later hb; clear M; (try clear C); have M := M9; clear M9; have C := M.ruleAll; simp only [Go.Proofs.YtinjjaoikofkdaaDoor.ruleAll] at C))); exact ⟨rfl, rfl, M⟩); rfl))); (clear M; (try clear C); intro w2 M; simp only [List.drop_succ_cons, List.drop_zero]; have C := M.ruleAll; simp only [Go.Proofs.YtinjjaoikofkdaaDoor.ruleAll] at C)
                go_wp2
                go_ret
                exact ⟨by rw [HFAIL.out (by rw [HIT.out]; simp [*])]; rfl, M.below⟩
              · have d7 : decide (7 < q.n) = false := decide_eq_false h7
                go_wp2
                apply wp_region_mm M 31 (by kernel_rfl) (by kernel_rfl); (simp only [List.take_succ_cons, List.take_zero]; repeat (first | exact wpText_nil | (apply wpText_cons; (intro w2 M; have C := M.ruleAll; simp only [Go.Proofs.YtinjjaoikofkdaaDoor.ruleAll] at C; go_wp2_with (first | (go_at_call 24; ((with_reducible refine (hA _).mono ?_); rintro e w1 ⟨rfl, hb⟩; have hsz := M.size; (try (have G9 := G.later hb; clear G; have G := G9; clear G9)); have M9 := M.later hb; clear M; (try clear C); have M := M9; clear M9; have C := M.ruleAll; simp only [Go.Proofs.YtinjjaoikofkdaaDoor.ruleAll] at C)) | ((with_reducible apply wpM_lda' M 0 25 0 (bkA g1 c1 g2 c2 ns.length ls.length)); rfl; rfl; rfl; exact ⟨rfl, inf_bok.trans (congrArg some (bok_size ..).symm), _, und_bok, rfl⟩; exact whole_of rfl) | (go_at_call 25; ((with_reducible refine (hP _ M).mono ?_); rintro e w1 ⟨rfl, hb⟩; have hsz := M.size; (try (have G9 := G.later hb; clear G; have G := G9; clear G9)); have M9 := M.later hb; clear M; (try clear C); have M := M9; clear M9; have C := M.ruleAll; simp only [Go.Proofs.YtinjjaoikofkdaaDoor.ruleAll] at C)) | (refine wpList_load_part_g 36 _ rfl rfl (g2) (k * 101) rfl (sqs q.n q.t) _ und_sqs rfl inf_sqs (HCE.out (M.rd 2 rfl)) ?_) | (go_at_call 26; ((with_reducible refine (hL _).mono ?_); rintro e w1 ⟨rfl, hb⟩; have hsz := M.size; (try (have G9 := G.later hb; clear G; have G := G9; clear G9)); have M9 := M.later hb; clear M; (try clear C); have M := M9; clear M9; have C := M.ruleAll; simp only [Go.Proofs.YtinjjaoikofkdaaDoor.ruleAll] at C))); exact ⟨rfl, rfl, M⟩); rfl))); (clear M; (try clear C); intro w2 M; simp only [List.drop_succ_cons, List.drop_zero]; have C := M.ruleAll; simp only [Go.Proofs.YtinjjaoikofkdaaDoor.ruleAll] at C)
                go_wp2
                go_roundw
                case rel => exact ⟨k + 1, by omega, by go_num, HN.out (by rw [HIT.out]; simp [*]), M⟩
                case measure => simp [intOf]; omega
      · obtain rfl : k = ns.length := by omega
        have hge : ¬ ((ns.length : Int) < (ns.length : Int)) := by omega
        have hok : ∀ r ∈ ls, okS r := fun r hr => by
          obtain ⟨j, hj, rfl⟩ := List.getElem_of_mem hr
          have h := HL.out j (by rw [← HLN.out]; exact hj)
          unfold itemB at h
          simp only [Bool.and_eq_true] at h
          have h2 := h.1.2
          have e : ls.getD j sq00 = ls[j] := by rw [List.getD_eq_getElem?_getD, List.getElem?_eq_getElem hj]; rfl
          rw [e] at h2
          exact ⟨HBY.out _ hr, isSq_true.2 (isLp_true.1 h2).sq⟩
        have HOK := Hid2.mk hok
        clear hok
        go_wp2
        go_loopw [4] (fun i wr => ∃ k : Nat, k ≤ ls.length ∧ i = .int .i64 (k : Int) ∧ (∀ j, j < k → firstB ls j = true) ∧ Mm no w wr [.box bb (bkA g1 c1 g2 c2 ns.length ls.length) 25, .rd g1 ns.length (nmF ns), .rd g2 (ls.length * 101) (fun j => (slC ls).getD j undef)]) (fun i _ => ls.length - (intOf i).toNat)
        case atStart => exact ⟨0, by omega, rfl, fun j h => by omega, M⟩
        case round =>
          obtain ⟨k, hk, rfl, hl, M9⟩ := hrel
          clear M; (try clear C)
          have M := M9
          clear M9
          have C := M.ruleAll; simp only [Go.Proofs.YtinjjaoikofkdaaDoor.ruleAll] at C
          have HF := Hid2.mk hl
          clear hl
          by_cases hlt : k < ls.length
          · have hlt' : (k : Int) < (ls.length : Int) := by omega
            have hfail := fun h => @isBk_first ns ls k hlt h
            have hnext : firstB ls k = true → ∀ j, j < k + 1 → firstB ls j = true := fun h j h1 => by
              rcases Nat.lt_or_eq_of_le (Nat.lt_succ_iff.1 h1) with h2 | rfl
              · exact HF.out j h2
              · exact h
            obtain ⟨q, hq⟩ : ∃ q, q = ls.getD k sq00 := ⟨_, rfl⟩
            have hqe : q = ls[k] := by rw [hq, List.getD_eq_getElem?_getD, List.getElem?_eq_getElem hlt]; rfl
            have hfi : firstB ls k = (placeOf (alkB q) ls == (k : Int)) := by rw [hq]; rfl
            have hK : ∀ w1, Mm no w w1 [.box bb (bkA g1 c1 g2 c2 ns.length ls.length) 25, .rd g1 ns.length (nmF ns), .rd g2 (ls.length * 101) (fun j => (slC ls).getD j undef)] → _ := fun w1 M => l11Kept_any q ls (by omega) (HOK.out q (by rw [hqe]; exact List.getElem_mem hlt)) HOK.out w1 g1 c1 g2 c2 ns.length (M.rd 2 rfl)
            have hcells : ∀ {w3}, rds w3 g2 (ls.length * 101) (fun j => (slC ls).getD j undef) → ∀ j v, (sqs q.n q.t)[j]? = some v → w3.cell? ⟨g2, k * 101 + j, none⟩ = some v := fun h => by rw [hqe]; exact sq_cells h hlt
            have HCE := Hid2.mk @hcells
            clear hq hqe hcells
            generalize keptP q ls = f at hK
            generalize placeOf (alkB q) ls = p at hK hfi
            have HFI := Hid2.mk hfi
            have HFAIL := Hid2.mk hfail
            have HN := Hid2.mk hnext
            clear hfi hfail hnext
            by_cases hpk : p = (k : Int)
            · have hB9 : (p == (k : Int)) = true := beq_iff_eq.2 hpk
              subst hpk
              go_wp2
              apply wp_region_mmf2 M [0, 1, 2, 3, 4, 5, 6, 7, 8, 9] 10 11 12 _ _ (StW3 w (k : Int)) (by kernel_rfl) (by kernel_rfl) rfl rfl rfl rfl rfl
              case ht => (repeat (first | exact wpTextG_nil | (apply wpTextG_cons; (intro g9 w2 hG; obtain ⟨Lg9, hSt9, G⟩ := hG; have M := G.suffix; have C := M.ruleAll; simp only [Go.Proofs.YtinjjaoikofkdaaDoor.ruleAll] at C; go_wp2_with (first | ((with_reducible apply wpM_lda' M 0 25 0 (bkA g1 c1 g2 c2 ns.length ls.length)); rfl; rfl; rfl; exact ⟨rfl, inf_bok.trans (congrArg some (bok_size ..).symm), _, und_bok, rfl⟩; exact whole_of rfl) | (refine wpList_load_part rfl 36 _ rfl (g2) (k * 101) rfl (sqs q.n q.t) _ und_sqs rfl inf_sqs (HCE.out (M.rd 2 rfl)) ?_) | (go_at_call 27; ((with_reducible refine (hK _ M).mono ?_); rintro e w1 ⟨rfl, hb⟩; have hsz := M.size; (try (have G9 := G.later hb; clear G; have G := G9; clear G9)); have M9 := M.later hb; clear M; (try clear C); have M := M9; clear M9; have C := M.ruleAll; simp only [Go.Proofs.YtinjjaoikofkdaaDoor.ruleAll] at C))); exact ⟨rfl, rfl, Lg9, hSt9, G⟩); rfl)))
              case hA =>
                intro Lg w2 h M
                obtain rfl : Lg = [] := h
                refine yield_walk (ops := #[]) rfl rfl (by simp [Act.put]) ?_
                go_wp2_with (first | ((with_reducible apply wpM_alloc' M 52 (bys fun _ => 0)); rfl; exact ⟨rfl, _, zero_plc _, rfl⟩; clear M; (try clear C); intro b6 w9 h_b6 M; have C := M.ruleAll; simp only [Go.Proofs.YtinjjaoikofkdaaDoor.ruleAll] at C))
                exact ⟨_, ⟨b6, rfl, by assumption, rfl⟩, M⟩
              case hA2 =>
                intro v Lg w2 h M
                obtain ⟨b6, rfl, hb6, rfl⟩ := h
                refine yield_walk (ops := #[]) rfl rfl (by simp [Act.put]) ?_
                go_wp2
                exact ⟨_, ⟨⟨b6, rfl, hb6, rfl⟩, rfl⟩, M⟩
              clear M; (try clear C)
              intro v u9 Lg w2 h M
              obtain ⟨⟨b6, rfl, hb6, rfl⟩, rfl⟩ := h
              simp only [List.drop_succ_cons, List.drop_zero, List.cons_append, List.nil_append] at M ⊢
              have C := M.ruleAll; simp only [Go.Proofs.YtinjjaoikofkdaaDoor.ruleAll] at C
              go_wp2_with (first | ((with_reducible apply wpM_sta' M 0 52 (bys f)); rfl; rfl; rfl; rfl; (first | exact .inl (by assumption) | exact .inr rfl | exact .inr (by assumption)); exact ⟨rfl, inf_plc.trans (congrArg some (bys_size ..).symm), flat_bys _⟩; (simp only [entCells, List.getElem?_cons_zero, List.getElem?_cons_succ, bys_size, bys_size]); clear M; (try clear C); intro w9 M; simp only [List.set_cons_zero, List.set_cons_succ, entBlk, entT, List.getElem?_cons_zero, List.getElem?_cons_succ] at M; have C := M.ruleAll; simp only [Go.Proofs.YtinjjaoikofkdaaDoor.ruleAll] at C))
              go_roundw
              case rel => exact ⟨k + 1, by omega, by go_num, HN.out (by rw [HFI.out]; exact hB9), M.drop 0⟩
              case measure => simp [intOf]; omega
            · have d5 : decide (p = (k : Int)) = false := decide_eq_false hpk
              have d6 : (p == (k : Int)) = false := beq_eq_false_iff_ne.2 hpk
              go_wp2
              apply wp_region_mmf2 M [0, 1, 2, 3, 4, 5, 6, 7, 8, 9] 10 11 12 _ _ (StW3 w p) (by kernel_rfl) (by kernel_rfl) rfl rfl rfl rfl rfl
              case ht => (repeat (first | exact wpTextG_nil | (apply wpTextG_cons; (intro g9 w2 hG; obtain ⟨Lg9, hSt9, G⟩ := hG; have M := G.suffix; have C := M.ruleAll; simp only [Go.Proofs.YtinjjaoikofkdaaDoor.ruleAll] at C; go_wp2_with (first | ((with_reducible apply wpM_lda' M 0 25 0 (bkA g1 c1 g2 c2 ns.length ls.length)); rfl; rfl; rfl; exact ⟨rfl, inf_bok.trans (congrArg some (bok_size ..).symm), _, und_bok, rfl⟩; exact whole_of rfl) | (refine wpList_load_part rfl 36 _ rfl (g2) (k * 101) rfl (sqs q.n q.t) _ und_sqs rfl inf_sqs (HCE.out (M.rd 2 rfl)) ?_) | (go_at_call 27; ((with_reducible refine (hK _ M).mono ?_); rintro e w1 ⟨rfl, hb⟩; have hsz := M.size; (try (have G9 := G.later hb; clear G; have G := G9; clear G9)); have M9 := M.later hb; clear M; (try clear C); have M := M9; clear M9; have C := M.ruleAll; simp only [Go.Proofs.YtinjjaoikofkdaaDoor.ruleAll] at C))); exact ⟨rfl, rfl, Lg9, hSt9, G⟩); rfl)))
              case hA =>
                intro Lg w2 h M
                obtain rfl : Lg = [] := h
                refine yield_walk (ops := #[]) rfl rfl (by simp [Act.put]) ?_
                go_wp2_with (first | ((with_reducible apply wpM_alloc' M 52 (bys fun _ => 0)); rfl; exact ⟨rfl, _, zero_plc _, rfl⟩; clear M; (try clear C); intro b6 w9 h_b6 M; have C := M.ruleAll; simp only [Go.Proofs.YtinjjaoikofkdaaDoor.ruleAll] at C))
                exact ⟨_, ⟨b6, rfl, by assumption, rfl⟩, M⟩
              case hA2 =>
                intro v Lg w2 h M
                obtain ⟨b6, rfl, hb6, rfl⟩ := h
                refine yield_walk (ops := #[]) rfl rfl (by simp [Act.put]) ?_
                go_wp2
                exact ⟨_, ⟨⟨b6, rfl, hb6, rfl⟩, rfl⟩, M⟩
              clear M; (try clear C)
              intro v u9 Lg w2 h M
              obtain ⟨⟨b6, rfl, hb6, rfl⟩, rfl⟩ := h
              simp only [List.drop_succ_cons, List.drop_zero, List.cons_append, List.nil_append] at M ⊢
              have C := M.ruleAll; simp only [Go.Proofs.YtinjjaoikofkdaaDoor.ruleAll] at C
              go_wp2_with (first | ((with_reducible apply wpM_sta' M 0 52 (bys f)); rfl; rfl; rfl; rfl; (first | exact .inl (by assumption) | exact .inr rfl | exact .inr (by assumption)); exact ⟨rfl, inf_plc.trans (congrArg some (bys_size ..).symm), flat_bys _⟩; (simp only [entCells, List.getElem?_cons_zero, List.getElem?_cons_succ, bys_size, bys_size]); clear M; (try clear C); intro w9 M; simp only [List.set_cons_zero, List.set_cons_succ, entBlk, entT, List.getElem?_cons_zero, List.getElem?_cons_succ] at M; have C := M.ruleAll; simp only [Go.Proofs.YtinjjaoikofkdaaDoor.ruleAll] at C))
              go_ret
              exact ⟨by rw [HFAIL.out (by rw [HFI.out]; exact d6)]; rfl, M.below⟩
          · obtain rfl : k = ls.length := by omega
            have hge : ¬ ((ls.length : Int) < (ls.length : Int)) := by omega
            have hB := HBK.out HL.out HF.out
            have HB := Hid2.mk hB
            clear hB
            go_wp2
            go_ret
            exact ⟨by rw [HB.out]; rfl, M.below⟩
end Go.Proofs.YtinjjaoikofkdaaDoor

