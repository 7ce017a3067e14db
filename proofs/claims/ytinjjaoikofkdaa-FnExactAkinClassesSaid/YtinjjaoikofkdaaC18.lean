/- The program's search for isomorphisms, whatever is called for each of them: a contract. -/
import Derived.Test.YtinjjaoikofkdaaC17
import Derived.Test.YtinjjaoikofkdaaC15
import Derived.Test.YtinjjaoikofkdaaK8
namespace Go.Proofs.Ytinjjaoikofkdaa
set_option linter.unusedSimpArgs false
set_option linter.unusedVariables false
open Go Go.RowKit

/-- What is visited: all, or the first alone. -/
def res (s : Bool) (l : List (List Nat)) : List (List Nat) := if s then l.take 1 else l
/-- What the search gives. -/
def Searched (b : Bool) (V : List (List Nat) → (Nat → Prop) → World → Prop) (l : List (List Nat)) (D : Nat → Prop) (w : World) (e : Ending) (w' : World) : Prop :=
  e = .returned (.bool b) ∧ ∃ D', (Ent.res D' (V l D')).holds w' ∧ (∀ k, D' k → D k ∨ w.heap.size ≤ k) ∧ Kept D w w'
/-- The function f, called with what it captured, keeps V, which tells what has been visited; it hands back s. -/
def Visits (s : Bool) (f : Nat) (cap : Array Value) (V : List (List Nat) → (Nat → Prop) → World → Prop) (most : Nat) : Prop :=
  (∀ (args : Array Value) (w : World), (callFunc f args).run Try.prog w = .ok (.enter f args) w) ∧ ∀ (l : List (List Nat)) (p : List Nat) (D : Nat → Prop) (w : World), (Ent.res D (V l D)).holds w → l.length < most →
    Calls Try.prog f (#[.agg (bys fun i => p.getD i 0)] ++ cap) w (Searched s V (l ++ [p]) D w)
theorem flat_led (n : Int) (t : Nat → Nat → Nat) (k : Int) (u : Nat → Nat → Nat) (m : PM) (fr : Nat → Nat) : flat (led n t k u m fr) := flat_tab fun i _ => by
  by_cases h1 : i < 101
  · rw [if_pos h1]; unfold sqs; rw [tab_get h1]; by_cases h : i = 0 <;> simp [h]
  · rw [if_neg h1]
    by_cases h2 : i < 202
    · rw [if_pos h2]; unfold sqs; rw [tab_get (by omega)]; by_cases h : i - 101 = 0 <;> simp [h]
    · rw [if_neg h2]
      by_cases h3 : i < 212
      · rw [if_pos h3]
      · rw [if_neg h3]
theorem led_size (n : Int) (t : Nat → Nat → Nat) (k : Int) (u : Nat → Nat → Nat) (m : PM) (fr : Nat → Nat) : (led n t k u m fr).size = 222 := tab_size _ _
/-- The part that is made ahead of all. -/
def led0 : Array Value := led 0 (fun _ _ => 0) 0 (fun _ _ => 0) ⟨fun _ => 0, fun _ => 1, 0⟩ fun _ => 0
theorem led0_size : led0.size = 222 := tab_size _ _
theorem zero_led (w : World) : (zeroValue 134).run Try.prog w = .ok (.agg led0) w := by kernel_rfl
theorem und_led : Try.prog.underlying 134 = some (.struct (Try.prog.fieldsOf 134)) := by kernel_rfl
theorem inf_led : (Try.prog.info? 134).map (·.size) = some 222 := by kernel_rfl

def sBox (bq bs bv : Nat) : Array Value := #[.func (.func 104) #[] #[.pointer (some ⟨bq, 0, none⟩), .pointer (some ⟨bs, 0, none⟩), .pointer (some ⟨bv, 0, none⟩)]]
theorem um_all {f : Nat → Int} {N : Nat} (h : ∀ z, z < N → 0 ≤ f z) : um f N = 0 := by
  by_cases e : um f N = 0
  · exact e
  · obtain ⟨z, hz, h2, _⟩ := um_pos e
    have := h z hz; omega
theorem res_len (s : Bool) (l : List (List Nat)) : (res s l).length ≤ l.length := by unfold res; split <;> simp <;> omega
theorem res_false (l : List (List Nat)) : res false l = l := rfl

theorem len_step {s : Bool} {l I F B rest : List (List Nat)} {most : Nat} (hI : I = F ++ (B ++ rest)) (hF : s = true → F = []) (h : l.length + (res s I).length ≤ most) : (l ++ F).length + (res s B).length ≤ most := by
  subst hI
  cases s with
  | false => simp only [res_false, List.length_append] at h ⊢; omega
  | true =>
    have hF := hF rfl
    subst hF
    simp [res] at h ⊢
    omega
theorem end_true {s : Bool} {I F B rest : List (List Nat)} (hI : I = F ++ (B ++ rest)) (hF : s = true → F = []) (h : (s && !B.isEmpty) = true) : (s && !I.isEmpty) = true ∧ ∀ l, l ++ F ++ res s B = l ++ res s I := by
  subst hI
  cases s with
  | false => cases h
  | true =>
    have hF := hF rfl
    subst hF
    cases B with
    | nil => simp at h
    | cons a B => simp [res]
theorem step_false {s : Bool} {l F B : List (List Nat)} (hF : s = true → F = []) (h : (s && !B.isEmpty) = false) : l ++ F ++ res s B = l ++ (F ++ B) ∧ (s = true → F ++ B = []) := by
  cases s with
  | false => simp [res]
  | true =>
    have hF := hF rfl
    subst hF
    cases B with
    | nil => simp [res]
    | cons a B => simp at h
theorem end_all {s : Bool} {l I F : List (List Nat)} (hI : I = F) (hF : s = true → F = []) : (s && !I.isEmpty) = false ∧ l ++ F = l ++ res s I := by
  subst hI
  cases s with
  | false => simp [res]
  | true =>
    have hF := hF rfl
    subst hF
    simp [res]
theorem slice_hi (k b : Nat) (hk : k ≤ 10) (w : World) : (Instr.sliceAt 70 (.pointer (some ⟨b, 0, none⟩)) none (some (.int .i64 (k : Int))) none).run Try.prog w = .ok (.slice (some ⟨b, 0, none⟩) k 10) w := by
  have hu : Try.prog.underlying 70 = some (.array 10 5) := by kernel_rfl
  have hs : (sizeOf 5).run Try.prog w = .ok 1 w := by kernel_rfl
  have h1 : (k : Int) ≤ 10 := by omega
  simp [Instr.sliceAt, Sem.run_bind, run_underlying hu, Instr.sureAddr, Instr.sliceBounds, Instr.sliceBound, asIntOf, hs, h1, Addr.add]
  intro h; omega
theorem copy_to {N : Nat} {t u : Nat → Nat → Nat} {m : PM} {fr : Nat → Nat} (hall : ∀ z, z < N → 0 ≤ m.to z) : ∀ j, j < (bys fun _ => 0).size → (bys (plTo m N))[j]? = if 0 ≤ j ∧ j < 0 + N then (led (N : Int) t (N : Int) u m fr)[202 + (j - 0)]? else (bys fun _ => 0)[j]? := by
  intro j hj
  rw [bys_size] at hj
  rw [bys_get hj]
  by_cases h : j < N
  · rw [if_pos (by omega), Nat.sub_zero, led_to hj]
    unfold plTo toC
    have := hall j h
    rw [if_pos h, if_neg (by omega)]
    congr 2; omega
  · rw [if_neg (by omega), bys_get hj]
    unfold plTo; rw [if_neg h]

set_option maxRecDepth 100000 in
set_option maxHeartbeats 2000000 in
theorem search_any (N : Nat) (t u : Nat → Nat → Nat) (s : Bool) (f : Nat) (cap : Array Value) (V : List (List Nat) → (Nat → Prop) → World → Prop) (most : Nat) (hV : Visits s f cap V most) (h0 : 1 ≤ N) (h1 : N ≤ 10) (ht : ∀ x y : Nat, x < N → y < N → t x y < N) (hu : ∀ x y : Nat, x < N → y < N → u x y < N) :
    ∀ (K : Nat) (m : PM) (fr : Nat → Nat) (l : List (List Nat)) (w : World) (D : Nat → Prop) (bq bs bv : Nat), Va N m → Cl N t u m → um m.to N < K → (∀ i, fr i < 10) → l.length + (res s (isos N t u m.abs)).length ≤ most →
    Mm no w w [.box bq (sqs (N : Int) t) 43, .box bs (sBox bq bs bv) 135, .box bv #[.func (.func f) #[] cap] 109, .res D (V l D)] →
    Calls Try.prog 104 #[.agg (led (N : Int) t (N : Int) u m fr), .pointer (some ⟨bq, 0, none⟩), .pointer (some ⟨bs, 0, none⟩), .pointer (some ⟨bv, 0, none⟩)] w
      (Searched (s && !(isos N t u m.abs).isEmpty) V (l ++ res s (isos N t u m.abs)) D w) := by
  intro K
  induction K with
  | zero => exact fun _ _ _ _ _ _ _ _ _ _ h => absurd h (by omega)
  | succ K IH0 =>
    intro m fr l w D bq bs bv hv hcl hK hfr hlen M0
    have IH := Hid2.mk IH0
    have HT := Hid2.mk ht
    have HU := Hid2.mk hu
    have HV := Hid2.mk hV
    have HF := Hid2.mk hfr
    clear IH0 ht hu hV hfr
    obtain ⟨M, hM⟩ : ∃ M : Mm D w w _, M = M0.only D := ⟨_, rfl⟩
    clear hM M0
    go_enter Try.func104, Try.ntmps104
    go_wp2_with (first | ((with_reducible apply wpM_box' M 134 (led (N : Int) t (N : Int) u m fr)); rfl; exact ⟨rfl, rfl⟩; clear M; (try clear C); intro bl w9 h_bl M; have C := M.ruleAll; simp only [Go.Proofs.Ytinjjaoikofkdaa.ruleAll] at C) | ((with_reducible apply wpM_lda' M 1 43 0 (sqs (N : Int) t)); rfl; rfl; rfl; exact ⟨rfl, inf_sqs.trans (congrArg some (sqs_size ..).symm), _, und_sqs, rfl⟩; exact whole_of rfl) | (go_at_call 88; ((with_reducible refine (elements_any _ _ _ (by omega) (by omega)).mono ?_); rintro e w1 ⟨g, cap_g, rfl, hb, hg, hr⟩; have hsz := M.size; have M9 := M.gain hb (x := .rd g (N : Int).toNat (fun j => .int .u8 (j : Int))) hr (fun b h => by cases h; exact hg); clear M; (try clear C); have M := M9; clear M9; (try simp only [List.set_cons_zero, List.set_cons_succ] at M); have C := M.ruleAll; simp only [Go.Proofs.Ytinjjaoikofkdaa.ruleAll] at C; clear hb hg hr)))
    go_loopw [7, 9, 10, 15, 25, 26, 27] (fun _ _ _ i _ _ _ wr => ∃ k : Nat, k ≤ N ∧ i = .int .i64 (k : Int) ∧ (∀ z, z < k → 0 ≤ m.to z) ∧ Mm D w wr [.rd g N (fun j => .int .u8 (j : Int)), .box bl (led (N : Int) t (N : Int) u m fr) 134, .box bq (sqs (N : Int) t) 43, .box bs (sBox bq bs bv) 135, .box bv #[.func (.func f) #[] cap] 109, .res D (V l D)]) (fun _ _ _ i _ _ _ _ => N - (intOf i).toNat)
    case atStart => exact ⟨0, by omega, rfl, fun z hz => absurd hz (by omega), M⟩
    case round =>
      obtain ⟨k, hk, rfl, hz, M9⟩ := hrel
      clear M; (try clear C)
      have M := M9
      clear M9
      have C := M.ruleAll; simp only [Go.Proofs.Ytinjjaoikofkdaa.ruleAll] at C
      have HZ := Hid2.mk hz
      clear hz
      by_cases hlt : k < N
      · have hlt' : (k : Int) < (N : Int) := by omega
        have c1 := led_to (n := (N : Int)) (t := t) (k := (N : Int)) (u := u) (m := m) (fr := fr) (x := k) (by omega)
        by_cases hmk : m.to k < 0
        · have htc : toC m k = 255 := by unfold toC; rw [if_pos hmk]
          rw [htc] at c1
          clear htc
          have hI := isos_first (t := t) (u := u) hlt HZ.out hmk
          have HI := Hid2.mk hI
          clear hI
          go_wp2_with (first | ((with_reducible apply wpM_lda' M 2 43 0 (sqs (N : Int) t)); rfl; rfl; rfl; exact ⟨rfl, inf_sqs.trans (congrArg some (sqs_size ..).symm), _, und_sqs, rfl⟩; exact whole_of rfl) | (go_at_call 88; ((with_reducible refine (elements_any _ _ _ (by omega) (by omega)).mono ?_); rintro e w2 ⟨g2, cap_g2, rfl, hb, hg, hr⟩; have hsz := M.size; have M9 := M.gain hb (x := .rd g2 (N : Int).toNat (fun j => .int .u8 (j : Int))) hr (fun b h => by cases h; exact hg); clear M; (try clear C); have M := M9; clear M9; (try simp only [List.set_cons_zero, List.set_cons_succ] at M); have C := M.ruleAll; simp only [Go.Proofs.Ytinjjaoikofkdaa.ruleAll] at C; clear hb hg hr)))
          clear c1
          go_loopw [9, 10, 27] (fun _ _ i wr => ∃ (y : Nat) (D' : Nat → Prop) (F : List (List Nat)), y ≤ N ∧ i = .int .i64 (y : Int) ∧ F = ((List.range y).flatMap fun y => isos N t u (upd m.abs k y)) ∧ (s = true → F = []) ∧ (∀ j, D' j → D j ∨ w.heap.size ≤ j) ∧
            Mm D w wr [.rd g2 N (fun j => .int .u8 (j : Int)), .rd g N (fun j => .int .u8 (j : Int)), .box bl (led (N : Int) t (N : Int) u m fr) 134, .box bq (sqs (N : Int) t) 43, .box bs (sBox bq bs bv) 135, .box bv #[.func (.func f) #[] cap] 109, .res D' (V (l ++ F) D')]) (fun _ _ i _ => N - (intOf i).toNat)
          case atStart => exact ⟨0, D, [], by omega, rfl, rfl, fun _ => rfl, fun _ h => .inl h, by rw [List.append_nil]; exact M⟩
          case round =>
            obtain ⟨y, D', F, hy, rfl, hF, hs0, hsub, M9⟩ := hrel
            clear M; (try clear C)
            have M := M9
            clear M9
            have C := M.ruleAll; simp only [Go.Proofs.Ytinjjaoikofkdaa.ruleAll] at C
            have HF1 := Hid2.mk hF
            have HS := Hid2.mk hs0
            have HU1 := Hid2.mk hsub
            clear hF hs0 hsub
            by_cases hyN : y < N
            · have hyN' : (y : Int) < (N : Int) := by omega
              obtain ⟨rest, hrest⟩ := flat_prefix (fun y => isos N t u (upd m.abs k y)) (show y + 1 ≤ N by omega)
              rw [← HI.out, List.range_succ, List.flatMap_append, List.flatMap_singleton, ← HF1.out, List.append_assoc] at hrest
              have HE := Hid2.mk hrest
              clear hrest
              have hC := put_closes HT.out HU.out (K := 2 + (2 * N + 1) * um m.to N) hv hlt hyN (by omega)
              have hP := fun b w1 h => put_any N t u m fr k y b w1 h0 h1 HT.out HU.out hv hlt hyN HF.out h
              generalize hR : putF N t u (2 + (2 * N + 1) * um m.to N) m [(k, y)] = R at hC hP
              clear hR
              have hlk : (k : Int) < 10 := by omega
              cases h2 : R.2 with
              | false =>
                have hnil := isos_failed hlt hmk hC h2
                simp only [h2] at hP
                have HN := Hid2.mk hnil
                clear hnil h2 hC
                go_wp2_with (first | ((with_reducible apply wpM_lda' M 2 134 0 (led (N : Int) t (N : Int) u m fr)); rfl; rfl; rfl; exact ⟨rfl, inf_led.trans (congrArg some (led_size ..).symm), _, und_led, rfl⟩; exact whole_of rfl) | ((with_reducible apply wpM_alloc' M 134 (led0)); rfl; exact ⟨rfl, _, zero_led _, rfl⟩; clear M; (try clear C); intro bn w9 h_bn M; have C := M.ruleAll; simp only [Go.Proofs.Ytinjjaoikofkdaa.ruleAll] at C) | ((with_reducible apply wpM_sta' M 0 134 (led (N : Int) t (N : Int) u m fr)); rfl; rfl; rfl; rfl; (first | exact .inl (by assumption) | exact .inr rfl | exact .inr (by assumption)); exact ⟨rfl, inf_led.trans (congrArg some (led_size ..).symm), flat_led _ _ _ _ _ _⟩; (simp only [entCells, List.getElem?_cons_zero, List.getElem?_cons_succ, led_size, led0_size]); clear M; (try clear C); intro w9 M; simp only [List.set_cons_zero, List.set_cons_succ, entBlk, entT, List.getElem?_cons_zero, List.getElem?_cons_succ] at M; have C := M.ruleAll; simp only [Go.Proofs.Ytinjjaoikofkdaa.ruleAll] at C) | (go_at_call 105; ((with_reducible refine (hP _ _ (M.box 0 rfl)).mono ?_); rintro e w3 ⟨rfl, hg3, fr9, hfr9, hb9⟩; have hsz := M.size; have M9 := M.wrote 0 rfl (.inl h_bn) hg3 hb9; clear M; (try clear C); have M := M9; clear M9; (try simp only [List.set_cons_zero, List.set_cons_succ] at M); have C := M.ruleAll; simp only [Go.Proofs.Ytinjjaoikofkdaa.ruleAll] at C; clear hg3 hb9)))
                go_roundw
                case rel => exact ⟨y + 1, D', F, by omega, by go_num, by rw [List.range_succ, List.flatMap_append, List.flatMap_singleton, HN.out, List.append_nil, HF1.out], HS.out, HU1.out, M.drop 0⟩
                case measure => simp [intOf]; omega
              | true =>
                have hnew := isos_closed hlt hmk hC h2
                have hvR := hC.va h2
                have hclR := closed_cl HT.out hcl hC h2
                have humR := closed_um hlt hmk hC h2
                simp only [h2] at hP
                rw [hnew] at HE
                have hlen2 := len_step HE.out HS.out hlen
                have hI2 := fun fr9 hf w1 hM => IH.out R.1 fr9 (l ++ F) w1 D' bq bs bv hvR hclR (by omega) hf hlen2 hM
                obtain ⟨bb, hbb⟩ : ∃ bb, (s && !(isos N t u R.1.abs).isEmpty) = bb := ⟨_, rfl⟩
                simp only [hbb] at hI2
                have HB := Hid2.mk hbb
                have HN := Hid2.mk hnew
                have hsb : (sBox bq bs bv)[0]? = some (.func (.func 104) #[] #[.pointer (some ⟨bq, 0, none⟩), .pointer (some ⟨bs, 0, none⟩), .pointer (some ⟨bv, 0, none⟩)]) := rfl
                clear hnew hbb h2 hC hvR hclR humR hlen2
                cases bb with
                | false =>
                  obtain ⟨e1, e2⟩ := step_false (l := l) HS.out HB.out
                  have E1 := Hid2.mk e1
                  have E2 := Hid2.mk e2
                  clear e1 e2
                  go_wp2_with (first | ((with_reducible apply wpM_lda' M 2 134 0 (led (N : Int) t (N : Int) u m fr)); rfl; rfl; rfl; exact ⟨rfl, inf_led.trans (congrArg some (led_size ..).symm), _, und_led, rfl⟩; exact whole_of rfl) | ((with_reducible apply wpM_alloc' M 134 (led0)); rfl; exact ⟨rfl, _, zero_led _, rfl⟩; clear M; (try clear C); intro bn w9 h_bn M; have C := M.ruleAll; simp only [Go.Proofs.Ytinjjaoikofkdaa.ruleAll] at C) | ((with_reducible apply wpM_sta' M 0 134 (led (N : Int) t (N : Int) u m fr)); rfl; rfl; rfl; rfl; (first | exact .inl (by assumption) | exact .inr rfl | exact .inr (by assumption)); exact ⟨rfl, inf_led.trans (congrArg some (led_size ..).symm), flat_led _ _ _ _ _ _⟩; (simp only [entCells, List.getElem?_cons_zero, List.getElem?_cons_succ, led_size, led0_size]); clear M; (try clear C); intro w9 M; simp only [List.set_cons_zero, List.set_cons_succ, entBlk, entT, List.getElem?_cons_zero, List.getElem?_cons_succ] at M; have C := M.ruleAll; simp only [Go.Proofs.Ytinjjaoikofkdaa.ruleAll] at C) | (go_at_call 105; ((with_reducible refine (hP _ _ (M.box 0 rfl)).mono ?_); rintro e w3 ⟨rfl, hg3, fr9, hfr9, hb9⟩; have hsz := M.size; have M9 := M.wrote 0 rfl (.inl h_bn) hg3 hb9; clear M; (try clear C); have M := M9; clear M9; (try simp only [List.set_cons_zero, List.set_cons_succ] at M); have C := M.ruleAll; simp only [Go.Proofs.Ytinjjaoikofkdaa.ruleAll] at C; clear hg3 hb9; have hw3 := M.size)) | ((with_reducible apply wpM_lda' M 0 134 0 (led (N : Int) t (N : Int) u R.1 fr9)); rfl; rfl; rfl; exact ⟨rfl, inf_led.trans (congrArg some (led_size ..).symm), _, und_led, rfl⟩; exact whole_of rfl) | (go_at_call 104; ((with_reducible refine (hI2 fr9 hfr9 _ (M.anew.sub [4, 5, 6, 7] (by decide))).mono ?_); rintro e w4 ⟨rfl, D2, hD1, hD2, hKp⟩; have hsz := M.size; have M9 := M.visit 7 rfl hD1 hD2 hKp (fun j hj h => (HU1.out j h).resolve_right (by omega)); clear M; (try clear C); have M := M9; clear M9; (try simp only [List.set_cons_zero, List.set_cons_succ] at M); have C := M.ruleAll; simp only [Go.Proofs.Ytinjjaoikofkdaa.ruleAll] at C; clear hD1 hKp)))
                  rw [E1.out] at M
                  go_roundw
                  case rel => exact ⟨y + 1, D2, F ++ isos N t u R.1.abs, by omega, by go_num, by rw [List.range_succ, List.flatMap_append, List.flatMap_singleton, HN.out, HF1.out], E2.out, fun j hj => (hD2 j hj).elim (fun h => HU1.out j h) (fun h => .inr (by omega)), M.drop 0⟩
                  case measure => simp [intOf]; omega
                | true =>
                  obtain ⟨e1, e2⟩ := end_true HE.out HS.out HB.out
                  have E1 := Hid2.mk e1
                  have E2 := Hid2.mk (e2 l)
                  clear e1 e2
                  go_wp2_with (first | ((with_reducible apply wpM_lda' M 2 134 0 (led (N : Int) t (N : Int) u m fr)); rfl; rfl; rfl; exact ⟨rfl, inf_led.trans (congrArg some (led_size ..).symm), _, und_led, rfl⟩; exact whole_of rfl) | ((with_reducible apply wpM_alloc' M 134 (led0)); rfl; exact ⟨rfl, _, zero_led _, rfl⟩; clear M; (try clear C); intro bn w9 h_bn M; have C := M.ruleAll; simp only [Go.Proofs.Ytinjjaoikofkdaa.ruleAll] at C) | ((with_reducible apply wpM_sta' M 0 134 (led (N : Int) t (N : Int) u m fr)); rfl; rfl; rfl; rfl; (first | exact .inl (by assumption) | exact .inr rfl | exact .inr (by assumption)); exact ⟨rfl, inf_led.trans (congrArg some (led_size ..).symm), flat_led _ _ _ _ _ _⟩; (simp only [entCells, List.getElem?_cons_zero, List.getElem?_cons_succ, led_size, led0_size]); clear M; (try clear C); intro w9 M; simp only [List.set_cons_zero, List.set_cons_succ, entBlk, entT, List.getElem?_cons_zero, List.getElem?_cons_succ] at M; have C := M.ruleAll; simp only [Go.Proofs.Ytinjjaoikofkdaa.ruleAll] at C) | (go_at_call 105; ((with_reducible refine (hP _ _ (M.box 0 rfl)).mono ?_); rintro e w3 ⟨rfl, hg3, fr9, hfr9, hb9⟩; have hsz := M.size; have M9 := M.wrote 0 rfl (.inl h_bn) hg3 hb9; clear M; (try clear C); have M := M9; clear M9; (try simp only [List.set_cons_zero, List.set_cons_succ] at M); have C := M.ruleAll; simp only [Go.Proofs.Ytinjjaoikofkdaa.ruleAll] at C; clear hg3 hb9; have hw3 := M.size)) | ((with_reducible apply wpM_lda' M 0 134 0 (led (N : Int) t (N : Int) u R.1 fr9)); rfl; rfl; rfl; exact ⟨rfl, inf_led.trans (congrArg some (led_size ..).symm), _, und_led, rfl⟩; exact whole_of rfl) | (go_at_call 104; ((with_reducible refine (hI2 fr9 hfr9 _ (M.anew.sub [4, 5, 6, 7] (by decide))).mono ?_); rintro e w4 ⟨rfl, D2, hD1, hD2, hKp⟩; have hsz := M.size; have M9 := M.visit 7 rfl hD1 hD2 hKp (fun j hj h => (HU1.out j h).resolve_right (by omega)); clear M; (try clear C); have M := M9; clear M9; (try simp only [List.set_cons_zero, List.set_cons_succ] at M); have C := M.ruleAll; simp only [Go.Proofs.Ytinjjaoikofkdaa.ruleAll] at C; clear hD1 hKp)))
                  go_ret
                  exact ⟨by rw [E1.out]; rfl, D2, by rw [← E2.out]; exact M.at_ 7 rfl, fun j hj => (hD2 j hj).elim (fun h => HU1.out j h) (fun h => .inr (by omega)), M.kept⟩
            · obtain rfl : y = N := by omega
              obtain ⟨e1, e2⟩ := end_all (l := l) (HI.out.trans HF1.out.symm) HS.out
              have E1 := Hid2.mk e1
              have E2 := Hid2.mk e2
              clear e1 e2
              have hge : ¬ ((y : Int) < (y : Int)) := by omega
              go_wp2
              go_ret
              exact ⟨by rw [E1.out]; rfl, D', by rw [← E2.out]; exact M.at_ 6 rfl, HU1.out, M.kept⟩
        · obtain ⟨v, hv'⟩ : ∃ v : Nat, m.to k = v := ⟨(m.to k).toNat, by omega⟩
          have hvN : v < N := by have := hv.lt k hlt; omega
          have htc : toC m k = (v : Int) := by unfold toC; rw [if_neg hmk, hv']
          have hv255 : ¬ ((v : Int) = 255) := by omega
          rw [htc] at c1
          clear htc
          have h0k : 0 ≤ m.to k := by omega
          clear hv'
          go_wp2
          go_roundw
          case rel => exact ⟨k + 1, by omega, by go_num, fun z hz => by
            by_cases e : z = k
            · subst e; exact h0k
            · exact HZ.out z (by omega), M⟩
          case measure => simp [intOf]; omega
      · obtain rfl : k = N := by omega
        have hI := isos_full HT.out hv hcl (um_all HZ.out)
        have hlw : l.length < most := by
          rw [hI] at hlen
          have : (res s [wordOf k m.abs]).length = 1 := by cases s <;> rfl
          omega
        have hVp := fun w1 h => HV.out.2 l (wordOf k m.abs) D w1 h hlw
        rw [bys_word m h1] at hVp
        have hcp := copy_to (t := t) (u := u) (fr := fr) HZ.out
        have hge : ¬ ((k : Int) < (k : Int)) := by omega
        have so := sqs_order (k : Int) t
        have hbd := build_plc
        go_wp2_with (first | ((with_reducible apply wpM_alloc' M 70 (bys fun _ => 0)); rfl; exact ⟨rfl, _, zero_plc _, rfl⟩; clear M; (try clear C); intro bp w9 h_bp M; have C := M.ruleAll; simp only [Go.Proofs.Ytinjjaoikofkdaa.ruleAll] at C) | ((with_reducible apply wpM_sta' M 0 70 (bys fun _ => 0)); rfl; rfl; rfl; rfl; (first | exact .inl (by assumption) | exact .inr rfl | exact .inr (by assumption)); exact ⟨rfl, inf_plc.trans (congrArg some (bys_size ..).symm), flat_bys _⟩; (simp only [entCells, List.getElem?_cons_zero, List.getElem?_cons_succ, bys_size, bys_size]); clear M; (try clear C); intro w9 M; simp only [List.set_cons_zero, List.set_cons_succ, entBlk, entT, List.getElem?_cons_zero, List.getElem?_cons_succ] at M; have C := M.ruleAll; simp only [Go.Proofs.Ytinjjaoikofkdaa.ruleAll] at C))
        have hsl := fun b w1 => slice_hi k b h1 w1
        apply wp_region_mm M 5 (by kernel_rfl) (by kernel_rfl); (simp only [List.take_succ_cons, List.take_zero]; repeat (first | exact wpText_nil | (apply wpText_cons; (intro w2 M; have C := M.ruleAll; simp only [Go.Proofs.Ytinjjaoikofkdaa.ruleAll] at C; go_wp2; exact ⟨rfl, rfl, M⟩); rfl))); (clear M; (try clear C); intro w2 M; simp only [List.drop_succ_cons, List.drop_zero]; have C := M.ruleAll; simp only [Go.Proofs.Ytinjjaoikofkdaa.ruleAll] at C)
        have hent := HV.out.1
        go_wp2_with (first | ((with_reducible apply wpM_copy' M 0 2 0 202 k 10 10 10 k (bys (plTo m k))); exact rfl; rfl; rfl; rfl; rfl; (simp only [Nat.min_def]; split <;> omega); exact .inl (by assumption); rfl; exact und_sl8; kernel_rfl; (refine Nat.le_trans ?_ (Nat.le_of_eq (bys_size ..).symm); omega); (refine Nat.le_trans ?_ (Nat.le_of_eq (led_size ..).symm); omega); exact flat_led _ _ _ _ _ _; exact Eq.trans (bys_size ..) (bys_size ..).symm; exact hcp; clear M; (try clear C); intro w9 M; simp only [List.set_cons_zero, List.set_cons_succ, entBlk, entT, List.getElem?_cons_zero] at M; have C := M.ruleAll; simp only [Go.Proofs.Ytinjjaoikofkdaa.ruleAll] at C) | ((with_reducible apply wpM_lda' M 0 70 0 (bys (plTo m k))); rfl; rfl; rfl; exact ⟨rfl, inf_plc.trans (congrArg some (bys_size ..).symm), _, und_plc, rfl⟩; exact whole_of rfl))
        refine (hVp _ (M.at_ 6 rfl)).mono ?_
        rintro e w1 ⟨rfl, D', hD1, hD2, hK⟩
        have hw9 := M.size
        have M9 := M.visit 6 rfl hD1 hD2 hK (fun _ _ h => h)
        clear M; (try clear C)
        go_wp2
        go_ret
        rw [hI]
        refine ⟨by cases s <;> rfl, D', ?_, fun j hj => (hD2 j hj).imp id fun h => by omega, M9.kept⟩
        cases s <;> exact hD1
end Go.Proofs.Ytinjjaoikofkdaa
