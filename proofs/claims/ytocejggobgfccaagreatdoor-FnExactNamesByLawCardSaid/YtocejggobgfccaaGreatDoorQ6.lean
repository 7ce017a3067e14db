/- The program's search for isomorphisms, whatever is called for each of them: a contract. -/
import Derived.Test.YtocejggobgfccaaGreatDoorQ5
import Derived.Test.YtocejggobgfccaaGreatDoorQ2
import Derived.Shelf.Abstract
import Derived.Test.YtocejggobgfccaaGreatDoorQ1
namespace Go.Proofs.YtocejggobgfccaaGreatDoor
set_option linter.unusedSimpArgs false
set_option linter.unusedVariables false
open Go Go.RowKit

/-- What is visited: all, or the first alone. -/
def res (s : Bool) (l : List (List Nat)) : List (List Nat) := if s then l.take 1 else l
/-- What the search gives. -/
def Searched (b : Bool) (V : List (List Nat) → (Nat → Prop) → World → Prop) (l : List (List Nat)) (D : Nat → Prop) (w : World) (e : Ending) (w' : World) : Prop :=
  e = .returned (.bool b) ∧ ∃ D', (Ent.res D' (V l D')).holds w' ∧ (∀ k, D' k → D k ∨ w.heap.size ≤ k) ∧ Kept D w w'
/-- The function f, called with what it captured, keeps V, which tells what has been visited; it hands back s. -/
def Visits (s : Bool) (f : Nat) (cap : Array Value) (V : List (List Nat) → (Nat → Prop) → World → Prop) (most : Nat) : Prop :=
  (∀ (args : Array Value) (w : World), (callFunc f args).run Tryz.prog w = .ok (.enter f args) w) ∧ ∀ (l : List (List Nat)) (p : List Nat) (D : Nat → Prop) (w : World), (Ent.res D (V l D)).holds w → l.length < most →
    Calls Tryz.prog f (#[.agg (bys fun i => p.getD i 0)] ++ cap) w (Searched s V (l ++ [p]) D w)
theorem flat_led (n : Int) (t : Nat → Nat → Nat) (k : Int) (u : Nat → Nat → Nat) (m : PM) (fr : Nat → Nat) : flat (led n t k u m fr) := flat_tab fun i _ => by
  by_cases h1 : i < 101
  · rw [if_pos h1]; unfold sqs; rw [tab_get h1]; by_cases h : i = 0 <;> simp [h]
  · rw [if_neg h1]
    by_cases h2 : i < 202
    · rw [if_pos h2]; unfold sqs; rw [tab_get (by omega)]; by_cases h : i - 101 = 0 <;> simp [h]
    · rw [if_neg h2]
      by_cases h3 : i < 212
      · rw [if_pos h3]
      · rw [if_neg h3]
theorem led_size (n : Int) (t : Nat → Nat → Nat) (k : Int) (u : Nat → Nat → Nat) (m : PM) (fr : Nat → Nat) : (led n t k u m fr).size = 222 := tab_size _ _
/-- The part that is made ahead of all. -/
def led0 : Array Value := led 0 (fun _ _ => 0) 0 (fun _ _ => 0) ⟨fun _ => 0, fun _ => 1, 0⟩ fun _ => 0
theorem led0_size : led0.size = 222 := tab_size _ _
theorem zero_led (w : World) : (zeroValue 127).run Tryz.prog w = .ok (.agg led0) w := by kernel_rfl
theorem und_led : Tryz.prog.underlying 127 = some (.struct (Tryz.prog.fieldsOf 127)) := by kernel_rfl
theorem inf_led : (Tryz.prog.info? 127).map (·.size) = some 222 := by kernel_rfl

def sBox (bq bs bv : Nat) : Array Value := #[.func (.func 93) #[] #[.pointer (some ⟨bq, 0, none⟩), .pointer (some ⟨bs, 0, none⟩), .pointer (some ⟨bv, 0, none⟩)]]
theorem um_all {f : Nat → Int} {N : Nat} (h : ∀ z, z < N → 0 ≤ f z) : um f N = 0 := by
  by_cases e : um f N = 0
  · exact e
  · obtain ⟨z, hz, h2, _⟩ := um_pos e
    have := h z hz; omega
theorem res_len (s : Bool) (l : List (List Nat)) : (res s l).length ≤ l.length := by unfold res; split <;> simp <;> omega
theorem res_false (l : List (List Nat)) : res false l = l := rfl

theorem len_step {s : Bool} {l I F B rest : List (List Nat)} {most : Nat} (hI : I = F ++ (B ++ rest)) (hF : s = true → F = []) (h : l.length + (res s I).length ≤ most) : (l ++ F).length + (res s B).length ≤ most := by
  subst hI
  cases s with
  | false => simp only [res_false, List.length_append] at h ⊢; omega
  | true =>
    have hF := hF rfl
    subst hF
    simp [res] at h ⊢
    omega
theorem end_true {s : Bool} {I F B rest : List (List Nat)} (hI : I = F ++ (B ++ rest)) (hF : s = true → F = []) (h : (s && !B.isEmpty) = true) : (s && !I.isEmpty) = true ∧ ∀ l, l ++ F ++ res s B = l ++ res s I := by
  subst hI
  cases s with
  | false => cases h
  | true =>
    have hF := hF rfl
    subst hF
    cases B with
    | nil => simp at h
    | cons a B => simp [res]
theorem step_false {s : Bool} {l F B : List (List Nat)} (hF : s = true → F = []) (h : (s && !B.isEmpty) = false) : l ++ F ++ res s B = l ++ (F ++ B) ∧ (s = true → F ++ B = []) := by
  cases s with
  | false => simp [res]
  | true =>
    have hF := hF rfl
    subst hF
    cases B with
    | nil => simp [res]
    | cons a B => simp at h
theorem end_all {s : Bool} {l I F : List (List Nat)} (hI : I = F) (hF : s = true → F = []) : (s && !I.isEmpty) = false ∧ l ++ F = l ++ res s I := by
  subst hI
  cases s with
  | false => simp [res]
  | true =>
    have hF := hF rfl
    subst hF
    simp [res]
theorem slice_hi (k b : Nat) (hk : k ≤ 10) (w : World) : (Instr.sliceAt 59 (.pointer (some ⟨b, 0, none⟩)) none (some (.int .i64 (k : Int))) none).run Tryz.prog w = .ok (.slice (some ⟨b, 0, none⟩) k 10) w := by
  have hu : Tryz.prog.underlying 59 = some (.array 10 5) := by kernel_rfl
  have hs : (sizeOf 5).run Tryz.prog w = .ok 1 w := by kernel_rfl
  have h1 : (k : Int) ≤ 10 := by omega
  simp [Instr.sliceAt, Sem.run_bind, run_underlying hu, Instr.sureAddr, Instr.sliceBounds, Instr.sliceBound, asIntOf, hs, h1, Addr.add]
  intro h; omega
theorem copy_to {N : Nat} {t u : Nat → Nat → Nat} {m : PM} {fr : Nat → Nat} (hall : ∀ z, z < N → 0 ≤ m.to z) : ∀ j, j < (bys fun _ => 0).size → (bys (plTo m N))[j]? = if 0 ≤ j ∧ j < 0 + N then (led (N : Int) t (N : Int) u m fr)[202 + (j - 0)]? else (bys fun _ => 0)[j]? := by
  intro j hj
  rw [bys_size] at hj
  rw [bys_get hj]
  by_cases h : j < N
  · rw [if_pos (by omega), Nat.sub_zero, led_to hj]
    unfold plTo toC
    have := hall j h
    rw [if_pos h, if_neg (by omega)]
    congr 2; omega
  · rw [if_neg (by omega), bys_get hj]
    unfold plTo; rw [if_neg h]

set_option maxRecDepth 100000 in
set_option maxHeartbeats 2000000 in
theorem search_any (N : Nat) (t u : Nat → Nat → Nat) (s : Bool) (f : Nat) (cap : Array Value) (V : List (List Nat) → (Nat → Prop) → World → Prop) (most : Nat) (hV : Visits s f cap V most) (h0 : 1 ≤ N) (h1 : N ≤ 10) (ht : ∀ x y : Nat, x < N → y < N → t x y < N) (hu : ∀ x y : Nat, x < N → y < N → u x y < N) :
    ∀ (K : Nat) (m : PM) (fr : Nat → Nat) (l : List (List Nat)) (w : World) (D : Nat → Prop) (bq bs bv : Nat), Va N m → Cl N t u m → um m.to N < K → (∀ i, fr i < 10) → l.length + (res s (isos N t u m.abs)).length ≤ most →
    Mm no w w [.box bq (sqs (N : Int) t) 50, .box bs (sBox bq bs bv) 128, .box bv #[.func (.func f) #[] cap] 110, .res D (V l D)] →
    Calls Tryz.prog 93 #[.agg (led (N : Int) t (N : Int) u m fr), .pointer (some ⟨bq, 0, none⟩), .pointer (some ⟨bs, 0, none⟩), .pointer (some ⟨bv, 0, none⟩)] w
      (Searched (s && !(isos N t u m.abs).isEmpty) V (l ++ res s (isos N t u m.abs)) D w) := by
  intro K
  induction K with
  | zero => exact fun _ _ _ _ _ _ _ _ _ _ h => absurd h (by omega)
  | succ K IH0 =>
    intro m fr l w D bq bs bv hv hcl hK hfr hlen M0
    have IH := Hid2.mk IH0
    have HT := Hid2.mk ht
    have HU := Hid2.mk hu
    have HV := Hid2.mk hV
    have HF := Hid2.mk hfr
    clear IH0 ht hu hV hfr
    obtain ⟨M, hM⟩ : ∃ M : Mm D w w _, M = M0.only D := ⟨_, rfl⟩
    clear hM M0
    go_enter Tryz.func93, Tryz.ntmps93
    go_wp2_with (first | ((with_reducible apply wpM_box' M 127 (led (N : Int) t (N : Int) u m fr)); rfl; exact ⟨rfl, rfl⟩; clear M; (try clear C); intro bl w9 h_bl M; have C := M.ruleAll; simp only [Go.Proofs.YtocejggobgfccaaGreatDoor.ruleAll] at C) | ((with_reducible apply wpM_lda' M 1 50 0 (sqs (N : Int) t)); rfl; rfl; rfl; exact ⟨rfl, inf_sqs.trans (congrArg some (sqs_size ..).symm), _, und_sqs, rfl⟩; exact whole_of rfl) | (go_at_call 80; ((with_reducible refine (elements_any _ _ _ (by omega) (by omega)).mono ?_); rintro e w1 ⟨g, cap_g, rfl, hb, hg, hr⟩; have hsz := M.size; have M9 := M.gain hb (x := .rd g (N : Int).toNat (fun j => .int .u8 (j : Int))) hr (fun b h => by cases h; exact hg); clear M; (try clear C); have M := M9; clear M9; (try simp only [List.set_cons_zero, List.set_cons_succ] at M); have C := M.ruleAll; simp only [Go.Proofs.YtocejggobgfccaaGreatDoor.ruleAll] at C; clear hb hg hr)))
    go_loopw [7, 9, 10, 15, 25, 26, 27] (fun _ _ _ i _ _ _ wr => ∃ k : Nat, k ≤ N ∧ i = .int .i64 (k : Int) ∧ (∀ z, z < k → 0 ≤ m.to z) ∧ Mm D w wr [.rd g N (fun j => .int .u8 (j : Int)), .box bl (led (N : Int) t (N : Int) u m fr) 127, .box bq (sqs (N : Int) t) 50, .box bs (sBox bq bs bv) 128, .box bv #[.func (.func f) #[] cap] 110, .res D (V l D)]) (fun _ _ _ i _ _ _ _ => N - (intOf i).toNat)
    case atStart => exact ⟨0, by omega, rfl, fun z hz => absurd hz (by omega), M⟩
    case round =>
      obtain ⟨k, hk, rfl, hz, M9⟩ := hrel
      clear M; (try clear C)
      have M := M9
      clear M9
      have C := M.ruleAll; simp only [Go.Proofs.YtocejggobgfccaaGreatDoor.ruleAll] at C
      have HZ := Hid2.mk hz
      clear hz
      by_cases hlt : k < N
      · have hlt' : (k : Int) < (N : Int) := by omega
        have c1 := led_to (n := (N : Int)) (t := t) (k := (N : Int)) (u := u) (m := m) (fr := fr) (x := k) (by omega)
        by_cases hmk : m.to k < 0
        · have htc : toC m k = 255 := by unfold toC; rw [if_pos hmk]
          rw [htc] at c1
          clear htc
          have hI := isos_first (t := t) (u := u) hlt HZ.out hmk
          have HI := Hid2.mk hI
          clear hI
          go_wp2_with (first | ((with_reducible apply wpM_lda' M 2 50 0 (sqs (N : Int) t)); rfl; rfl; rfl; exact ⟨rfl, inf_sqs.trans (congrArg some (sqs_size ..).symm), _, und_sqs, rfl⟩; exact whole_of rfl) | (go_at_call 80; ((with_reducible refine (elements_any _ _ _ (by omega) (by omega)).mono ?_); rintro e w2 ⟨g2, cap_g2, rfl, hb, hg, hr⟩; have hsz := M.size; have M9 := M.gain hb (x := .rd g2 (N : Int).toNat (fun j => .int .u8 (j : Int))) hr (fun b h => by cases h; exact hg); clear M; (try clear C); have M := M9; clear M9; (try simp only [List.set_cons_zero, List.set_cons_succ] at M); have C := M.ruleAll; simp only [Go.Proofs.YtocejggobgfccaaGreatDoor.ruleAll] at C; clear hb hg hr)))
          clear c1
          go_loopw [9, 10, 27] (fun _ _ i wr => ∃ (y : Nat) (D' : Nat → Prop) (F : List (List Nat)), y ≤ N ∧ i = .int .i64 (y : Int) ∧ F = ((List.range y).flatMap fun y => isos N t u (upd m.abs k y)) ∧ (s = true → F = []) ∧ (∀ j, D' j → D j ∨ w.heap.size ≤ j) ∧
            Mm D w wr [.rd g2 N (fun j => .int .u8 (j : Int)), .rd g N (fun j => .int .u8 (j : Int)), .box bl (led (N : Int) t (N : Int) u m fr) 127, .box bq (sqs (N : Int) t) 50, .box bs (sBox bq bs bv) 128, .box bv #[.func (.func f) #[] cap] 110, .res D' (V (l ++ F) D')]) (fun _ _ i _ => N - (intOf i).toNat)
          case atStart => exact ⟨0, D, [], by omega, rfl, rfl, fun _ => rfl, fun _ h => .inl h, by rw [List.append_nil]; exact M⟩
          case round =>
            obtain ⟨y, D', F, hy, rfl, hF, hs0, hsub, M9⟩ := hrel
            clear M; (try clear C)
            have M := M9
            clear M9
            have C := M.ruleAll; simp only [Go.Proofs.YtocejggobgfccaaGreatDoor.ruleAll] at C
            have HF1 := Hid2.mk hF
            have HS := Hid2.mk hs0
            have HU1 := Hid2.mk hsub
            clear hF hs0 hsub
            by_cases hyN : y < N
            · have hyN' : (y : Int) < (N : Int) := by omega
              obtain ⟨rest, hrest⟩ := flat_prefix (fun y => isos N t u (upd m.abs k y)) (show y + 1 ≤ N by omega)
              rw [← HI.out, List.range_succ, List.flatMap_append, List.flatMap_singleton, ← HF1.out, List.append_assoc] at hrest
              have HE := Hid2.mk hrest
              clear hrest
              have hC := put_closes HT.out HU.out (K := 2 + (2 * N + 1) * um m.to N) hv hlt hyN (by omega)
              have hP := fun b w1 h => put_any N t u m fr k y b w1 h0 h1 HT.out HU.out hv hlt hyN HF.out h
              generalize hR : putF N t u (2 + (2 * N + 1) * um m.to N) m [(k, y)] = R at hC hP
              clear hR
              have hlk : (k : Int) < 10 := by omega
              cases h2 : R.2 with
              | false =>
                have hnil := isos_failed hlt hmk hC h2
                simp only [h2] at hP
                have HN := Hid2.mk hnil
                clear hnil h2 hC
                go_wp2_with (first | ((with_reducible apply wpM_lda' M 2 127 0 (led (N : Int) t (N : Int) u m fr)); rfl; rfl; rfl; exact ⟨rfl, inf_led.trans (congrArg some (led_size ..).symm), _, und_led, rfl⟩; exact whole_of rfl) | ((with_reducible apply wpM_alloc' M 127 (led0)); rfl; exact ⟨rfl, _, zero_led _, rfl⟩; clear M; (try clear C); intro bn w9 h_bn M; have C := M.ruleAll; simp only [Go.Proofs.YtocejggobgfccaaGreatDoor.ruleAll] at C) | ((with_reducible apply wpM_sta' M 0 127 (led (N : Int) t (N : Int) u m fr)); rfl; rfl; rfl; rfl; (first | exact .inl (by assumption) | exact .inr rfl | exact .inr (by assumption)); exact ⟨rfl, inf_led.trans (congrArg some (led_size ..).symm), flat_led _ _ _ _ _ _⟩; (simp only [entCells, List.getElem?_cons_zero, List.getElem?_cons_succ, led_size, led0_size]); clear M; (try clear C); intro w9 M; simp only [List.set_cons_zero, List.set_cons_succ, entBlk, entT, List.getElem?_cons_zero, List.getElem?_cons_succ] at M; have C := M.ruleAll; simp only [Go.Proofs.YtocejggobgfccaaGreatDoor.ruleAll] at C) | (go_at_call 94; ((with_reducible refine (hP _ _ (M.box 0 rfl)).mono ?_); rintro e w3 ⟨rfl, hg3, fr9, hfr9, hb9⟩; have hsz := M.size; have M9 := M.wrote 0 rfl (.inl h_bn) hg3 hb9; clear M; (try clear C); have M := M9; clear M9; (try simp only [List.set_cons_zero, List.set_cons_succ] at M); have C := M.ruleAll; simp only [Go.Proofs.YtocejggobgfccaaGreatDoor.ruleAll] at C; clear hg3 hb9)))
                go_roundw
                case rel => exact ⟨y + 1, D', F, by omega, by go_num, by rw [List.range_succ, List.flatMap_append, List.flatMap_singleton, HN.out, List.append_nil, HF1.out], HS.out, HU1.out, M.drop 0⟩
                case measure => simp [intOf]; omega
              | true =>
                have hnew := isos_closed hlt hmk hC h2
                have hvR := hC.va h2
                have hclR := closed_cl HT.out hcl hC h2
                have humR := closed_um hlt hmk hC h2
                simp only [h2] at hP
                rw [hnew] at HE
                have hlen2 := len_step HE.out HS.out hlen
                have hI2 := fun fr9 hf w1 hM => IH.out R.1 fr9 (l ++ F) w1 D' bq bs bv hvR hclR (by omega) hf hlen2 hM
                obtain ⟨bb, hbb⟩ : ∃ bb, (s && !(isos N t u R.1.abs).isEmpty) = bb := ⟨_, rfl⟩
                simp only [hbb] at hI2
                have HB := Hid2.mk hbb
                have HN := Hid2.mk hnew
                have hsb : (sBox bq bs bv)[0]? = some (.func (.func 93) #[] #[.pointer (some ⟨bq, 0, none⟩), .pointer (some ⟨bs, 0, none⟩), .pointer (some ⟨bv, 0, none⟩)]) := rfl
                clear hnew hbb h2 hC hvR hclR humR hlen2
                cases bb with
                | false =>
                  obtain ⟨e1, e2⟩ := step_false (l := l) HS.out HB.out
                  have E1 := Hid2.mk e1
                  have E2 := Hid2.mk e2
                  clear e1 e2
                  go_wp2_with (first | ((with_reducible apply wpM_lda' M 2 127 0 (led (N : Int) t (N : Int) u m fr)); rfl; rfl; rfl; exact ⟨rfl, inf_led.trans (congrArg some (led_size ..).symm), _, und_led, rfl⟩; exact whole_of rfl) | ((with_reducible apply wpM_alloc' M 127 (led0)); rfl; exact ⟨rfl, _, zero_led _, rfl⟩; clear M; (try clear C); intro bn w9 h_bn M; have C := M.ruleAll; simp only [Go.Proofs.YtocejggobgfccaaGreatDoor.ruleAll] at C) | ((with_reducible apply wpM_sta' M 0 127 (led (N : Int) t (N : Int) u m fr)); rfl; rfl; rfl; rfl; (first | exact .inl (by assumption) | exact .inr rfl | exact .inr (by assumption)); exact ⟨rfl, inf_led.trans (congrArg some (led_size ..).symm), flat_led _ _ _ _ _ _⟩; (simp only [entCells, List.getElem?_cons_zero, List.getElem?_cons_succ, led_size, led0_size]); clear M; (try clear C); intro w9 M; simp only [List.set_cons_zero, List.set_cons_succ, entBlk, entT, List.getElem?_cons_zero, List.getElem?_cons_succ] at M; have C := M.ruleAll; simp only [Go.Proofs.YtocejggobgfccaaGreatDoor.ruleAll] at C) | (go_at_call 94; ((with_reducible refine (hP _ _ (M.box 0 rfl)).mono ?_); rintro e w3 ⟨rfl, hg3, fr9, hfr9, hb9⟩; have hsz := M.size; have M9 := M.wrote 0 rfl (.inl h_bn) hg3 hb9; clear M; (try clear C); have M := M9; clear M9; (try simp only [List.set_cons_zero, List.set_cons_succ] at M); have C := M.ruleAll; simp only [Go.Proofs.YtocejggobgfccaaGreatDoor.ruleAll] at C; clear hg3 hb9; have hw3 := M.size)) | ((with_reducible apply wpM_lda' M 0 127 0 (led (N : Int) t (N : Int) u R.1 fr9)); rfl; rfl; rfl; exact ⟨rfl, inf_led.trans (congrArg some (led_size ..).symm), _, und_led, rfl⟩; exact whole_of rfl) | (go_at_call 93; ((with_reducible refine (hI2 fr9 hfr9 _ (M.anew.sub [4, 5, 6, 7] (by decide))).mono ?_); rintro e w4 ⟨rfl, D2, hD1, hD2, hKp⟩; have hsz := M.size; have M9 := M.visit 7 rfl hD1 hD2 hKp (fun j hj h => (HU1.out j h).resolve_right (by omega)); clear M; (try clear C); have M := M9; clear M9; (try simp only [List.set_cons_zero, List.set_cons_succ] at M); have C := M.ruleAll; simp only [Go.Proofs.YtocejggobgfccaaGreatDoor.ruleAll] at C; clear hD1 hKp)))
                  rw [E1.out] at M
                  go_roundw
                  case rel => exact ⟨y + 1, D2, F ++ isos N t u R.1.abs, by omega, by go_num, by rw [List.range_succ, List.flatMap_append, List.flatMap_singleton, HN.out, HF1.out], E2.out, fun j hj => (hD2 j hj).elim (fun h => HU1.out j h) (fun h => .inr (by omega)), M.drop 0⟩
                  case measure => simp [intOf]; omega
                | true =>
                  obtain ⟨e1, e2⟩ := end_true HE.out HS.out HB.out
                  have E1 := Hid2.mk e1
                  have E2 := Hid2.mk (e2 l)
                  clear e1 e2
                  go_wp2_with (first | ((with_reducible apply wpM_lda' M 2 127 0 (led (N : Int) t (N : Int) u m fr)); rfl; rfl; rfl; exact ⟨rfl, inf_led.trans (congrArg some (led_size ..).symm), _, und_led, rfl⟩; exact whole_of rfl) | ((with_reducible apply wpM_alloc' M 127 (led0)); rfl; exact ⟨rfl, _, zero_led _, rfl⟩; clear M; (try clear C); intro bn w9 h_bn M; have C := M.ruleAll; simp only [Go.Proofs.YtocejggobgfccaaGreatDoor.ruleAll] at C) | ((with_reducible apply wpM_sta' M 0 127 (led (N : Int) t (N : Int) u m fr)); rfl; rfl; rfl; rfl; (first | exact .inl (by assumption) | exact .inr rfl | exact .inr (by assumption)); exact ⟨rfl, inf_led.trans (congrArg some (led_size ..).symm), flat_led _ _ _ _ _ _⟩; (simp only [entCells, List.getElem?_cons_zero, List.getElem?_cons_succ, led_size, led0_size]); clear M; (try clear C); intro w9 M; simp only [List.set_cons_zero, List.set_cons_succ, entBlk, entT, List.getElem?_cons_zero, List.getElem?_cons_succ] at M; have C := M.ruleAll; simp only [Go.Proofs.YtocejggobgfccaaGreatDoor.ruleAll] at C) | (go_at_call 94; ((with_reducible refine (hP _ _ (M.box 0 rfl)).mono ?_); rintro e w3 ⟨rfl, hg3, fr9, hfr9, hb9⟩; have hsz := M.size; have M9 := M.wrote 0 rfl (.inl h_bn) hg3 hb9; clear M; (try clear C); have M := M9; clear M9; (try simp only [List.set_cons_zero, List.set_cons_succ] at M); have C := M.ruleAll; simp only [Go.Proofs.YtocejggobgfccaaGreatDoor.ruleAll] at C; clear hg3 hb9; have hw3 := M.size)) | ((with_reducible apply wpM_lda' M 0 127 0 (led (N : Int) t (N : Int) u R.1 fr9)); rfl; rfl; rfl; exact ⟨rfl, inf_led.trans (congrArg some (led_size ..).symm), _, und_led, rfl⟩; exact whole_of rfl) | (go_at_call 93; ((with_reducible refine (hI2 fr9 hfr9 _ (M.anew.sub [4, 5, 6, 7] (by decide))).mono ?_); rintro e w4 ⟨rfl, D2, hD1, hD2, hKp⟩; have hsz := M.size; have M9 := M.visit 7 rfl hD1 hD2 hKp (fun j hj h => (HU1.out j h).resolve_right (by omega)); clear M; (try clear C); have M := M9; clear M9; (try simp only [List.set_cons_zero, List.set_cons_succ] at M); have C := M.ruleAll; simp only [Go.Proofs.YtocejggobgfccaaGreatDoor.ruleAll] at C; clear hD1 hKp)))
                  go_ret
                  exact ⟨by rw [E1.out]; rfl, D2, by rw [← E2.out]; exact M.at_ 7 rfl, fun j hj => (hD2 j hj).elim (fun h => HU1.out j h) (fun h => .inr (by omega)), M.kept⟩
            · obtain rfl : y = N := by omega
              obtain ⟨e1, e2⟩ := end_all (l := l) (HI.out.trans HF1.out.symm) HS.out
              have E1 := Hid2.mk e1
              have E2 := Hid2.mk e2
              clear e1 e2
              have hge : ¬ ((y : Int) < (y : Int)) := by omega
              go_wp2
              go_ret
              exact ⟨by rw [E1.out]; rfl, D', by rw [← E2.out]; exact M.at_ 6 rfl, HU1.out, M.kept⟩
        · obtain ⟨v, hv'⟩ : ∃ v : Nat, m.to k = v := ⟨(m.to k).toNat, by omega⟩
          have hvN : v < N := by have := hv.lt k hlt; omega
          have htc : toC m k = (v : Int) := by unfold toC; rw [if_neg hmk, hv']
          have hv255 : ¬ ((v : Int) = 255) := by omega
          rw [htc] at c1
          clear htc
          have h0k : 0 ≤ m.to k := by omega
          clear hv'
          go_wp2
          go_roundw
          case rel => exact ⟨k + 1, by omega, by go_num, fun z hz => by
            by_cases e : z = k
            · subst e; exact h0k
            · exact HZ.out z (by omega), M⟩
          case measure => simp [intOf]; omega
      · obtain rfl : k = N := by omega
        have hI := isos_full HT.out hv hcl (um_all HZ.out)
        have hlw : l.length < most := by
          rw [hI] at hlen
          have : (res s [wordOf k m.abs]).length = 1 := by cases s <;> rfl
          omega
        have hVp := fun w1 h => HV.out.2 l (wordOf k m.abs) D w1 h hlw
        rw [bys_word m h1] at hVp
        have hcp := copy_to (t := t) (u := u) (fr := fr) HZ.out
        have hge : ¬ ((k : Int) < (k : Int)) := by omega
        have so := sqs_order (k : Int) t
        have hbd := build_plc
        go_wp2_with (first | ((with_reducible apply wpM_alloc' M 59 (bys fun _ => 0)); rfl; exact ⟨rfl, _, zero_plc _, rfl⟩; clear M; (try clear C); intro bp w9 h_bp M; have C := M.ruleAll; simp only [Go.Proofs.YtocejggobgfccaaGreatDoor.ruleAll] at C) | ((with_reducible apply wpM_sta' M 0 59 (bys fun _ => 0)); rfl; rfl; rfl; rfl; (first | exact .inl (by assumption) | exact .inr rfl | exact .inr (by assumption)); exact ⟨rfl, inf_plc.trans (congrArg some (bys_size ..).symm), flat_bys _⟩; (simp only [entCells, List.getElem?_cons_zero, List.getElem?_cons_succ, bys_size, bys_size]); clear M; (try clear C); intro w9 M; simp only [List.set_cons_zero, List.set_cons_succ, entBlk, entT, List.getElem?_cons_zero, List.getElem?_cons_succ] at M; have C := M.ruleAll; simp only [Go.Proofs.YtocejggobgfccaaGreatDoor.ruleAll] at C))
        have hsl := fun b w1 => slice_hi k b h1 w1
        apply wp_region_mm M 5 (by kernel_rfl) (by kernel_rfl); (simp only [List.take_succ_cons, List.take_zero]; repeat (first | exact wpText_nil | (apply wpText_cons; (intro w2 M; have C := M.ruleAll; simp only [Go.Proofs.YtocejggobgfccaaGreatDoor.ruleAll] at C; go_wp2; exact ⟨rfl, rfl, M⟩); rfl))); (clear M; (try clear C); intro w2 M; simp only [List.drop_succ_cons, List.drop_zero]; have C := M.ruleAll; simp only [Go.Proofs.YtocejggobgfccaaGreatDoor.ruleAll] at C)
        have hent := HV.out.1
        go_wp2_with (first | ((with_reducible apply wpM_copy' M 0 2 0 202 k 10 10 10 k (bys (plTo m k))); exact rfl; rfl; rfl; rfl; rfl; (simp only [Nat.min_def]; split <;> omega); exact .inl (by assumption); rfl; exact und_sl8; kernel_rfl; (refine Nat.le_trans ?_ (Nat.le_of_eq (bys_size ..).symm); omega); (refine Nat.le_trans ?_ (Nat.le_of_eq (led_size ..).symm); omega); exact flat_led _ _ _ _ _ _; exact Eq.trans (bys_size ..) (bys_size ..).symm; exact hcp; clear M; (try clear C); intro w9 M; simp only [List.set_cons_zero, List.set_cons_succ, entBlk, entT, List.getElem?_cons_zero] at M; have C := M.ruleAll; simp only [Go.Proofs.YtocejggobgfccaaGreatDoor.ruleAll] at C) | ((with_reducible apply wpM_lda' M 0 59 0 (bys (plTo m k))); rfl; rfl; rfl; exact ⟨rfl, inf_plc.trans (congrArg some (bys_size ..).symm), _, und_plc, rfl⟩; exact whole_of rfl))
        refine (hVp _ (M.at_ 6 rfl)).mono ?_
        rintro e w1 ⟨rfl, D', hD1, hD2, hK⟩
        have hw9 := M.size
        have M9 := M.visit 6 rfl hD1 hD2 hK (fun _ _ h => h)
        clear M; (try clear C)
        go_wp2
        go_ret
        rw [hI]
        refine ⟨by cases s <;> rfl, D', ?_, fun j hj => (hD2 j hj).imp id fun h => by omega, M9.kept⟩
        cases s <;> exact hD1
end Go.Proofs.YtocejggobgfccaaGreatDoor

/- The program's visit of all isomorphisms: a contract. -/
namespace Go.Proofs.YtocejggobgfccaaGreatDoor
set_option linter.unusedSimpArgs false
set_option linter.unusedVariables false
open Go Go.RowKit

/-- All isomorphisms of two squares. -/
noncomputable def isoAll (N K : Nat) (t u : Nat → Nat → Nat) : List (List Nat) := if N = K then isos N t u fun _ => none else []
/-- What a part is as it is made, k places along. -/
def mkTo (k : Nat) : PM := ⟨fun i => if i < k then -1 else 0, fun i => if i < k then 0 else 1, 0⟩
theorem build_led (n : Int) (t : Nat → Nat → Nat) (k : Int) (u : Nat → Nat → Nat) (w : World) : (Instr.build 127 #[(0, .agg (sqs n t)), (1, .agg (sqs k u))]).run Tryz.prog w = .ok (.agg (led n t k u (mkTo 0) fun _ => 0)) w := by kernel_rfl
theorem zero_sfn (w : World) : (zeroValue 128).run Tryz.prog w = .ok .nilFunc w := by kernel_rfl
set_option maxRecDepth 4000 in
theorem led_init {n k : Int} {t u : Nat → Nat → Nat} {j : Nat} (hj : j < 10) : ((led n t k u (mkTo j) fun _ => 0).setIfInBounds (202 + j) (.int .u8 255)).setIfInBounds (212 + j) (.int .u8 255) = led n t k u (mkTo (j + 1)) fun _ => 0 := by
  unfold led
  rw [tab_set, tab_set]
  refine tab_ext fun i hi => ?_
  by_cases h1 : i = 212 + j
  · subst h1
    rw [if_pos rfl, if_neg (by omega), if_neg (by omega), if_neg (by omega), Nat.add_sub_cancel_left]
    simp [frC, mkTo]
  · rw [if_neg h1]
    by_cases h2 : i = 202 + j
    · subst h2
      rw [if_pos rfl, if_neg (by omega), if_neg (by omega), if_pos (by omega), Nat.add_sub_cancel_left]
      simp [toC, mkTo]
    · rw [if_neg h2]
      by_cases a : i < 101
      · exact (if_pos a).trans (if_pos a).symm
      · refine (if_neg a).trans (Eq.trans ?_ (if_neg a).symm)
        by_cases b : i < 202
        · exact (if_pos b).trans (if_pos b).symm
        · refine (if_neg b).trans (Eq.trans ?_ (if_neg b).symm)
          by_cases c : i < 212
          · refine (if_pos c).trans (Eq.trans ?_ (if_pos c).symm)
            have e : toC (mkTo j) (i - 202) = toC (mkTo (j + 1)) (i - 202) := by
              unfold toC mkTo
              by_cases h : i - 202 < j
              · simp [h, show i - 202 < j + 1 by omega]
              · simp [h, show ¬ i - 202 < j + 1 by omega]
            rw [e]
          · refine (if_neg c).trans (Eq.trans ?_ (if_neg c).symm)
            have e : frC (mkTo j) (fun _ => 0) (i - 212) = frC (mkTo (j + 1)) (fun _ => 0) (i - 212) := by
              unfold frC mkTo
              by_cases h : i - 212 < j
              · simp [h, show i - 212 < j + 1 by omega]
              · simp [h, show ¬ i - 212 < j + 1 by omega]
            rw [e]
set_option maxRecDepth 4000 in
theorem led_start {n k : Int} {t u : Nat → Nat → Nat} : (led n t k u (mkTo 10) fun _ => 0) = led n t k u PM.zero fun _ => 0 := by
  unfold led
  refine tab_ext fun i hi => ?_
  by_cases a : i < 101
  · exact (if_pos a).trans (if_pos a).symm
  · refine (if_neg a).trans (Eq.trans ?_ (if_neg a).symm)
    by_cases b : i < 202
    · exact (if_pos b).trans (if_pos b).symm
    · refine (if_neg b).trans (Eq.trans ?_ (if_neg b).symm)
      by_cases c : i < 212
      · refine (if_pos c).trans (Eq.trans ?_ (if_pos c).symm)
        have e : i - 202 < 10 := by omega
        simp [toC, mkTo, PM.zero, e]
      · refine (if_neg c).trans (Eq.trans ?_ (if_neg c).symm)
        have e : i - 212 < 10 := by omega
        simp [frC, mkTo, PM.zero, e]

/-- What a visit gives. -/
def Visited (V : List (List Nat) → (Nat → Prop) → World → Prop) (l : List (List Nat)) (D : Nat → Prop) (w : World) (e : Ending) (w' : World) : Prop :=
  e = .returned (.tuple #[]) ∧ ∃ D', (Ent.res D' (V l D')).holds w' ∧ (∀ k, D' k → D k ∨ w.heap.size ≤ k) ∧ Kept D w w'

set_option maxRecDepth 100000 in
set_option maxHeartbeats 2000000 in
theorem isomorphisms_any (N K : Nat) (t u : Nat → Nat → Nat) (s : Bool) (f : Nat) (cap : Array Value) (V : List (List Nat) → (Nat → Prop) → World → Prop) (most : Nat) (D : Nat → Prop) (w : World) (hV : Visits s f cap V most) (h0 : 1 ≤ N) (h1 : N ≤ 10)
    (ht : ∀ x y : Nat, x < N → y < N → t x y < N) (hu : ∀ x y : Nat, x < K → y < K → u x y < K) (hD : (Ent.res D (V [] D)).holds w) (hmost : (res s (isoAll N K t u)).length ≤ most) :
    Calls Tryz.prog 78 #[.agg (sqs (N : Int) t), .agg (sqs (K : Int) u), .func (.func f) #[] cap] w (Visited V (res s (isoAll N K t u)) D w) := by
  have M := (Mm.start D w).add hD fun _ h => by cases h
  have HV := Hid2.mk hV
  have so1 := sqs_order (N : Int) t
  have so2 := sqs_order (K : Int) u
  have hmf : ∀ (fn : Fn) (first cap : Array Value) (w : World), (Instr.makeFunc fn first cap).run Tryz.prog w = .ok (.func fn first cap) w := fun _ _ _ _ => rfl
  clear hV hD
  by_cases hNK : N = K
  · subst hNK
    have hS := fun w1 bq bs bv hM => search_any N t u s f cap V most HV.out h0 h1 ht hu (N + 1) PM.zero (fun _ => 0) [] w1 D bq bs bv (zero_va N) (zero_cl N t u) (by have := um_le PM.zero.to N; omega) (fun _ => by omega) (by
      rw [isoAll, if_pos rfl] at hmost
      simpa [PM.zero, zero_abs] using hmost) hM
    have HS := Hid2.mk hS
    clear hS ht hu hmost
    go_enter Tryz.func78, Tryz.ntmps78
    go_wp2_with (first | ((with_reducible apply wpM_box' M 50 (sqs (N : Int) t)); rfl; exact ⟨rfl, rfl⟩; clear M; (try clear C); intro bq w9 h_bq M; have C := M.ruleAll; simp only [Go.Proofs.YtocejggobgfccaaGreatDoor.ruleAll] at C) | ((with_reducible apply wpM_box' M 50 (sqs (N : Int) u)); rfl; exact ⟨rfl, rfl⟩; clear M; (try clear C); intro br w9 h_br M; have C := M.ruleAll; simp only [Go.Proofs.YtocejggobgfccaaGreatDoor.ruleAll] at C) | ((with_reducible apply wpM_box' M 110 (#[.func (.func f) #[] cap])); rfl; exact ⟨rfl, rfl⟩; clear M; (try clear C); intro bv w9 h_bv M; have C := M.ruleAll; simp only [Go.Proofs.YtocejggobgfccaaGreatDoor.ruleAll] at C) | ((with_reducible apply wpM_lda' M 2 50 0 (sqs (N : Int) t)); rfl; rfl; rfl; exact ⟨rfl, inf_sqs.trans (congrArg some (sqs_size ..).symm), _, und_sqs, rfl⟩; exact whole_of rfl) | ((with_reducible apply wpM_lda' M 1 50 0 (sqs (N : Int) u)); rfl; rfl; rfl; exact ⟨rfl, inf_sqs.trans (congrArg some (sqs_size ..).symm), _, und_sqs, rfl⟩; exact whole_of rfl) | (refine wpList_build 127 _ rfl rfl [(0, .agg (sqs (N : Int) t)), (1, .agg (sqs (N : Int) u))] rfl _ (build_led _ _ _ _ _) ?_) | ((with_reducible apply wpM_alloc' M 127 (led0)); rfl; exact ⟨rfl, _, zero_led _, rfl⟩; clear M; (try clear C); intro bl w9 h_bl M; have C := M.ruleAll; simp only [Go.Proofs.YtocejggobgfccaaGreatDoor.ruleAll] at C) | ((with_reducible apply wpM_sta' M 0 127 (led (N : Int) t (N : Int) u (mkTo 0) fun _ => 0)); rfl; rfl; rfl; rfl; (first | exact .inl (by assumption) | exact .inr rfl | exact .inr (by assumption)); exact ⟨rfl, inf_led.trans (congrArg some (led_size ..).symm), flat_led _ _ _ _ _ _⟩; (simp only [entCells, List.getElem?_cons_zero, List.getElem?_cons_succ, led_size, led0_size]); clear M; (try clear C); intro w9 M; simp only [List.set_cons_zero, List.set_cons_succ, entBlk, entT, List.getElem?_cons_zero, List.getElem?_cons_succ] at M; have C := M.ruleAll; simp only [Go.Proofs.YtocejggobgfccaaGreatDoor.ruleAll] at C))
    clear so1 so2
    go_loopw [7, 17] (fun _ i wr => ∃ k : Nat, k ≤ 10 ∧ i = .int .i64 (k : Int) ∧ Mm D w wr [.box bl (led (N : Int) t (N : Int) u (mkTo k) fun _ => 0) 127, .box bv #[.func (.func f) #[] cap] 110, .box br (sqs (N : Int) u) 50, .box bq (sqs (N : Int) t) 50, .res D (V [] D)]) (fun _ i _ => 10 - (intOf i).toNat)
    case atStart => exact ⟨0, by omega, rfl, M⟩
    case round =>
      obtain ⟨k, hk, rfl, M9⟩ := hrel
      clear M; (try clear C)
      have M := M9
      clear M9
      have C := M.ruleAll; simp only [Go.Proofs.YtocejggobgfccaaGreatDoor.ruleAll] at C
      by_cases hlt : k < 10
      · have hlt' : (k : Int) < 10 := by omega
        go_wp2_with (first | ((with_reducible apply wpM_st' M 0 5 (202 + k) ((led (N : Int) t (N : Int) u (mkTo k) fun _ => 0).setIfInBounds (202 + k) (.int .u8 255))); rfl; rfl; rfl; (first | exact .inl (by assumption) | exact .inr rfl | exact .inr (by assumption)); exact ⟨rfl, rfl, by kernel_rfl⟩; (exact Nat.lt_of_lt_of_eq (by omega) (led_size ..).symm); exact rfl; clear M; (try clear C); intro w9 M; simp only [List.set_cons_zero, List.set_cons_succ, entBlk, entT, List.getElem?_cons_zero, List.getElem?_cons_succ] at M; have C := M.ruleAll; simp only [Go.Proofs.YtocejggobgfccaaGreatDoor.ruleAll] at C) | ((with_reducible apply wpM_st' M 0 5 (212 + k) (led (N : Int) t (N : Int) u (mkTo (k + 1)) fun _ => 0)); rfl; rfl; rfl; (first | exact .inl (by assumption) | exact .inr rfl | exact .inr (by assumption)); exact ⟨rfl, rfl, by kernel_rfl⟩; (exact Nat.lt_of_lt_of_eq (by omega) (Eq.trans (Array.size_setIfInBounds ..) (led_size ..)).symm); exact led_init hlt; clear M; (try clear C); intro w9 M; simp only [List.set_cons_zero, List.set_cons_succ, entBlk, entT, List.getElem?_cons_zero, List.getElem?_cons_succ] at M; have C := M.ruleAll; simp only [Go.Proofs.YtocejggobgfccaaGreatDoor.ruleAll] at C))
        go_roundw
        case rel => exact ⟨k + 1, by omega, by go_num, M⟩
        case measure => simp [intOf]; omega
      · obtain rfl : k = 10 := by omega
        rw [led_start] at M
        have hsb : ∀ bs, (sBox bq bs bv)[0]? = some (.func (.func 93) #[] #[.pointer (some ⟨bq, 0, none⟩), .pointer (some ⟨bs, 0, none⟩), .pointer (some ⟨bv, 0, none⟩)]) := fun _ => rfl
        go_wp2_with (first | ((with_reducible apply wpM_alloc' M 128 (#[.nilFunc])); rfl; exact ⟨rfl, _, zero_sfn _, rfl⟩; clear M; (try clear C); intro bs w9 h_bs M; have C := M.ruleAll; simp only [Go.Proofs.YtocejggobgfccaaGreatDoor.ruleAll] at C) | ((with_reducible apply wpM_st' M 0 128 (0) (sBox bq bs bv)); rfl; rfl; rfl; (first | exact .inl (by assumption) | exact .inr rfl | exact .inr (by assumption)); exact ⟨rfl, rfl, by kernel_rfl⟩; exact Nat.zero_lt_one; exact rfl; clear M; (try clear C); intro w9 M; simp only [List.set_cons_zero, List.set_cons_succ, entBlk, entT, List.getElem?_cons_zero, List.getElem?_cons_succ] at M; have C := M.ruleAll; simp only [Go.Proofs.YtocejggobgfccaaGreatDoor.ruleAll] at C) | ((with_reducible apply wpM_lda' M 1 127 0 (led (N : Int) t (N : Int) u PM.zero fun _ => 0)); rfl; rfl; rfl; exact ⟨rfl, inf_led.trans (congrArg some (led_size ..).symm), _, und_led, rfl⟩; exact whole_of rfl) | (go_at_call 93; ((with_reducible refine (HS.out _ bq bs bv (M.anew.sub [4, 0, 2, 5] (by decide))).mono ?_); rintro e w4 ⟨rfl, D2, hD1, hD2, hKp⟩; have hsz := M.size; have M9 := M.visit 5 rfl hD1 hD2 hKp (fun _ _ h => h); clear M; (try clear C); have M := M9; clear M9; (try simp only [List.set_cons_zero, List.set_cons_succ] at M); have C := M.ruleAll; simp only [Go.Proofs.YtocejggobgfccaaGreatDoor.ruleAll] at C; clear hKp)))
        go_end0
        rw [isoAll, if_pos rfl]
        exact ⟨rfl, D2, M.at_ 5 rfl, fun j hj => (hD2 j hj).imp id fun h => by omega, M.kept⟩
  · have hNK' : ¬ ((N : Int) = (K : Int)) := by omega
    rw [isoAll, if_neg hNK]
    go_enter Tryz.func78, Tryz.ntmps78
    go_wp2_with (first | ((with_reducible apply wpM_box' M 50 (sqs (N : Int) t)); rfl; exact ⟨rfl, rfl⟩; clear M; (try clear C); intro bq w9 h_bq M; have C := M.ruleAll; simp only [Go.Proofs.YtocejggobgfccaaGreatDoor.ruleAll] at C) | ((with_reducible apply wpM_box' M 50 (sqs (K : Int) u)); rfl; exact ⟨rfl, rfl⟩; clear M; (try clear C); intro br w9 h_br M; have C := M.ruleAll; simp only [Go.Proofs.YtocejggobgfccaaGreatDoor.ruleAll] at C) | ((with_reducible apply wpM_box' M 110 (#[.func (.func f) #[] cap])); rfl; exact ⟨rfl, rfl⟩; clear M; (try clear C); intro bv w9 h_bv M; have C := M.ruleAll; simp only [Go.Proofs.YtocejggobgfccaaGreatDoor.ruleAll] at C))
    go_end0
    exact ⟨rfl, D, by cases s <;> exact M.at_ 3 rfl, fun j hj => .inl hj, M.kept⟩
end Go.Proofs.YtocejggobgfccaaGreatDoor

/- The program's list of all isomorphisms: a contract. -/
namespace Go.Proofs.YtocejggobgfccaaGreatDoor
set_option linter.unusedSimpArgs false
set_option linter.unusedVariables false
open Go Go.RowKit

/-- A variable holds a slice with what has been visited. -/
def AllV (bo B : Nat) (l : List (List Nat)) (D : Nat → Prop) (w : World) : Prop :=
  ∃ v, blk w bo #[v] 122 ∧ w.ownsRow B 59 10 v l.length (plCells l) ∧ v.ownBlock ≠ some bo ∧ B ≤ w.heap.size ∧ ∀ k, D k ↔ (bo = k ∨ v.ownBlock = some k)
theorem AllV.mk {bo B : Nat} {l : List (List Nat)} {w : World} {v : Value} (h1 : blk w bo #[v] 122) (h2 : w.ownsRow B 59 10 v l.length (plCells l)) (h3 : v.ownBlock ≠ some bo) (hB : B ≤ w.heap.size) :
    (Ent.res (fun k => bo = k ∨ v.ownBlock = some k) (AllV bo B l fun k => bo = k ∨ v.ownBlock = some k)).holds w :=
  ⟨fun k hk => by
    rcases hk with rfl | hk
    · exact h1.lt
    · exact (h2.lt k hk).2,
   fun E w' hk hd => by
    have a1 : (Ent.box bo #[v] 122).holds w := h1
    have a2 : (Ent.row B v l.length (plCells l) 59 10).holds w := h2
    have b1 := Ent.holds_of a1 hk fun b hb => hd b (.inl hb)
    have b2 := Ent.holds_of a2 hk fun b hb => hd b (.inr hb)
    exact ⟨v, b1, b2, h3, Nat.le_trans hB hk.size, fun _ => Iff.rfl⟩⟩


theorem zero_slp (w : World) : (zeroValue 122).run Tryz.prog w = .ok (.slice none 0 0) w := by kernel_rfl
theorem bsl_plc0 (w : World) : (Instr.buildSlice 122 0 [].toArray).run Tryz.prog w = .ok (.slice (some ⟨w.heap.size, 0, none⟩) 0 0) (w.alloc (.cells #[] 59)) := by kernel_rfl

/-- What the list of all isomorphisms is. -/
def AllList (l : List (List Nat)) (w : World) (e : Ending) (w' : World) : Prop :=
  ∃ v', e = .returned v' ∧ w'.ownsRow w.heap.size 59 10 v' l.length (plCells l) ∧ Below w.heap.size w w'


end Go.Proofs.YtocejggobgfccaaGreatDoor

/- Rows of words, read one by one. -/
namespace Go.Proofs.YtocejggobgfccaaGreatDoor
set_option linter.unusedSimpArgs false
set_option linter.unusedVariables false
open Go Go.RowKit

/-- A word as a function. -/
def wf (p : List Nat) (i : Nat) : Nat := p.getD i 0
theorem plCells_len : ∀ l : List (List Nat), (plCells l).length = l.length * 10
  | [] => rfl
  | p :: l => by
    have ih := plCells_len l
    unfold plCells at *
    rw [List.flatMap_cons, List.length_append, ih, Array.length_toList, bys_size, List.length_cons]; omega
theorem plCells_get : ∀ (l : List (List Nat)) {k j : Nat} (hk : k < l.length), j < 10 → (plCells l)[k * 10 + j]? = some (.int .u8 (l[k].getD j 0 : Nat))
  | [], _, _, hk, _ => absurd hk (by simp)
  | p :: l, 0, j, hk, hj => by
    unfold plCells
    rw [List.flatMap_cons, List.getElem?_append_left (by rw [Array.length_toList, bys_size]; omega), Array.getElem?_toList, Nat.zero_mul, Nat.zero_add, bys_get hj]
    rfl
  | p :: l, k + 1, j, hk, hj => by
    have ih := plCells_get l (k := k) (j := j) (by simpa using hk) hj
    unfold plCells at *
    rw [List.flatMap_cons, List.getElem?_append_right (by rw [Array.length_toList, bys_size]; omega), Array.length_toList, bys_size, show (k + 1) * 10 + j - 10 = k * 10 + j by omega, ih]
    rfl
theorem plc_cells {w : World} {g : Nat} {P : List (List Nat)} (h : rds w g (P.length * 10) (fun j => (plCells P).getD j undef)) {k : Nat} (hk : k < P.length) : ∀ j v, (bys fun i => P[k].getD i 0)[j]? = some v → w.cell? ⟨g, k * 10 + j, none⟩ = some v := by
  intro j v hv
  obtain ⟨hj, rfl⟩ := tab_get_some hv
  rw [h.at_ (k * 10 + j) (by omega), List.getD_eq_getElem?_getD, plCells_get P hk hj]
  rfl
theorem own_mono {w : World} {base base' e size n : Nat} {v : Value} {xs : List Value} (h : w.ownsRow base e size v n xs) (hb : base' ≤ base) : w.ownsRow base' e size v n xs := by
  rcases h.2 with h2 | ⟨g, cap, cur, h1, h2, h3⟩
  · exact ⟨h.1, .inl h2⟩
  · exact ⟨h.1, .inr ⟨g, cap, cur, h1, Nat.le_trans hb h2, h3⟩⟩
end Go.Proofs.YtocejggobgfccaaGreatDoor

/- The first isomorphism, for the program and for the reference: contracts. -/
namespace Go.Proofs.YtocejggobgfccaaGreatDoor
set_option linter.unusedSimpArgs false
set_option linter.unusedVariables false
open Go Go.RowKit

set_option maxRecDepth 100000 in
set_option maxHeartbeats 1000000 in
theorem l02Both_any (n k : Int) (t u : Nat → Nat → Nat) (w : World) (ht : Byt2 t) (hu : Byt2 u) :
    Calls Tryz.prog 88 #[.agg (sqs n t), .agg (sqs k u)] w fun e w' => e = .returned (.int .i64 (if isSq n t = true ∧ isSq k u = true then 0 else 1)) ∧ Below w.heap.size w w' := by
  have M := Mm.start no w
  have H1 := fun w1 => l01Is_any n t w1 ht
  have H2 := fun w1 => l01Is_any k u w1 hu
  cases e1 : isSq n t with
  | false =>
    simp only [e1] at H1
    rw [if_neg (by simp)]
    go_enter Tryz.func88, Tryz.ntmps88
    go_wp2_with (first | ((with_reducible apply wpM_box' M 50 (sqs n t)); rfl; exact ⟨rfl, rfl⟩; clear M; (try clear C); intro bq w9 h_bq M; have C := M.ruleAll; simp only [Go.Proofs.YtocejggobgfccaaGreatDoor.ruleAll] at C) | ((with_reducible apply wpM_box' M 50 (sqs k u)); rfl; exact ⟨rfl, rfl⟩; clear M; (try clear C); intro br w9 h_br M; have C := M.ruleAll; simp only [Go.Proofs.YtocejggobgfccaaGreatDoor.ruleAll] at C) | ((with_reducible apply wpM_lda' M 1 50 0 (sqs n t)); rfl; rfl; rfl; exact ⟨rfl, inf_sqs.trans (congrArg some (sqs_size ..).symm), _, und_sqs, rfl⟩; exact whole_of rfl) | (go_at_call 47; ((with_reducible refine (H1 _).mono ?_); rintro e w1 ⟨rfl, hb⟩; have hsz := M.size; (try (have G9 := G.later hb; clear G; have G := G9; clear G9)); have M9 := M.later hb; clear M; (try clear C); have M := M9; clear M9; have C := M.ruleAll; simp only [Go.Proofs.YtocejggobgfccaaGreatDoor.ruleAll] at C)))
    go_ret
    exact ⟨rfl, M.below⟩
  | true =>
    cases e2 : isSq k u with
    | false =>
      simp only [e1] at H1
      simp only [e2] at H2
      rw [if_neg (by simp)]
      go_enter Tryz.func88, Tryz.ntmps88
      go_wp2_with (first | ((with_reducible apply wpM_box' M 50 (sqs n t)); rfl; exact ⟨rfl, rfl⟩; clear M; (try clear C); intro bq w9 h_bq M; have C := M.ruleAll; simp only [Go.Proofs.YtocejggobgfccaaGreatDoor.ruleAll] at C) | ((with_reducible apply wpM_box' M 50 (sqs k u)); rfl; exact ⟨rfl, rfl⟩; clear M; (try clear C); intro br w9 h_br M; have C := M.ruleAll; simp only [Go.Proofs.YtocejggobgfccaaGreatDoor.ruleAll] at C) | ((with_reducible apply wpM_lda' M 1 50 0 (sqs n t)); rfl; rfl; rfl; exact ⟨rfl, inf_sqs.trans (congrArg some (sqs_size ..).symm), _, und_sqs, rfl⟩; exact whole_of rfl) | ((with_reducible apply wpM_lda' M 0 50 0 (sqs k u)); rfl; rfl; rfl; exact ⟨rfl, inf_sqs.trans (congrArg some (sqs_size ..).symm), _, und_sqs, rfl⟩; exact whole_of rfl) | (go_at_call 47; ((with_reducible refine (H1 _).mono ?_); rintro e w1 ⟨rfl, hb⟩; have hsz := M.size; (try (have G9 := G.later hb; clear G; have G := G9; clear G9)); have M9 := M.later hb; clear M; (try clear C); have M := M9; clear M9; have C := M.ruleAll; simp only [Go.Proofs.YtocejggobgfccaaGreatDoor.ruleAll] at C)) | (go_at_call 47; ((with_reducible refine (H2 _).mono ?_); rintro e w1 ⟨rfl, hb⟩; have hsz := M.size; (try (have G9 := G.later hb; clear G; have G := G9; clear G9)); have M9 := M.later hb; clear M; (try clear C); have M := M9; clear M9; have C := M.ruleAll; simp only [Go.Proofs.YtocejggobgfccaaGreatDoor.ruleAll] at C)))
      go_ret
      exact ⟨rfl, M.below⟩
    | true =>
      simp only [e1] at H1
      simp only [e2] at H2
      rw [if_pos ⟨rfl, rfl⟩]
      go_enter Tryz.func88, Tryz.ntmps88
      go_wp2_with (first | ((with_reducible apply wpM_box' M 50 (sqs n t)); rfl; exact ⟨rfl, rfl⟩; clear M; (try clear C); intro bq w9 h_bq M; have C := M.ruleAll; simp only [Go.Proofs.YtocejggobgfccaaGreatDoor.ruleAll] at C) | ((with_reducible apply wpM_box' M 50 (sqs k u)); rfl; exact ⟨rfl, rfl⟩; clear M; (try clear C); intro br w9 h_br M; have C := M.ruleAll; simp only [Go.Proofs.YtocejggobgfccaaGreatDoor.ruleAll] at C) | ((with_reducible apply wpM_lda' M 1 50 0 (sqs n t)); rfl; rfl; rfl; exact ⟨rfl, inf_sqs.trans (congrArg some (sqs_size ..).symm), _, und_sqs, rfl⟩; exact whole_of rfl) | ((with_reducible apply wpM_lda' M 0 50 0 (sqs k u)); rfl; rfl; rfl; exact ⟨rfl, inf_sqs.trans (congrArg some (sqs_size ..).symm), _, und_sqs, rfl⟩; exact whole_of rfl) | (go_at_call 47; ((with_reducible refine (H1 _).mono ?_); rintro e w1 ⟨rfl, hb⟩; have hsz := M.size; (try (have G9 := G.later hb; clear G; have G := G9; clear G9)); have M9 := M.later hb; clear M; (try clear C); have M := M9; clear M9; have C := M.ruleAll; simp only [Go.Proofs.YtocejggobgfccaaGreatDoor.ruleAll] at C)) | (go_at_call 47; ((with_reducible refine (H2 _).mono ?_); rintro e w1 ⟨rfl, hb⟩; have hsz := M.size; (try (have G9 := G.later hb; clear G; have G := G9; clear G9)); have M9 := M.later hb; clear M; (try clear C); have M := M9; clear M9; have C := M.ruleAll; simp only [Go.Proofs.YtocejggobgfccaaGreatDoor.ruleAll] at C)))
      go_ret
      exact ⟨rfl, M.below⟩

/-- The first word of a list, and a code. -/
def isoRes : List (List Nat) → (Nat → Nat) × Int
  | [] => (fun _ => 0, 4)
  | p :: _ => (wf p, 0)
/-- A permutation and a code that are handed back. -/
def PlcCode (c : (Nat → Nat) × Int) (w : World) (e : Ending) (w' : World) : Prop := e = .returned (.tuple #[.agg (bys c.1), .int .i64 c.2]) ∧ Below w.heap.size w w'
theorem isoRes_take (l : List (List Nat)) : isoRes (l.take 1) = isoRes l := by cases l <;> rfl
theorem isoRes_none {l : List (List Nat)} (h : l.length = 0) : isoRes l = (fun _ => 0, 4) := by cases l <;> first | rfl | simp at h
theorem isoRes_some {l : List (List Nat)} (h : 0 < l.length) : isoRes l = (wf l[0], 0) := by cases l <;> first | rfl | simp at h
theorem results_plc {P : Program} {fn : Func} {p q : Tmp} {ty : TypeId} (h : fn.results = #[.cell p ty, .tmp q]) (tmps : Array Value) (w : World) (b off : Nat) (part : Array Value) (d : TypeDesc)
    (hp : tmps.getD p undef = .pointer (some ⟨b, off, none⟩)) (hu : P.underlying ty = some d) (hd : (match d with | .struct _ | .array _ _ => true | _ => false) = true) (hi : (P.info? ty).map (·.size) = some part.size)
    (hc : ∀ j v, part[j]? = some v → w.cell? ⟨b, off + j, none⟩ = some v) (v : Value) (hv : tmps.getD q undef = v) :
    (results fn tmps).run P w = .ok (.tuple #[.agg part, v]) w := results_part2 h tmps w b off part d hp hu hd hi hc v hv
theorem zero_i64 (w : World) : (zeroValue 2).run Tryz.prog w = .ok (.int .i64 0) w := by kernel_rfl

/-- ONE OPERATION FLOATS, and it writes what is known. -/
theorem wp_region_mmg1 {P : Program} {D : Nat → Prop} {w0 w : World} {L : List Ent} {a af : Act} {Q : Exit → Act → World → Prop} {id : Nat} {l : List Oper} (Lg0 : List Ent) (M : Mm D w0 w (Lg0 ++ L)) (I : List Nat) (s1 n : Nat) (o1 : Oper) (St : List Value → List Ent → Prop) (hm : P.follows .mixedOrders = true) (hB : newI l.toArray I [s1] n = true) (h1 : l[s1]? = some o1) (hg1 : o1.guard = none) (h0 : St [] Lg0)
    (ht : wpTextG P (Stg St D w0 L) l.toArray (I.filterMap fun i => l[i]?) a af) (hA : ∀ Lg w, St [] Lg → Mm D w0 w (Lg ++ L) → yield P o1 af w fun u w' => Stg St D w0 L [u] w')
    (hQ : ∀ v Lg w', St [v] Lg → Mm D w0 w' (Lg ++ L) → wpList P l.toArray Q (l.drop n) (af.put o1.dst v) w') : (Code.region id l.toArray true).wp P Q a w :=
  wp_region_float1 I s1 n o1 (Stg St D w0 L) hm hB h1 hg1 (fun w ⟨Lg, h, M⟩ => hA Lg w h M) ⟨Lg0, h0, M.drew⟩ ht fun v w' ⟨Lg, h, M⟩ => hQ v Lg w' h M

/-- Two variables hold the first that has been visited. -/
def OneV (bo bc : Nat) (l : List (List Nat)) (D : Nat → Prop) (w : World) : Prop :=
  blk w bo (bys (isoRes l).1) 59 ∧ blk w bc #[.int .i64 (isoRes l).2] 2 ∧ bo ≠ bc ∧ ∀ k, D k ↔ (bo = k ∨ bc = k)
theorem OneV.mk {bo bc : Nat} {l : List (List Nat)} {w : World} (h1 : blk w bo (bys (isoRes l).1) 59) (h2 : blk w bc #[.int .i64 (isoRes l).2] 2) (h3 : bo ≠ bc) :
    (Ent.res (fun k => bo = k ∨ bc = k) (OneV bo bc l fun k => bo = k ∨ bc = k)).holds w :=
  ⟨fun k hk => by
    rcases hk with rfl | rfl
    · exact h1.lt
    · exact h2.lt,
   fun E w' hk hd => by
    have a1 : (Ent.box bo (bys (isoRes l).1) 59).holds w := h1
    have a2 : (Ent.box bc #[.int .i64 (isoRes l).2] 2).holds w := h2
    exact ⟨Ent.holds_of a1 hk fun b hb => hd b (.inl hb), Ent.holds_of a2 hk fun b hb => hd b (.inr hb), h3, fun _ => Iff.rfl⟩⟩

set_option maxRecDepth 100000 in
set_option maxHeartbeats 200000 in
theorem oneVisit_any (bo bc : Nat) : Visits true 79 #[.pointer (some ⟨bo, 0, none⟩), .pointer (some ⟨bc, 0, none⟩)] (OneV bo bc) 1 := by
  refine ⟨enters_of (P := Tryz.prog) (f := 79) (by exact Tryz.func79) (by kernel_rfl) rfl, fun l p D w hV hl => ?_⟩
  obtain rfl : l = [] := by cases l <;> first | rfl | simp at hl
  obtain ⟨h1, h2, h3, h4⟩ := Ent.res_now hV
  have h1' : blk w bo (bys fun _ => 0) 59 := h1
  have h2' : blk w bc #[.int .i64 4] 2 := h2
  have M := ((Mm.start D w).add (x := .box bc #[.int .i64 4] 2) h2' fun _ h => by cases h).add (x := .box bo (bys fun _ => 0) 59) h1' (fun y hy => by
    simp only [List.mem_singleton] at hy; subst hy
    exact fun b hb hb' => h3 (by cases hb; cases hb'; rfl))
  have hDo : D bo := (h4 bo).2 (.inl rfl)
  have hDc : D bc := (h4 bc).2 (.inr rfl)
  have H3 := Hid2.mk h3
  clear h1 h2 h1' h2' h3 h4 hl hV
  have C := M.ruleAll; simp only [Go.Proofs.YtocejggobgfccaaGreatDoor.ruleAll] at C
  show Calls Tryz.prog 79 #[.agg (bys (wf p)), .pointer (some ⟨bo, 0, none⟩), .pointer (some ⟨bc, 0, none⟩)] w _
  go_enter Tryz.func79, Tryz.ntmps79
  go_wp2_with (first | ((with_reducible apply wpM_box' M 59 (bys (wf p))); rfl; exact ⟨rfl, rfl⟩; clear M; (try clear C); intro bp w9 h_bp M; have C := M.ruleAll; simp only [Go.Proofs.YtocejggobgfccaaGreatDoor.ruleAll] at C) | ((with_reducible apply wpM_lda' M 0 59 0 (bys (wf p))); rfl; rfl; rfl; exact ⟨rfl, inf_plc.trans (congrArg some (bys_size ..).symm), _, und_plc, rfl⟩; exact whole_of rfl) | ((with_reducible apply wpM_sta' M 1 59 (bys (wf p))); rfl; rfl; rfl; rfl; (first | exact .inl (by assumption) | exact .inr rfl | exact .inr (by assumption)); exact ⟨rfl, inf_plc.trans (congrArg some (bys_size ..).symm), flat_bys _⟩; (simp only [entCells, List.getElem?_cons_zero, List.getElem?_cons_succ, bys_size, bys_size]); clear M; (try clear C); intro w9 M; simp only [List.set_cons_zero, List.set_cons_succ, entBlk, entT, List.getElem?_cons_zero, List.getElem?_cons_succ] at M; have C := M.ruleAll; simp only [Go.Proofs.YtocejggobgfccaaGreatDoor.ruleAll] at C) | ((with_reducible apply wpM_st' M 2 2 (0) (#[.int .i64 0])); rfl; rfl; rfl; (first | exact .inl (by assumption) | exact .inr rfl | exact .inr (by assumption)); exact ⟨rfl, rfl, by kernel_rfl⟩; exact Nat.zero_lt_one; exact rfl; clear M; (try clear C); intro w9 M; simp only [List.set_cons_zero, List.set_cons_succ, entBlk, entT, List.getElem?_cons_zero, List.getElem?_cons_succ] at M; have C := M.ruleAll; simp only [Go.Proofs.YtocejggobgfccaaGreatDoor.ruleAll] at C))
  go_ret
  refine ⟨rfl, _, OneV.mk (l := [p]) (M.box 1 rfl) (M.box 2 rfl) H3.out, fun k hk => .inl ?_, M.kept⟩
  rcases hk with rfl | rfl
  · exact hDo
  · exact hDc

/-- A variable that is written. -/
def StO (b4 : Nat) (f : Nat → Nat) : List Value → List Ent → Prop
  | [], Lg => Lg = [.box b4 (bys fun _ => 0) 59]
  | u :: _, Lg => Lg = [.box b4 (bys f) 59] ∧ u = undef

set_option maxRecDepth 100000 in
set_option maxHeartbeats 1000000 in
theorem implIso_any (N K : Nat) (t u : Nat → Nat → Nat) (w : World) (ht : Byt2 t) (hu : Byt2 u) (e1 : isSq (N : Int) t = true) (e2 : isSq (K : Int) u = true) :
    Calls Tryz.prog 60 #[.agg (sqs (N : Int) t), .agg (sqs (K : Int) u)] w (PlcCode (isoRes (isoAll N K t u)) w) := by
  have M := Mm.start no w
  have H1 := fun w1 => isSquare_any (N : Int) t w1 ht
  have H2 := fun w1 => isSquare_any (K : Int) u w1 hu
  simp only [e1] at H1
  simp only [e2] at H2
  have sq1 := isSq_true.1 e1
  have sq2 := isSq_true.1 e2
  have h0 : 1 ≤ N := by have := sq1.lo; omega
  have h1 : N ≤ 10 := by have := sq1.hi; omega
  have hI := fun w1 bo bc D hD => isomorphisms_any N K t u true 79 #[.pointer (some ⟨bo, 0, none⟩), .pointer (some ⟨bc, 0, none⟩)] (OneV bo bc) 1 D w1 (oneVisit_any bo bc) h0 h1 (Lat.of_sq sq1).lt (Lat.of_sq sq2).lt hD (by show (List.take 1 _).length ≤ 1; rw [List.length_take]; omega)
  have HI := Hid2.mk hI
  have hmf : ∀ (fn : Fn) (first cap : Array Value) (w : World), (Instr.makeFunc fn first cap).run Tryz.prog w = .ok (.func fn first cap) w := fun _ _ _ _ => rfl
  clear hI ht hu e1 e2 sq1 sq2 h0 h1
  have hbd := build_plc
  go_enter Tryz.func60, Tryz.ntmps60
  go_wp2_with (first | ((with_reducible apply wpM_box' M 50 (sqs (N : Int) t)); rfl; exact ⟨rfl, rfl⟩; clear M; (try clear C); intro bq w9 h_bq M; have C := M.ruleAll; simp only [Go.Proofs.YtocejggobgfccaaGreatDoor.ruleAll] at C) | ((with_reducible apply wpM_box' M 50 (sqs (K : Int) u)); rfl; exact ⟨rfl, rfl⟩; clear M; (try clear C); intro br w9 h_br M; have C := M.ruleAll; simp only [Go.Proofs.YtocejggobgfccaaGreatDoor.ruleAll] at C) | (have hq := h_b4; clear hq; ((with_reducible apply wpM_alloc' M 59 (bys fun _ => 0)); rfl; exact ⟨rfl, _, zero_plc _, rfl⟩; clear M; (try clear C); intro bo w9 h_bo M; have C := M.ruleAll; simp only [Go.Proofs.YtocejggobgfccaaGreatDoor.ruleAll] at C)) | ((with_reducible apply wpM_alloc' M 59 (bys fun _ => 0)); rfl; exact ⟨rfl, _, zero_plc _, rfl⟩; clear M; (try clear C); intro b4 w9 h_b4 M; have C := M.ruleAll; simp only [Go.Proofs.YtocejggobgfccaaGreatDoor.ruleAll] at C) | ((with_reducible apply wpM_alloc' M 2 (#[.int .i64 0])); rfl; exact ⟨rfl, _, zero_i64 _, rfl⟩; clear M; (try clear C); intro bc w9 h_bc M; have C := M.ruleAll; simp only [Go.Proofs.YtocejggobgfccaaGreatDoor.ruleAll] at C) | ((with_reducible apply wpM_lda' M 2 50 0 (sqs (N : Int) t)); rfl; rfl; rfl; exact ⟨rfl, inf_sqs.trans (congrArg some (sqs_size ..).symm), _, und_sqs, rfl⟩; exact whole_of rfl) | ((with_reducible apply wpM_lda' M 1 50 0 (sqs (K : Int) u)); rfl; rfl; rfl; exact ⟨rfl, inf_sqs.trans (congrArg some (sqs_size ..).symm), _, und_sqs, rfl⟩; exact whole_of rfl) | (go_at_call 76; ((with_reducible refine (H1 _).mono ?_); rintro e w1 ⟨rfl, hb⟩; have hsz := M.size; (try (have G9 := G.later hb; clear G; have G := G9; clear G9)); have M9 := M.later hb; clear M; (try clear C); have M := M9; clear M9; have C := M.ruleAll; simp only [Go.Proofs.YtocejggobgfccaaGreatDoor.ruleAll] at C)) | (go_at_call 76; ((with_reducible refine (H2 _).mono ?_); rintro e w1 ⟨rfl, hb⟩; have hsz := M.size; (try (have G9 := G.later hb; clear G; have G := G9; clear G9)); have M9 := M.later hb; clear M; (try clear C); have M := M9; clear M9; have C := M.ruleAll; simp only [Go.Proofs.YtocejggobgfccaaGreatDoor.ruleAll] at C)) | (refine wpList_build 59 _ rfl rfl [] rfl _ (build_plc _) ?_) | ((with_reducible apply wpM_sta' M 1 59 (bys fun _ => 0)); rfl; rfl; rfl; rfl; (first | exact .inl (by assumption) | exact .inr rfl | exact .inr (by assumption)); exact ⟨rfl, inf_plc.trans (congrArg some (bys_size ..).symm), flat_bys _⟩; (simp only [entCells, List.getElem?_cons_zero, List.getElem?_cons_succ, bys_size, bys_size]); clear M; (try clear C); intro w9 M; simp only [List.set_cons_zero, List.set_cons_succ, entBlk, entT, List.getElem?_cons_zero, List.getElem?_cons_succ] at M; have C := M.ruleAll; simp only [Go.Proofs.YtocejggobgfccaaGreatDoor.ruleAll] at C) | ((with_reducible apply wpM_st' M 0 2 (0) (#[.int .i64 4])); rfl; rfl; rfl; (first | exact .inl (by assumption) | exact .inr rfl | exact .inr (by assumption)); exact ⟨rfl, rfl, by kernel_rfl⟩; exact Nat.zero_lt_one; exact rfl; clear M; (try clear C); intro w9 M; simp only [List.set_cons_zero, List.set_cons_succ, entBlk, entT, List.getElem?_cons_zero, List.getElem?_cons_succ] at M; have C := M.ruleAll; simp only [Go.Proofs.YtocejggobgfccaaGreatDoor.ruleAll] at C) | ((with_reducible apply wpM_lda' M 4 50 0 (sqs (N : Int) t)); rfl; rfl; rfl; exact ⟨rfl, inf_sqs.trans (congrArg some (sqs_size ..).symm), _, und_sqs, rfl⟩; exact whole_of rfl) | ((with_reducible apply wpM_lda' M 3 50 0 (sqs (K : Int) u)); rfl; rfl; rfl; exact ⟨rfl, inf_sqs.trans (congrArg some (sqs_size ..).symm), _, und_sqs, rfl⟩; exact whole_of rfl))
  have hne : bo ≠ bc := fun e => M.dist 0 1 _ _ rfl rfl (by decide) bo (by subst e; rfl) rfl
  have hn4 : b4 ≠ bc := fun e => M.dist 0 2 _ _ rfl rfl (by decide) b4 (by subst e; rfl) rfl
  have hn5 : b4 ≠ bo := fun e => M.dist 1 2 _ _ rfl rfl (by decide) b4 (by subst e; rfl) rfl
  refine (HI.out _ bo bc _ (OneV.mk (l := []) (M.box 1 rfl) (M.box 0 rfl) hne)).mono ?_
  rintro e w1 ⟨rfl, D', hD1, hD2, hK⟩
  obtain ⟨g1, g2, g3, g4⟩ := Ent.res_now hD1
  have hr : isoRes (res true (isoAll N K t u)) = isoRes (isoAll N K t u) := isoRes_take _
  rw [hr] at g1 g2
  have M1 := (((M.sub [2] (by decide)).go hK (fun k hk h => by rcases h with rfl | rfl <;> omega) (fun x hx b hb h => by
    simp only [List.filterMap_cons, List.filterMap_nil, List.getElem?_cons_succ, List.getElem?_cons_zero, List.mem_singleton] at hx
    subst hx
    cases hb
    rcases h with h | h
    · exact hn5 h.symm
    · exact hn4 h.symm)).add (x := .box bc #[.int .i64 (isoRes (isoAll N K t u)).2] 2) g2 (fun y hy => by
      simp only [List.filterMap_cons, List.filterMap_nil, List.getElem?_cons_succ, List.getElem?_cons_zero, List.mem_singleton] at hy; subst hy
      exact fun b hb hb' => hn4 (by cases hb; cases hb'; rfl))).add (x := .box bo (bys (isoRes (isoAll N K t u)).1) 59) g1 (fun y hy => by
      simp only [List.filterMap_cons, List.filterMap_nil, List.getElem?_cons_succ, List.getElem?_cons_zero, List.mem_cons, List.not_mem_nil, or_false] at hy
      rcases hy with rfl | rfl
      · exact fun b hb hb' => hne (by cases hb; cases hb'; rfl)
      · exact fun b hb hb' => hn5 (by cases hb; cases hb'; rfl))
  have M2 := M1.sub [2, 0, 1] (by decide)
  simp only [List.filterMap_cons, List.filterMap_nil, List.getElem?_cons_succ, List.getElem?_cons_zero] at M2
  clear M; (try clear C)
  have M := M2
  clear M2 M1 hD1 hD2 hK g1 g2 g3 g4 hr HI H1 H2
  obtain ⟨⟨f, d⟩, hc⟩ : ∃ c, c = isoRes (isoAll N K t u) := ⟨_, rfl⟩
  rw [← hc] at M
  have HC := Hid2.mk hc
  clear hc
  have C := M.ruleAll; simp only [Go.Proofs.YtocejggobgfccaaGreatDoor.ruleAll] at C
  go_wp2
  apply wp_region_mmg1 [.box b4 (bys fun _ => 0) 59] (L := [.box bo (bys f) 59, .box bc #[.int .i64 d] 2]) M [0, 1] 2 3 _ (StO b4 f) (by kernel_rfl) (by kernel_rfl) rfl rfl rfl
  case ht => (repeat (first | exact wpTextG_nil | (apply wpTextG_cons; (intro g9 w2 hG; obtain ⟨Lg9, hSt9, G⟩ := hG; have M := G.suffix; have C := M.ruleAll; simp only [Go.Proofs.YtocejggobgfccaaGreatDoor.ruleAll] at C; go_wp2_with (first | ((with_reducible apply wpM_lda' M 0 59 0 (bys f)); rfl; rfl; rfl; exact ⟨rfl, inf_plc.trans (congrArg some (bys_size ..).symm), _, und_plc, rfl⟩; exact whole_of rfl)); exact ⟨rfl, rfl, Lg9, hSt9, G⟩); rfl)))
  case hA =>
    intro Lg w2 h M
    obtain rfl := h
    refine yield_store (ops := #[]) (by exact rfl) (by exact rfl) ?_
    simp only [List.cons_append, List.nil_append] at M
    have C := M.ruleAll; simp only [Go.Proofs.YtocejggobgfccaaGreatDoor.ruleAll] at C
    go_wp2_with (first | ((with_reducible apply wpM_sta' M 0 59 (bys f)); rfl; rfl; rfl; rfl; (first | exact .inl (by assumption) | exact .inr rfl | exact .inr (by assumption)); exact ⟨rfl, inf_plc.trans (congrArg some (bys_size ..).symm), flat_bys _⟩; (simp only [entCells, List.getElem?_cons_zero, List.getElem?_cons_succ, bys_size, bys_size]); clear M; (try clear C); intro w9 M; simp only [List.set_cons_zero, List.set_cons_succ, entBlk, entT, List.getElem?_cons_zero, List.getElem?_cons_succ] at M; have C := M.ruleAll; simp only [Go.Proofs.YtocejggobgfccaaGreatDoor.ruleAll] at C))
    exact ⟨_, ⟨rfl, rfl⟩, M⟩
  clear M; (try clear C)
  intro v Lg w2 h M
  obtain ⟨rfl, rfl⟩ := h
  simp only [List.drop_succ_cons, List.drop_zero, List.cons_append, List.nil_append] at M ⊢
  have C := M.ruleAll; simp only [Go.Proofs.YtocejggobgfccaaGreatDoor.ruleAll] at C
  go_wp2
  refine bodyPost_ret (v := .tuple #[.agg (bys f), .int .i64 d]) (by exact results_plc rfl _ _ _ _ (bys f) _ rfl und_plc rfl (inf_plc.trans (congrArg some (bys_size _).symm)) (cells_of_blk0 (M.box 0 rfl)) _ rfl) rfl ?_
  exact ⟨by rw [← HC.out], M.below⟩

set_option maxRecDepth 100000 in
set_option maxHeartbeats 1000000 in
theorem specIso_any (N : Nat) (t u : Nat → Nat → Nat) (w : World) (ht : Byt2 t) (hu : Byt2 u) (e1 : isSq (N : Int) t = true) (e2 : isSq (N : Int) u = true) :
    Calls Tryz.prog 69 #[.agg (sqs (N : Int) t), .agg (sqs (N : Int) u)] w (PlcCode (isoRes (isoAll N N t u)) w) := by
  have M := Mm.start no w
  have H1 := fun w1 => l02Both_any (N : Int) (N : Int) t u w1 ht hu
  simp only [e1, e2, and_self, if_true] at H1
  have sq1 := isSq_true.1 e1
  have sq2 := isSq_true.1 e2
  have h0 : 1 ≤ N := by have := sq1.lo; omega
  have h1 : N ≤ 10 := by have := sq1.hi; omega
  have H2 : ∀ w1, Calls Tryz.prog 89 #[.agg (sqs (N : Int) t), .agg (sqs (N : Int) u), .int .i64 1] w1 (AllList ((isos N t u fun _ => none).take 1) w1) := fun w1 => l02All_any N t u 1 w1 h0 h1 (Lat.of_sq sq1).lt (Lat.of_sq sq2).lt (by omega) (by omega)
  have hr : isoRes (isoAll N N t u) = isoRes ((isos N t u fun _ => none).take 1) := by rw [isoRes_take, isoAll, if_pos rfl]
  rw [hr]
  generalize (isos N t u fun _ => none).take 1 = L at H2
  clear hr ht hu e1 e2 sq1 sq2 h0 h1
  have hbd := build_plc
  by_cases hz : L.length = 0
  · rw [isoRes_none hz]
    have e0 : ((L.length : Int) == 0) = true := by rw [hz]; rfl
    clear hz
    go_enter Tryz.func69, Tryz.ntmps69
    go_wp2_with (first | ((with_reducible apply wpM_box' M 50 (sqs (N : Int) t)); rfl; exact ⟨rfl, rfl⟩; clear M; (try clear C); intro bq w9 h_bq M; have C := M.ruleAll; simp only [Go.Proofs.YtocejggobgfccaaGreatDoor.ruleAll] at C) | ((with_reducible apply wpM_box' M 50 (sqs (N : Int) u)); rfl; exact ⟨rfl, rfl⟩; clear M; (try clear C); intro br w9 h_br M; have C := M.ruleAll; simp only [Go.Proofs.YtocejggobgfccaaGreatDoor.ruleAll] at C) | ((with_reducible apply wpM_alloc' M 59 (bys fun _ => 0)); rfl; exact ⟨rfl, _, zero_plc _, rfl⟩; clear M; (try clear C); intro b4 w9 h_b4 M; have C := M.ruleAll; simp only [Go.Proofs.YtocejggobgfccaaGreatDoor.ruleAll] at C) | ((with_reducible apply wpM_lda' M 2 50 0 (sqs (N : Int) t)); rfl; rfl; rfl; exact ⟨rfl, inf_sqs.trans (congrArg some (sqs_size ..).symm), _, und_sqs, rfl⟩; exact whole_of rfl) | ((with_reducible apply wpM_lda' M 1 50 0 (sqs (N : Int) u)); rfl; rfl; rfl; exact ⟨rfl, inf_sqs.trans (congrArg some (sqs_size ..).symm), _, und_sqs, rfl⟩; exact whole_of rfl) | (go_at_call 88; ((with_reducible refine (H1 _).mono ?_); rintro e w1 ⟨rfl, hb⟩; have hsz := M.size; (try (have G9 := G.later hb; clear G; have G := G9; clear G9)); have M9 := M.later hb; clear M; (try clear C); have M := M9; clear M9; have C := M.ruleAll; simp only [Go.Proofs.YtocejggobgfccaaGreatDoor.ruleAll] at C)) | (go_at_call 89; ((with_reducible refine (H2 _).mono ?_); rintro e w1 ⟨v, rfl, hO, hb⟩; have hsz := M.size; have M9 := M.later hb; clear M; (try clear C); have M := M9; clear M9; (try simp only [List.set_cons_zero, List.set_cons_succ] at M); have C := M.ruleAll; simp only [Go.Proofs.YtocejggobgfccaaGreatDoor.ruleAll] at C; clear hb; obtain ⟨pp, cap, rfl⟩ := own_form hO)) | (refine wpList_build 59 _ rfl rfl [] rfl _ (build_plc _) ?_) | ((with_reducible apply wpM_sta' M 0 59 (bys fun _ => 0)); rfl; rfl; rfl; rfl; (first | exact .inl (by assumption) | exact .inr rfl | exact .inr (by assumption)); exact ⟨rfl, inf_plc.trans (congrArg some (bys_size ..).symm), flat_bys _⟩; (simp only [entCells, List.getElem?_cons_zero, List.getElem?_cons_succ, bys_size, bys_size]); clear M; (try clear C); intro w9 M; simp only [List.set_cons_zero, List.set_cons_succ, entBlk, entT, List.getElem?_cons_zero, List.getElem?_cons_succ] at M; have C := M.ruleAll; simp only [Go.Proofs.YtocejggobgfccaaGreatDoor.ruleAll] at C))
    refine bodyPost_ret (v := .tuple #[.agg (bys fun _ => 0), .int .i64 4]) (by exact results_plc rfl _ _ _ _ (bys fun _ => 0) _ rfl und_plc rfl (inf_plc.trans (congrArg some (bys_size _).symm)) (cells_of_blk0 (M.box 0 rfl)) _ rfl) rfl ?_
    exact ⟨rfl, M.below⟩
  · have hp : 0 < L.length := by omega
    rw [isoRes_some hp]
    have e0 : ((L.length : Int) == 0) = false := beq_eq_false_iff_ne.2 (by omega)
    have hp' : (0 : Int) < (L.length : Int) := by omega
    have HZ := Hid2.mk (show 0 < L.length * 10 by omega)
    obtain ⟨p, hpp⟩ : ∃ p, p = L[0] := ⟨_, rfl⟩
    have hc0 : ∀ {w3 g}, rds w3 g (L.length * 10) (fun j => (plCells L).getD j undef) → ∀ j v, (bys (wf p))[j]? = some v → w3.cell? ⟨g, 0 + j, none⟩ = some v := fun h j v hv => by
      have := plc_cells h hp j v (by rw [← hpp]; exact hv)
      rwa [Nat.zero_mul] at this
    rw [← hpp]
    have HC0 := Hid2.mk @hc0
    clear hz hp hc0 hpp
    go_enter Tryz.func69, Tryz.ntmps69
    go_wp2_with (first | ((with_reducible apply wpM_box' M 50 (sqs (N : Int) t)); rfl; exact ⟨rfl, rfl⟩; clear M; (try clear C); intro bq w9 h_bq M; have C := M.ruleAll; simp only [Go.Proofs.YtocejggobgfccaaGreatDoor.ruleAll] at C) | ((with_reducible apply wpM_box' M 50 (sqs (N : Int) u)); rfl; exact ⟨rfl, rfl⟩; clear M; (try clear C); intro br w9 h_br M; have C := M.ruleAll; simp only [Go.Proofs.YtocejggobgfccaaGreatDoor.ruleAll] at C) | ((with_reducible apply wpM_alloc' M 59 (bys fun _ => 0)); rfl; exact ⟨rfl, _, zero_plc _, rfl⟩; clear M; (try clear C); intro b4 w9 h_b4 M; have C := M.ruleAll; simp only [Go.Proofs.YtocejggobgfccaaGreatDoor.ruleAll] at C) | ((with_reducible apply wpM_lda' M 2 50 0 (sqs (N : Int) t)); rfl; rfl; rfl; exact ⟨rfl, inf_sqs.trans (congrArg some (sqs_size ..).symm), _, und_sqs, rfl⟩; exact whole_of rfl) | ((with_reducible apply wpM_lda' M 1 50 0 (sqs (N : Int) u)); rfl; rfl; rfl; exact ⟨rfl, inf_sqs.trans (congrArg some (sqs_size ..).symm), _, und_sqs, rfl⟩; exact whole_of rfl) | (go_at_call 88; ((with_reducible refine (H1 _).mono ?_); rintro e w1 ⟨rfl, hb⟩; have hsz := M.size; (try (have G9 := G.later hb; clear G; have G := G9; clear G9)); have M9 := M.later hb; clear M; (try clear C); have M := M9; clear M9; have C := M.ruleAll; simp only [Go.Proofs.YtocejggobgfccaaGreatDoor.ruleAll] at C)) | (go_at_call 89; ((with_reducible refine (H2 _).mono ?_); rintro e w1 ⟨v, rfl, hO, hb⟩; have hsz := M.size; have M9 := M.later hb; clear M; (try clear C); have M := M9; clear M9; (try simp only [List.set_cons_zero, List.set_cons_succ] at M); have C := M.ruleAll; simp only [Go.Proofs.YtocejggobgfccaaGreatDoor.ruleAll] at C; clear hb; obtain ⟨g, cap, rfl, _, _, hr⟩ := own_rds hO HZ.out)) | (refine wpList_load_part rfl 59 _ rfl (g) (0) rfl (bys (wf p)) _ und_plc rfl inf_plc (HC0.out hr) ?_) | ((with_reducible apply wpM_sta' M 0 59 (bys (wf p))); rfl; rfl; rfl; rfl; (first | exact .inl (by assumption) | exact .inr rfl | exact .inr (by assumption)); exact ⟨rfl, inf_plc.trans (congrArg some (bys_size ..).symm), flat_bys _⟩; (simp only [entCells, List.getElem?_cons_zero, List.getElem?_cons_succ, bys_size, bys_size]); clear M; (try clear C); intro w9 M; simp only [List.set_cons_zero, List.set_cons_succ, entBlk, entT, List.getElem?_cons_zero, List.getElem?_cons_succ] at M; have C := M.ruleAll; simp only [Go.Proofs.YtocejggobgfccaaGreatDoor.ruleAll] at C))
    refine bodyPost_ret (v := .tuple #[.agg (bys (wf p)), .int .i64 0]) (by exact results_plc rfl _ _ _ _ (bys (wf p)) _ rfl und_plc rfl (inf_plc.trans (congrArg some (bys_size _).symm)) (cells_of_blk0 (M.box 0 rfl)) _ rfl) rfl ?_
    exact ⟨rfl, M.below⟩
end Go.Proofs.YtocejggobgfccaaGreatDoor

/- Names: contracts. -/
namespace Go.Proofs.YtocejggobgfccaaGreatDoor
set_option linter.unusedSimpArgs false
set_option linter.unusedVariables false
open Go Go.RowKit

/-- Whether a letter may stand at a place of a name. -/
def nameAt (c : Int) (i : Nat) : Bool := (decide (97 ≤ c) && decide (c ≤ 122)) || ((decide (48 ≤ c) && decide (c ≤ 57)) && decide (i ≠ 0))
def chr (s : ByteArray) (i : Nat) : Int := if h : i < s.size then (s[i].toNat : Int) else 0
theorem chr_at {s : ByteArray} {i : Nat} (h : i < s.size) : chr s i = (s[i].toNat : Int) := dif_pos h
theorem name_ok {c : Int} {i : Nat} (h : ¬ (c < 97 ∨ 122 < c) ∨ (¬ (c < 48 ∨ 57 < c) ∧ i ≠ 0)) : nameAt c i = true := by
  unfold nameAt
  simp only [Bool.or_eq_true, Bool.and_eq_true, decide_eq_true_eq]
  omega
theorem name_no {c : Int} {i : Nat} (h : (c < 97 ∨ 122 < c) ∧ ((c < 48 ∨ 57 < c) ∨ i = 0)) : nameAt c i = false := by
  rw [← Bool.not_eq_true]
  unfold nameAt
  simp only [Bool.or_eq_true, Bool.and_eq_true, decide_eq_true_eq]
  omega
def nameTo (s : ByteArray) (k : Nat) : Bool := (List.range k).all fun i => nameAt (chr s i) i
/-- Whether a text is a name. -/
def nameB (s : ByteArray) : Bool := nameTo s s.size && (decide (1 ≤ s.size) && decide (s.size ≤ 12))
theorem nameTo_succ (s : ByteArray) (k : Nat) : nameTo s (k + 1) = (nameTo s k && nameAt (chr s k) k) := by unfold nameTo; rw [List.range_succ, List.all_append]; simp
theorem nameB_fails {s : ByteArray} {k : Nat} (hk : k < s.size) (h : nameAt (chr s k) k = false) : nameB s = false := by
  unfold nameB nameTo
  have : ((List.range s.size).all fun i => nameAt (chr s i) i) = false := by
    rw [List.all_eq_false]; exact ⟨k, List.mem_range.2 hk, by rw [h]; simp⟩
  rw [this]; rfl

theorem nameB_all {s : ByteArray} (h : nameTo s s.size = true) : nameB s = (decide (1 ≤ s.size) && decide (s.size ≤ 12)) := by unfold nameB; rw [h]; rfl

set_option maxRecDepth 100000 in
set_option maxHeartbeats 1000000 in
theorem isName_any (s : ByteArray) (w : World) (hs : s.size ≤ 1048576) : Calls Tryz.prog 39 #[.string s] w fun e w' => e = .returned (.bool (nameB s)) ∧ Below w.heap.size w w' := by
  have M := Mm.start no w
  go_enter Tryz.func39, Tryz.ntmps39
  go_wp2
  go_loopw [8, 3, 4, 5] (fun i _ _ _ wr => ∃ k : Nat, k ≤ s.size ∧ i = .int .i64 (k : Int) ∧ nameTo s k = true ∧ Mm no w wr []) (fun i _ _ _ _ => s.size - (intOf i).toNat)
  case atStart => exact ⟨0, by omega, rfl, rfl, M⟩
  case round =>
    obtain ⟨k, hk, rfl, hl, M9⟩ := hrel
    clear M; (try clear C)
    have M := M9
    clear M9
    have HL := Hid2.mk hl
    clear hl
    by_cases hlt : k < s.size
    · have hlt' : (k : Int) < (s.size : Int) := by omega
      go_wp2
      all_goals
        have hb1 : ((k : Int) == 0) = true → k = 0 := by simp
        have hb2 : ((k : Int) == 0) = false → k ≠ 0 := by simp
        have hb3 : (!decide (((s[k]'hlt).toNat : Int) ≤ 122)) = false → ((s[k]'hlt).toNat : Int) ≤ 122 := by simp
        have hb4 : (!decide (((s[k]'hlt).toNat : Int) ≤ 122)) = true → ¬ ((s[k]'hlt).toNat : Int) ≤ 122 := by simp
        (try have z1 := hb1 (by assumption))
        (try have z2 := hb2 (by assumption))
        (try have z3 := hb3 (by assumption))
        (try have z4 := hb4 (by assumption))
        first
          | exact ⟨⟨k + 1, by omega, by go_num, by rw [nameTo_succ, HL.out, chr_at hlt, name_ok (by omega)]; rfl, M⟩, by simp [intOf]; omega⟩
          | (go_ret; exact ⟨by rw [nameB_fails hlt (by rw [chr_at hlt]; exact name_no (by omega))]; rfl, M.below⟩)
    · obtain rfl : k = s.size := by omega
      have hB := nameB_all HL.out
      have hge : ¬ ((s.size : Int) < (s.size : Int)) := by omega
      have HB := Hid2.mk hB
      clear hB
      go_wp2
      all_goals
        go_ret
        first
          | exact ⟨by rw [show nameB s = decide ((s.size : Int) ≤ 12) by rw [HB.out, Bool.eq_iff_iff]; simp only [Bool.and_eq_true, decide_eq_true_eq]; omega]; rfl, M.below⟩
          | exact ⟨by rw [show nameB s = false by rw [HB.out, ← Bool.not_eq_true]; simp only [Bool.and_eq_true, decide_eq_true_eq]; omega]; rfl, M.below⟩

set_option maxRecDepth 100000 in
set_option maxHeartbeats 2000000 in
theorem l11Name_any (s : ByteArray) (w : World) (hs : s.size ≤ 1048576) : Calls Tryz.prog 27 #[.string s] w fun e w' => e = .returned (.bool (nameB s)) ∧ Below w.heap.size w w' := by
  have M := Mm.start no w
  go_enter Tryz.func27, Tryz.ntmps27
  go_wp2
  go_loopw [3, 4, 5] (fun i _ _ wr => ∃ k : Nat, k ≤ s.size ∧ i = .int .i64 (k : Int) ∧ nameTo s k = true ∧ Mm no w wr []) (fun i _ _ _ => s.size - (intOf i).toNat)
  case atStart => exact ⟨0, by omega, rfl, rfl, M⟩
  case round =>
    obtain ⟨k, hk, rfl, hl, M9⟩ := hrel
    clear M; (try clear C)
    have M := M9
    clear M9
    have HL := Hid2.mk hl
    clear hl
    by_cases hlt : k < s.size
    · have hlt' : (k : Int) < (s.size : Int) := by omega
      by_cases h1 : 97 ≤ ((s[k]'hlt).toNat : Int)
      · have d1 : decide (97 ≤ ((s[k]'hlt).toNat : Int)) = true := decide_eq_true h1
        have h2 : 48 ≤ ((s[k]'hlt).toNat : Int) := by omega
        have d2 : decide (48 ≤ ((s[k]'hlt).toNat : Int)) = true := decide_eq_true h2
        go_wp2
        apply wp_region_mm M 21 (by kernel_rfl) (by kernel_rfl); (simp only [List.take_succ_cons, List.take_zero]; repeat (first | exact wpText_nil | (apply wpText_cons; (intro w2 M; have C := M.ruleAll; simp only [Go.Proofs.YtocejggobgfccaaGreatDoor.ruleAll] at C; go_wp2; exact ⟨rfl, rfl, M⟩); rfl))); (clear M; (try clear C); intro w2 M; simp only [List.drop_succ_cons, List.drop_zero]; have C := M.ruleAll; simp only [Go.Proofs.YtocejggobgfccaaGreatDoor.ruleAll] at C)
        go_wp2
        all_goals
          have hb1 : ((k : Int) == 0) = true → k = 0 := by simp
          have hb2 : ((k : Int) == 0) = false → k ≠ 0 := by simp
          have hb3 : (!decide (((s[k]'hlt).toNat : Int) ≤ 122)) = false → ((s[k]'hlt).toNat : Int) ≤ 122 := by simp
          have hb4 : (!decide (((s[k]'hlt).toNat : Int) ≤ 122)) = true → ¬ ((s[k]'hlt).toNat : Int) ≤ 122 := by simp
          (try have z1 := hb1 (by assumption))
          (try have z2 := hb2 (by assumption))
          (try have z3 := hb3 (by assumption))
          (try have z4 := hb4 (by assumption))
          first
            | exact ⟨⟨k + 1, by omega, by go_num, by rw [nameTo_succ, HL.out, chr_at hlt, name_ok (by omega)]; rfl, M⟩, by simp [intOf]; omega⟩
            | (go_ret; exact ⟨by rw [nameB_fails hlt (by rw [chr_at hlt]; exact name_no (by omega))]; rfl, M.below⟩)
      · have d1 : decide (97 ≤ ((s[k]'hlt).toNat : Int)) = false := decide_eq_false h1
        by_cases h2 : 48 ≤ ((s[k]'hlt).toNat : Int)
        · have d2 : decide (48 ≤ ((s[k]'hlt).toNat : Int)) = true := decide_eq_true h2
          go_wp2
          apply wp_region_mm M 21 (by kernel_rfl) (by kernel_rfl); (simp only [List.take_succ_cons, List.take_zero]; repeat (first | exact wpText_nil | (apply wpText_cons; (intro w2 M; have C := M.ruleAll; simp only [Go.Proofs.YtocejggobgfccaaGreatDoor.ruleAll] at C; go_wp2; exact ⟨rfl, rfl, M⟩); rfl))); (clear M; (try clear C); intro w2 M; simp only [List.drop_succ_cons, List.drop_zero]; have C := M.ruleAll; simp only [Go.Proofs.YtocejggobgfccaaGreatDoor.ruleAll] at C)
          go_wp2
          all_goals
            have hb1 : ((k : Int) == 0) = true → k = 0 := by simp
            have hb2 : ((k : Int) == 0) = false → k ≠ 0 := by simp
            have hb3 : (!decide (((s[k]'hlt).toNat : Int) ≤ 122)) = false → ((s[k]'hlt).toNat : Int) ≤ 122 := by simp
            have hb4 : (!decide (((s[k]'hlt).toNat : Int) ≤ 122)) = true → ¬ ((s[k]'hlt).toNat : Int) ≤ 122 := by simp
            (try have z1 := hb1 (by assumption))
            (try have z2 := hb2 (by assumption))
            (try have z3 := hb3 (by assumption))
            (try have z4 := hb4 (by assumption))
            first
              | exact ⟨⟨k + 1, by omega, by go_num, by rw [nameTo_succ, HL.out, chr_at hlt, name_ok (by omega)]; rfl, M⟩, by simp [intOf]; omega⟩
              | (go_ret; exact ⟨by rw [nameB_fails hlt (by rw [chr_at hlt]; exact name_no (by omega))]; rfl, M.below⟩)
        · have d2 : decide (48 ≤ ((s[k]'hlt).toNat : Int)) = false := decide_eq_false h2
          go_wp2
          apply wp_region_mm M 21 (by kernel_rfl) (by kernel_rfl); (simp only [List.take_succ_cons, List.take_zero]; repeat (first | exact wpText_nil | (apply wpText_cons; (intro w2 M; have C := M.ruleAll; simp only [Go.Proofs.YtocejggobgfccaaGreatDoor.ruleAll] at C; go_wp2; exact ⟨rfl, rfl, M⟩); rfl))); (clear M; (try clear C); intro w2 M; simp only [List.drop_succ_cons, List.drop_zero]; have C := M.ruleAll; simp only [Go.Proofs.YtocejggobgfccaaGreatDoor.ruleAll] at C)
          go_wp2
          all_goals
            have hb1 : ((k : Int) == 0) = true → k = 0 := by simp
            have hb2 : ((k : Int) == 0) = false → k ≠ 0 := by simp
            have hb3 : (!decide (((s[k]'hlt).toNat : Int) ≤ 122)) = false → ((s[k]'hlt).toNat : Int) ≤ 122 := by simp
            have hb4 : (!decide (((s[k]'hlt).toNat : Int) ≤ 122)) = true → ¬ ((s[k]'hlt).toNat : Int) ≤ 122 := by simp
            (try have z1 := hb1 (by assumption))
            (try have z2 := hb2 (by assumption))
            (try have z3 := hb3 (by assumption))
            (try have z4 := hb4 (by assumption))
            first
              | exact ⟨⟨k + 1, by omega, by go_num, by rw [nameTo_succ, HL.out, chr_at hlt, name_ok (by omega)]; rfl, M⟩, by simp [intOf]; omega⟩
              | (go_ret; exact ⟨by rw [nameB_fails hlt (by rw [chr_at hlt]; exact name_no (by omega))]; rfl, M.below⟩)
    · obtain rfl : k = s.size := by omega
      have hB := nameB_all HL.out
      have hge : ¬ ((s.size : Int) < (s.size : Int)) := by omega
      have HB := Hid2.mk hB
      clear hB
      go_wp2
      all_goals
        go_ret
        first
          | exact ⟨by rw [show nameB s = decide ((s.size : Int) ≤ 12) by rw [HB.out, Bool.eq_iff_iff]; simp only [Bool.and_eq_true, decide_eq_true_eq]; omega]; rfl, M.below⟩
          | exact ⟨by rw [show nameB s = false by rw [HB.out, ← Bool.not_eq_true]; simp only [Bool.and_eq_true, decide_eq_true_eq]; omega]; rfl, M.below⟩
end Go.Proofs.YtocejggobgfccaaGreatDoor

/- Whether two loops are alike, for the program and for the reference; lists of squares: contracts. -/
namespace Go.Proofs.YtocejggobgfccaaGreatDoor
set_option linter.unusedSimpArgs false
set_option linter.unusedVariables false
open Go Go.RowKit

set_option maxRecDepth 100000 in
set_option maxHeartbeats 1000000 in
theorem alike_any (N K : Nat) (t u : Nat → Nat → Nat) (w : World) (ht : Byt2 t) (hu : Byt2 u) (e1 : isSq (N : Int) t = true) (e2 : isSq (K : Int) u = true) :
    Calls Tryz.prog 42 #[.agg (sqs (N : Int) t), .agg (sqs (K : Int) u)] w fun e w' => e = .returned (.bool ((isoRes (isoAll N K t u)).2 == 0)) ∧ Below w.heap.size w w' := by
  have M := Mm.start no w
  have H := fun w1 => implIso_any N K t u w1 ht hu e1 e2
  generalize isoRes (isoAll N K t u) = c at H ⊢
  obtain ⟨f, d⟩ := c
  clear ht hu e1 e2
  go_enter Tryz.func42, Tryz.ntmps42
  go_wp2_with (first | ((with_reducible apply wpM_box' M 50 (sqs (N : Int) t)); rfl; exact ⟨rfl, rfl⟩; clear M; (try clear C); intro bq w9 h_bq M; have C := M.ruleAll; simp only [Go.Proofs.YtocejggobgfccaaGreatDoor.ruleAll] at C) | ((with_reducible apply wpM_box' M 50 (sqs (K : Int) u)); rfl; exact ⟨rfl, rfl⟩; clear M; (try clear C); intro br w9 h_br M; have C := M.ruleAll; simp only [Go.Proofs.YtocejggobgfccaaGreatDoor.ruleAll] at C) | ((with_reducible apply wpM_lda' M 1 50 0 (sqs (N : Int) t)); rfl; rfl; rfl; exact ⟨rfl, inf_sqs.trans (congrArg some (sqs_size ..).symm), _, und_sqs, rfl⟩; exact whole_of rfl) | ((with_reducible apply wpM_lda' M 0 50 0 (sqs (K : Int) u)); rfl; rfl; rfl; exact ⟨rfl, inf_sqs.trans (congrArg some (sqs_size ..).symm), _, und_sqs, rfl⟩; exact whole_of rfl) | (go_at_call 60; ((with_reducible refine (H _).mono ?_); rintro e w1 ⟨rfl, hb⟩; have hsz := M.size; (try (have G9 := G.later hb; clear G; have G := G9; clear G9)); have M9 := M.later hb; clear M; (try clear C); have M := M9; clear M9; have C := M.ruleAll; simp only [Go.Proofs.YtocejggobgfccaaGreatDoor.ruleAll] at C)) | ((with_reducible apply wpM_alloc' M 59 (bys fun _ => 0)); rfl; exact ⟨rfl, _, zero_plc _, rfl⟩; clear M; (try clear C); intro b5 w9 h_b5 M; have C := M.ruleAll; simp only [Go.Proofs.YtocejggobgfccaaGreatDoor.ruleAll] at C) | ((with_reducible apply wpM_sta' M 0 59 (bys f)); rfl; rfl; rfl; rfl; (first | exact .inl (by assumption) | exact .inr rfl | exact .inr (by assumption)); exact ⟨rfl, inf_plc.trans (congrArg some (bys_size ..).symm), flat_bys _⟩; (simp only [entCells, List.getElem?_cons_zero, List.getElem?_cons_succ, bys_size, bys_size]); clear M; (try clear C); intro w9 M; simp only [List.set_cons_zero, List.set_cons_succ, entBlk, entT, List.getElem?_cons_zero, List.getElem?_cons_succ] at M; have C := M.ruleAll; simp only [Go.Proofs.YtocejggobgfccaaGreatDoor.ruleAll] at C))
  go_ret
  exact ⟨rfl, M.below⟩

set_option maxRecDepth 100000 in
set_option maxHeartbeats 1000000 in
theorem l11Alike_any (N K : Nat) (t u : Nat → Nat → Nat) (w : World) (ht : Byt2 t) (hu : Byt2 u) (e1 : isSq (N : Int) t = true) (e2 : isSq (K : Int) u = true) :
    Calls Tryz.prog 48 #[.agg (sqs (N : Int) t), .agg (sqs (K : Int) u)] w fun e w' => e = .returned (.tuple #[.agg (bys (isoRes (isoAll N K t u)).1), .bool ((isoRes (isoAll N K t u)).2 == 0)]) ∧ Below w.heap.size w w' := by
  have M := Mm.start no w
  have so1 := sqs_order (N : Int) t
  have so2 := sqs_order (K : Int) u
  have hbd := build_plc
  by_cases hNK : N = K
  · subst hNK
    have H := fun w1 => specIso_any N t u w1 ht hu e1 e2
    generalize isoRes (isoAll N N t u) = c at H ⊢
    obtain ⟨f, d⟩ := c
    clear ht hu e1 e2
    have hnn : ((N : Int) == (N : Int)) = true := by simp
    go_enter Tryz.func48, Tryz.ntmps48
    go_wp2_with (first | ((with_reducible apply wpM_box' M 50 (sqs (N : Int) t)); rfl; exact ⟨rfl, rfl⟩; clear M; (try clear C); intro bq w9 h_bq M; have C := M.ruleAll; simp only [Go.Proofs.YtocejggobgfccaaGreatDoor.ruleAll] at C) | ((with_reducible apply wpM_box' M 50 (sqs (N : Int) u)); rfl; exact ⟨rfl, rfl⟩; clear M; (try clear C); intro br w9 h_br M; have C := M.ruleAll; simp only [Go.Proofs.YtocejggobgfccaaGreatDoor.ruleAll] at C) | ((with_reducible apply wpM_lda' M 2 50 0 (sqs (N : Int) t)); rfl; rfl; rfl; exact ⟨rfl, inf_sqs.trans (congrArg some (sqs_size ..).symm), _, und_sqs, rfl⟩; exact whole_of rfl) | ((with_reducible apply wpM_lda' M 1 50 0 (sqs (N : Int) u)); rfl; rfl; rfl; exact ⟨rfl, inf_sqs.trans (congrArg some (sqs_size ..).symm), _, und_sqs, rfl⟩; exact whole_of rfl) | (go_at_call 69; ((with_reducible refine (H _).mono ?_); rintro e w1 ⟨rfl, hb⟩; have hsz := M.size; (try (have G9 := G.later hb; clear G; have G := G9; clear G9)); have M9 := M.later hb; clear M; (try clear C); have M := M9; clear M9; have C := M.ruleAll; simp only [Go.Proofs.YtocejggobgfccaaGreatDoor.ruleAll] at C)) | ((with_reducible apply wpM_alloc' M 59 (bys fun _ => 0)); rfl; exact ⟨rfl, _, zero_plc _, rfl⟩; clear M; (try clear C); intro b4 w9 h_b4 M; have C := M.ruleAll; simp only [Go.Proofs.YtocejggobgfccaaGreatDoor.ruleAll] at C) | ((with_reducible apply wpM_sta' M 0 59 (bys f)); rfl; rfl; rfl; rfl; (first | exact .inl (by assumption) | exact .inr rfl | exact .inr (by assumption)); exact ⟨rfl, inf_plc.trans (congrArg some (bys_size ..).symm), flat_bys _⟩; (simp only [entCells, List.getElem?_cons_zero, List.getElem?_cons_succ, bys_size, bys_size]); clear M; (try clear C); intro w9 M; simp only [List.set_cons_zero, List.set_cons_succ, entBlk, entT, List.getElem?_cons_zero, List.getElem?_cons_succ] at M; have C := M.ruleAll; simp only [Go.Proofs.YtocejggobgfccaaGreatDoor.ruleAll] at C) | ((with_reducible apply wpM_lda' M 0 59 0 (bys f)); rfl; rfl; rfl; exact ⟨rfl, inf_plc.trans (congrArg some (bys_size ..).symm), _, und_plc, rfl⟩; exact whole_of rfl) | ((with_reducible apply wpM_sta' M 1 59 (bys f)); rfl; rfl; rfl; rfl; (first | exact .inl (by assumption) | exact .inr rfl | exact .inr (by assumption)); exact ⟨rfl, inf_plc.trans (congrArg some (bys_size ..).symm), flat_bys _⟩; (simp only [entCells, List.getElem?_cons_zero, List.getElem?_cons_succ, bys_size, bys_size]); clear M; (try clear C); intro w9 M; simp only [List.set_cons_zero, List.set_cons_succ, entBlk, entT, List.getElem?_cons_zero, List.getElem?_cons_succ] at M; have C := M.ruleAll; simp only [Go.Proofs.YtocejggobgfccaaGreatDoor.ruleAll] at C))
    refine bodyPost_ret (v := .tuple #[.agg (bys f), .bool (d == 0)]) (by exact results_plc rfl _ _ _ _ (bys f) _ rfl und_plc rfl (inf_plc.trans (congrArg some (bys_size _).symm)) (cells_of_blk0 (M.box 1 rfl)) _ rfl) rfl ?_
    exact ⟨rfl, M.below⟩
  · have hi : isoAll N K t u = [] := if_neg hNK
    rw [hi]
    have hnn : ((N : Int) == (K : Int)) = false := beq_eq_false_iff_ne.2 (by omega)
    clear hi ht hu e1 e2
    go_enter Tryz.func48, Tryz.ntmps48
    go_wp2_with (first | ((with_reducible apply wpM_box' M 50 (sqs (N : Int) t)); rfl; exact ⟨rfl, rfl⟩; clear M; (try clear C); intro bq w9 h_bq M; have C := M.ruleAll; simp only [Go.Proofs.YtocejggobgfccaaGreatDoor.ruleAll] at C) | ((with_reducible apply wpM_box' M 50 (sqs (K : Int) u)); rfl; exact ⟨rfl, rfl⟩; clear M; (try clear C); intro br w9 h_br M; have C := M.ruleAll; simp only [Go.Proofs.YtocejggobgfccaaGreatDoor.ruleAll] at C) | ((with_reducible apply wpM_alloc' M 59 (bys fun _ => 0)); rfl; exact ⟨rfl, _, zero_plc _, rfl⟩; clear M; (try clear C); intro b4 w9 h_b4 M; have C := M.ruleAll; simp only [Go.Proofs.YtocejggobgfccaaGreatDoor.ruleAll] at C) | (refine wpList_build 59 _ rfl rfl [] rfl _ (build_plc _) ?_) | ((with_reducible apply wpM_sta' M 0 59 (bys fun _ => 0)); rfl; rfl; rfl; rfl; (first | exact .inl (by assumption) | exact .inr rfl | exact .inr (by assumption)); exact ⟨rfl, inf_plc.trans (congrArg some (bys_size ..).symm), flat_bys _⟩; (simp only [entCells, List.getElem?_cons_zero, List.getElem?_cons_succ, bys_size, bys_size]); clear M; (try clear C); intro w9 M; simp only [List.set_cons_zero, List.set_cons_succ, entBlk, entT, List.getElem?_cons_zero, List.getElem?_cons_succ] at M; have C := M.ruleAll; simp only [Go.Proofs.YtocejggobgfccaaGreatDoor.ruleAll] at C))
    refine bodyPost_ret (v := .tuple #[.agg (bys fun _ => 0), .bool false]) (by exact results_plc rfl _ _ _ _ (bys fun _ => 0) _ rfl und_plc rfl (inf_plc.trans (congrArg some (bys_size _).symm)) (cells_of_blk0 (M.box 0 rfl)) _ rfl) rfl ?_
    exact ⟨rfl, M.below⟩
end Go.Proofs.YtocejggobgfccaaGreatDoor

/- Lists of squares: contracts. -/
namespace Go.Proofs.YtocejggobgfccaaGreatDoor
set_option linter.unusedSimpArgs false
set_option linter.unusedVariables false
open Go Go.RowKit

theorem sqC_size (q : Sqr) : (sqC q).size = 101 := sqs_size ..
theorem sq_cells {w : World} {g : Nat} {l : List Sqr} (h : rds w g (l.length * 101) (fun j => (slC l).getD j undef)) {k : Nat} (hk : k < l.length) : ∀ j v, (sqs l[k].n l[k].t)[j]? = some v → w.cell? ⟨g, k * 101 + j, none⟩ = some v := row_cells sqC_size h hk
/-- Whether a square is a loop. -/
noncomputable def lpB (q : Sqr) : Bool := isLp q.n q.t

set_option maxRecDepth 100000 in
set_option maxHeartbeats 1000000 in
theorem areLoops_any (l : List Sqr) (hlen : l.length ≤ 10000000) (hby : ∀ q ∈ l, Byt2 q.t) (w : World) (g cap : Nat) (hr : rds w g (l.length * 101) (fun j => (slC l).getD j undef)) :
    Calls Tryz.prog 36 #[.slice (some ⟨g, 0, none⟩) l.length cap] w fun e w' => e = .returned (.bool (l.all lpB)) ∧ Below w.heap.size w w' := by
  have M := (Mm.start no w).add (x := .rd g (l.length * 101) (fun j => (slC l).getD j undef)) hr fun _ h => by cases h
  have HBY := Hid2.mk hby
  clear hr hby
  have C := M.ruleAll; simp only [Go.Proofs.YtocejggobgfccaaGreatDoor.ruleAll] at C
  go_enter Tryz.func36, Tryz.ntmps36
  go_wp2
  go_loopw [7, 4] (fun i _ wr => ∃ k : Nat, k ≤ l.length ∧ i = .int .i64 (k : Int) ∧ (l.take k).all lpB = true ∧ Mm no w wr [.rd g (l.length * 101) (fun j => (slC l).getD j undef)]) (fun i _ _ => l.length - (intOf i).toNat)
  case atStart => exact ⟨0, by omega, rfl, rfl, M⟩
  case round =>
    obtain ⟨k, hk, rfl, hl, M9⟩ := hrel
    clear M; (try clear C)
    have M := M9
    clear M9
    have C := M.ruleAll; simp only [Go.Proofs.YtocejggobgfccaaGreatDoor.ruleAll] at C
    have HL := Hid2.mk hl
    clear hl
    by_cases hlt : k < l.length
    · have hlt' : (k : Int) < (l.length : Int) := by omega
      have hall := all_take lpB l hlt
      have hfail := @all_fails _ lpB l k hlt
      have hB := HBY.out _ (List.getElem_mem hlt)
      obtain ⟨q, hq⟩ : ∃ q, q = l[k] := ⟨_, rfl⟩
      have hcells : ∀ {w3}, rds w3 g (l.length * 101) (fun j => (slC l).getD j undef) → ∀ j v, (sqs q.n q.t)[j]? = some v → w3.cell? ⟨g, k * 101 + j, none⟩ = some v := fun h => by rw [hq]; exact sq_cells h hlt
      rw [← hq] at hall hfail hB
      have H := fun w1 => isLoop_any q.n q.t w1 hB
      have HCE := Hid2.mk @hcells
      have hlp : lpB q = isLp q.n q.t := rfl
      rw [← hlp] at H
      clear hq hB hcells hlp
      cases hv : lpB q with
      | true =>
        simp only [hv] at H
        have HST := Hid2.mk (show (l.take (k + 1)).all lpB = true by rw [hall, HL.out, hv]; rfl)
        clear hall hfail hv
        go_wp2_with (first | (refine wpList_load_part rfl 50 _ rfl (g) (k * 101) rfl (sqs q.n q.t) _ und_sqs rfl inf_sqs (HCE.out (by first | exact M.rd 0 rfl | exact M.rd 1 rfl)) ?_) | ((with_reducible apply wpM_alloc' M 50 (sqs 0 fun _ _ => 0)); rfl; exact ⟨rfl, _, zero_sqs _, rfl⟩; clear M; (try clear C); intro b4 w9 h_b4 M; have C := M.ruleAll; simp only [Go.Proofs.YtocejggobgfccaaGreatDoor.ruleAll] at C) | ((with_reducible apply wpM_sta' M 0 50 (sqs q.n q.t)); rfl; rfl; rfl; rfl; (first | exact .inl (by assumption) | exact .inr rfl | exact .inr (by assumption)); exact ⟨rfl, inf_sqs.trans (congrArg some (sqs_size ..).symm), flat_sqs _ _⟩; (simp only [entCells, List.getElem?_cons_zero, List.getElem?_cons_succ, sqs_size, sqs_size]); clear M; (try clear C); intro w9 M; simp only [List.set_cons_zero, List.set_cons_succ, entBlk, entT, List.getElem?_cons_zero, List.getElem?_cons_succ] at M; have C := M.ruleAll; simp only [Go.Proofs.YtocejggobgfccaaGreatDoor.ruleAll] at C) | ((with_reducible apply wpM_lda' M 0 50 0 (sqs q.n q.t)); rfl; rfl; rfl; exact ⟨rfl, inf_sqs.trans (congrArg some (sqs_size ..).symm), _, und_sqs, rfl⟩; exact whole_of rfl) | (go_at_call 55; ((with_reducible refine (H _).mono ?_); rintro e w1 ⟨rfl, hb⟩; have hsz := M.size; (try (have G9 := G.later hb; clear G; have G := G9; clear G9)); have M9 := M.later hb; clear M; (try clear C); have M := M9; clear M9; have C := M.ruleAll; simp only [Go.Proofs.YtocejggobgfccaaGreatDoor.ruleAll] at C)))
        go_roundw
        case rel => exact ⟨k + 1, by omega, by go_num, HST.out, M.drop 0⟩
        case measure => simp [intOf]; omega
      | false =>
        simp only [hv] at H
        have HST := Hid2.mk (hfail hv)
        clear hall hfail hv
        go_wp2_with (first | (refine wpList_load_part rfl 50 _ rfl (g) (k * 101) rfl (sqs q.n q.t) _ und_sqs rfl inf_sqs (HCE.out (by first | exact M.rd 0 rfl | exact M.rd 1 rfl)) ?_) | ((with_reducible apply wpM_alloc' M 50 (sqs 0 fun _ _ => 0)); rfl; exact ⟨rfl, _, zero_sqs _, rfl⟩; clear M; (try clear C); intro b4 w9 h_b4 M; have C := M.ruleAll; simp only [Go.Proofs.YtocejggobgfccaaGreatDoor.ruleAll] at C) | ((with_reducible apply wpM_sta' M 0 50 (sqs q.n q.t)); rfl; rfl; rfl; rfl; (first | exact .inl (by assumption) | exact .inr rfl | exact .inr (by assumption)); exact ⟨rfl, inf_sqs.trans (congrArg some (sqs_size ..).symm), flat_sqs _ _⟩; (simp only [entCells, List.getElem?_cons_zero, List.getElem?_cons_succ, sqs_size, sqs_size]); clear M; (try clear C); intro w9 M; simp only [List.set_cons_zero, List.set_cons_succ, entBlk, entT, List.getElem?_cons_zero, List.getElem?_cons_succ] at M; have C := M.ruleAll; simp only [Go.Proofs.YtocejggobgfccaaGreatDoor.ruleAll] at C) | ((with_reducible apply wpM_lda' M 0 50 0 (sqs q.n q.t)); rfl; rfl; rfl; exact ⟨rfl, inf_sqs.trans (congrArg some (sqs_size ..).symm), _, und_sqs, rfl⟩; exact whole_of rfl) | (go_at_call 55; ((with_reducible refine (H _).mono ?_); rintro e w1 ⟨rfl, hb⟩; have hsz := M.size; (try (have G9 := G.later hb; clear G; have G := G9; clear G9)); have M9 := M.later hb; clear M; (try clear C); have M := M9; clear M9; have C := M.ruleAll; simp only [Go.Proofs.YtocejggobgfccaaGreatDoor.ruleAll] at C)))
        go_ret
        exact ⟨by rw [HST.out]; rfl, M.below⟩
    · obtain rfl : k = l.length := by omega
      have hge : ¬ ((l.length : Int) < (l.length : Int)) := by omega
      go_wp2
      go_ret
      exact ⟨by rw [← HL.out, List.take_length]; rfl, M.below⟩

set_option maxRecDepth 100000 in
set_option maxHeartbeats 400000 in
theorem isLarge_any (q : Sqr) (w : World) : Calls Tryz.prog 38 #[.agg (sqs q.n q.t)] w fun e w' => e = .returned (.bool (decide (7 < q.n))) ∧ Below w.heap.size w w' := by
  have M := Mm.start no w
  have so := sqs_order q.n q.t
  go_enter Tryz.func38, Tryz.ntmps38
  go_wp2_with (first | ((with_reducible apply wpM_box' M 50 (sqs q.n q.t)); rfl; exact ⟨rfl, rfl⟩; clear M; (try clear C); intro bq w9 h_bq M; have C := M.ruleAll; simp only [Go.Proofs.YtocejggobgfccaaGreatDoor.ruleAll] at C))
  go_ret
  exact ⟨rfl, M.below⟩
end Go.Proofs.YtocejggobgfccaaGreatDoor

/- Places in lists of squares and of names: contracts. -/
namespace Go.Proofs.YtocejggobgfccaaGreatDoor
set_option linter.unusedSimpArgs false
set_option linter.unusedVariables false
open Go Go.RowKit

set_option maxRecDepth 100000 in
set_option maxHeartbeats 1000000 in
theorem indexFunc_any (l : List Sqr) (hlen : l.length ≤ 10000000) (w : World) (g cap : Nat) (hr : rds w g (l.length * 101) (fun j => (slC l).getD j undef)) (f : Nat) (cp : Array Value) (p : Sqr → Bool)
    (hen : ∀ (args : Array Value) (w : World), (callFunc f args).run Tryz.prog w = .ok (.enter f args) w)
    (hf : ∀ q ∈ l, ∀ w1, Below w.heap.size w w1 → Calls Tryz.prog f (#[.agg (sqs q.n q.t)] ++ cp) w1 fun e w' => e = .returned (.bool (p q)) ∧ Below w1.heap.size w1 w') :
    Calls Tryz.prog 56 #[.slice (some ⟨g, 0, none⟩) l.length cap, .func (.func f) #[] cp] w fun e w' => e = .returned (.int .i64 (placeOf p l)) ∧ Below w.heap.size w w' := by
  have M := (Mm.start no w).add (x := .rd g (l.length * 101) (fun j => (slC l).getD j undef)) hr fun _ h => by cases h
  have HF := Hid2.mk hf
  clear hr hf
  have C := M.ruleAll; simp only [Go.Proofs.YtocejggobgfccaaGreatDoor.ruleAll] at C
  go_enter Tryz.func56, Tryz.ntmps56
  go_wp2
  go_loopw [8, 5] (fun i _ wr => ∃ k : Nat, k ≤ l.length ∧ i = .int .i64 (k : Int) ∧ (∀ j (h : j < l.length), j < k → p l[j] = false) ∧ Mm no w wr [.rd g (l.length * 101) (fun j => (slC l).getD j undef)]) (fun i _ _ => l.length - (intOf i).toNat)
  case atStart => exact ⟨0, by omega, rfl, fun j _ h => by omega, M⟩
  case round =>
    obtain ⟨k, hk, rfl, hl, M9⟩ := hrel
    clear M; (try clear C)
    have M := M9
    clear M9
    have C := M.ruleAll; simp only [Go.Proofs.YtocejggobgfccaaGreatDoor.ruleAll] at C
    have HL := Hid2.mk hl
    clear hl
    by_cases hlt : k < l.length
    · have hlt' : (k : Int) < (l.length : Int) := by omega
      have hfound := fun h => @placeOf_some _ p l k hlt (fun j hj => HL.out j (Nat.lt_trans hj hlt) hj) h
      have hnext : p l[k] = false → ∀ j (h : j < l.length), j < k + 1 → p l[j] = false := fun h j hj h1 => by
        rcases Nat.lt_or_eq_of_le (Nat.lt_succ_iff.1 h1) with h2 | rfl
        · exact HL.out j hj h2
        · exact h
      have hF := HF.out _ (List.getElem_mem hlt)
      obtain ⟨q, hq⟩ : ∃ q, q = l[k] := ⟨_, rfl⟩
      have hcells : ∀ {w3}, rds w3 g (l.length * 101) (fun j => (slC l).getD j undef) → ∀ j v, (sqs q.n q.t)[j]? = some v → w3.cell? ⟨g, k * 101 + j, none⟩ = some v := fun h => by rw [hq]; exact sq_cells h hlt
      rw [← hq] at hfound hnext hF
      have HCE := Hid2.mk @hcells
      clear hq hcells
      cases hv : p q with
      | false =>
        simp only [hv] at hF
        have HST := Hid2.mk (hnext hv)
        clear hfound hnext hv
        go_wp2_with (first | (refine wpList_load_part rfl 50 _ rfl (g) (k * 101) rfl (sqs q.n q.t) _ und_sqs rfl inf_sqs (HCE.out (M.rd 0 rfl)) ?_))
        refine (hF _ M.below).mono ?_
        rintro e w1 ⟨rfl, hb⟩
        have M9 := M.later hb
        clear M; (try clear C)
        have M := M9
        clear M9
        have C := M.ruleAll; simp only [Go.Proofs.YtocejggobgfccaaGreatDoor.ruleAll] at C
        go_wp2
        go_roundw
        case rel => exact ⟨k + 1, by omega, by go_num, HST.out, M⟩
        case measure => simp [intOf]; omega
      | true =>
        simp only [hv] at hF
        have HST := Hid2.mk (hfound hv)
        clear hfound hnext hv
        go_wp2_with (first | (refine wpList_load_part rfl 50 _ rfl (g) (k * 101) rfl (sqs q.n q.t) _ und_sqs rfl inf_sqs (HCE.out (M.rd 0 rfl)) ?_))
        refine (hF _ M.below).mono ?_
        rintro e w1 ⟨rfl, hb⟩
        have M9 := M.later hb
        clear M; (try clear C)
        have M := M9
        clear M9
        have C := M.ruleAll; simp only [Go.Proofs.YtocejggobgfccaaGreatDoor.ruleAll] at C
        go_wp2
        go_ret
        exact ⟨by rw [HST.out]; rfl, M.below⟩
    · obtain rfl : k = l.length := by omega
      have hge : ¬ ((l.length : Int) < (l.length : Int)) := by omega
      go_wp2
      go_ret
      exact ⟨by rw [placeOf_none fun j hj => HL.out j hj hj]; rfl, M.below⟩

theorem placeOf_sign {α : Type} (p : α → Bool) (l : List α) : decide (0 ≤ placeOf p l) = l.any p := by
  unfold placeOf
  cases h : l.findIdx? p with
  | none =>
    rw [List.findIdx?_eq_none_iff] at h
    rw [show l.any p = false from List.any_eq_false.2 fun x hx => by rw [h x hx]; simp]
    rfl
  | some i =>
    obtain ⟨hi, h1, _⟩ := List.findIdx?_eq_some_iff_getElem.1 h
    rw [show l.any p = true from List.any_eq_true.2 ⟨l[i], List.getElem_mem hi, h1⟩]
    simp

set_option maxRecDepth 100000 in
set_option maxHeartbeats 400000 in
theorem containsFunc_any (l : List Sqr) (hlen : l.length ≤ 10000000) (w : World) (g cap : Nat) (hr : rds w g (l.length * 101) (fun j => (slC l).getD j undef)) (f : Nat) (cp : Array Value) (p : Sqr → Bool)
    (hen : ∀ (args : Array Value) (w : World), (callFunc f args).run Tryz.prog w = .ok (.enter f args) w)
    (hf : ∀ q ∈ l, ∀ w1, Below w.heap.size w w1 → Calls Tryz.prog f (#[.agg (sqs q.n q.t)] ++ cp) w1 fun e w' => e = .returned (.bool (p q)) ∧ Below w1.heap.size w1 w') :
    Calls Tryz.prog 37 #[.slice (some ⟨g, 0, none⟩) l.length cap, .func (.func f) #[] cp] w fun e w' => e = .returned (.bool (l.any p)) ∧ Below w.heap.size w w' := by
  have M := Mm.start no w
  have C := M.rules
  have H := indexFunc_any l hlen w g cap hr f cp p hen hf
  rw [← placeOf_sign]
  generalize placeOf p l = r at H ⊢
  clear hf hr
  go_enter Tryz.func37, Tryz.ntmps37
  go_wp2_with (first | (go_at_call 56; ((with_reducible refine (H).mono ?_); rintro e w1 ⟨rfl, hb⟩; have hsz := M.size; (try (have G9 := G.later hb; clear G; have G := G9; clear G9)); have M9 := M.later hb; clear M; (try clear C); have M := M9; clear M9; have C := M.ruleAll; simp only [Go.Proofs.YtocejggobgfccaaGreatDoor.ruleAll] at C)))
  go_ret
  exact ⟨rfl, M.below⟩

/-- A row of names. -/
def nmF (l : List ByteArray) (j : Nat) : Value := .string (l.getD j .empty)
theorem nmF_at {l : List ByteArray} {k : Nat} (h : k < l.length) : nmF l k = .string l[k] := by unfold nmF; rw [List.getD_eq_getElem?_getD, List.getElem?_eq_getElem h]; rfl

set_option maxRecDepth 100000 in
set_option maxHeartbeats 1000000 in
theorem index_any (l : List ByteArray) (m : Nat) (hm : m ≤ l.length) (hlen : l.length ≤ 10000000) (s : ByteArray) (w : World) (g cap : Nat) (hr : rds w g l.length (nmF l)) :
    Calls Tryz.prog 57 #[.slice (some ⟨g, 0, none⟩) m cap, .string s] w fun e w' => e = .returned (.int .i64 (placeOf (fun x => s.toList == x.toList) (l.take m))) ∧ Below w.heap.size w w' := by
  have M := (Mm.start no w).add (x := .rd g l.length (nmF l)) hr fun _ h => by cases h
  clear hr
  have C := M.ruleAll; simp only [Go.Proofs.YtocejggobgfccaaGreatDoor.ruleAll] at C
  go_enter Tryz.func57, Tryz.ntmps57
  go_wp2
  go_loopw [8, 5] (fun i _ wr => ∃ k : Nat, k ≤ m ∧ i = .int .i64 (k : Int) ∧ (∀ j (h : j < (l.take m).length), j < k → (s.toList == (l.take m)[j].toList) = false) ∧ Mm no w wr [.rd g l.length (nmF l)]) (fun i _ _ => m - (intOf i).toNat)
  case atStart => exact ⟨0, by omega, rfl, fun j _ h => by omega, M⟩
  case round =>
    obtain ⟨k, hk, rfl, hl, M9⟩ := hrel
    clear M; (try clear C)
    have M := M9
    clear M9
    have hml : (l.take m).length = m := by rw [List.length_take]; omega
    have HL := Hid2.mk hl
    clear hl
    by_cases hlt : k < m
    · have hlt' : (k : Int) < (m : Int) := by omega
      have hkl : k < (l.take m).length := by omega
      have hfound := fun h => @placeOf_some _ (fun x => s.toList == x.toList) (l.take m) k hkl (fun j hj => HL.out j (Nat.lt_trans hj hkl) hj) h
      have hnext : (s.toList == (l.take m)[k].toList) = false → ∀ j (h : j < (l.take m).length), j < k + 1 → (s.toList == (l.take m)[j].toList) = false := fun h j hj h1 => by
        rcases Nat.lt_or_eq_of_le (Nat.lt_succ_iff.1 h1) with h2 | rfl
        · exact HL.out j hj h2
        · exact h
      have hx : nmF l k = .string (l.take m)[k] := by rw [nmF_at (by omega), List.getElem_take]
      obtain ⟨x, hxx⟩ : ∃ x, x = (l.take m)[k] := ⟨_, rfl⟩
      rw [← hxx] at hfound hnext hx
      have hc := (M.rd 0 rfl).at_ k (by omega)
      rw [hx] at hc
      have HX := Hid2.mk hxx
      clear hxx hx
      cases hv : (s.toList == x.toList) with
      | false =>
        have HST := Hid2.mk (hnext hv)
        clear hfound hnext
        go_wp2
        go_roundw
        case rel => exact ⟨k + 1, by omega, by go_num, HST.out, M⟩
        case measure => simp [intOf]; omega
      | true =>
        have HST := Hid2.mk (hfound hv)
        clear hfound hnext
        go_wp2
        go_ret
        exact ⟨by rw [HST.out]; rfl, M.below⟩
    · obtain rfl : k = m := by omega
      have hge : ¬ ((k : Int) < (k : Int)) := by omega
      go_wp2
      go_ret
      exact ⟨by rw [placeOf_none fun j hj => HL.out j hj (by omega)]; rfl, M.below⟩

set_option maxRecDepth 100000 in
set_option maxHeartbeats 400000 in
theorem contains_any (l : List ByteArray) (m : Nat) (hm : m ≤ l.length) (hlen : l.length ≤ 10000000) (s : ByteArray) (w : World) (g cap : Nat) (hr : rds w g l.length (nmF l)) :
    Calls Tryz.prog 40 #[.slice (some ⟨g, 0, none⟩) m cap, .string s] w fun e w' => e = .returned (.bool ((l.take m).any fun x => s.toList == x.toList)) ∧ Below w.heap.size w w' := by
  have M := Mm.start no w
  have C := M.rules
  have H := index_any l m hm hlen s w g cap hr
  rw [← placeOf_sign]
  generalize placeOf (fun x : ByteArray => s.toList == x.toList) (l.take m) = r at H ⊢
  clear hr
  go_enter Tryz.func40, Tryz.ntmps40
  go_wp2_with (first | (go_at_call 57; ((with_reducible refine (H).mono ?_); rintro e w1 ⟨rfl, hb⟩; have hsz := M.size; (try (have G9 := G.later hb; clear G; have G := G9; clear G9)); have M9 := M.later hb; clear M; (try clear C); have M := M9; clear M9; have C := M.ruleAll; simp only [Go.Proofs.YtocejggobgfccaaGreatDoor.ruleAll] at C)))
  go_ret
  exact ⟨rfl, M.below⟩

/-- A book: its names and its loops. -/
def bkA (g1 c1 g2 c2 n m : Nat) : Array Value := #[.slice (some ⟨g1, 0, none⟩) n c1, .slice (some ⟨g2, 0, none⟩) m c2]
theorem bok_size (g1 c1 g2 c2 n m : Nat) : (bkA g1 c1 g2 c2 n m).size = 2 := rfl
theorem flat_bok (g1 c1 g2 c2 n m : Nat) : flat (bkA g1 c1 g2 c2 n m) := fun u hu => by
  simp only [bkA, List.mem_cons, List.not_mem_nil, or_false] at hu
  rcases hu with rfl | rfl <;> simp
theorem und_bok : Tryz.prog.underlying 31 = some (.struct (Tryz.prog.fieldsOf 31)) := by kernel_rfl
theorem inf_bok : (Tryz.prog.info? 31).map (·.size) = some 2 := by kernel_rfl

set_option maxRecDepth 100000 in
set_option maxHeartbeats 1000000 in
theorem l11Place_any (l : List ByteArray) (hlen : l.length ≤ 10000000) (s : ByteArray) (w : World) (g1 c1 g2 c2 m : Nat) (hr : rds w g1 l.length (nmF l)) :
    Calls Tryz.prog 28 #[.agg (bkA g1 c1 g2 c2 l.length m), .string s] w fun e w' => e = .returned (.int .i64 (placeOf (fun x => x.toList == s.toList) l)) ∧ Below w.heap.size w w' := by
  have M := (Mm.start no w).add (x := .rd g1 l.length (nmF l)) hr fun _ h => by cases h
  have k0 : (bkA g1 c1 g2 c2 l.length m)[0]? = some (.slice (some ⟨g1, 0, none⟩) l.length c1) := rfl
  clear hr
  have C := M.ruleAll; simp only [Go.Proofs.YtocejggobgfccaaGreatDoor.ruleAll] at C
  go_enter Tryz.func28, Tryz.ntmps28
  go_wp2_with (first | ((with_reducible apply wpM_box' M 31 (bkA g1 c1 g2 c2 l.length m)); rfl; exact ⟨rfl, rfl⟩; clear M; (try clear C); intro bb w9 h_bb M; have C := M.ruleAll; simp only [Go.Proofs.YtocejggobgfccaaGreatDoor.ruleAll] at C))
  go_loopw [5] (fun i wr => ∃ k : Nat, k ≤ l.length ∧ i = .int .i64 (k : Int) ∧ (∀ j (h : j < l.length), j < k → (l[j].toList == s.toList) = false) ∧ Mm no w wr [.box bb (bkA g1 c1 g2 c2 l.length m) 31, .rd g1 l.length (nmF l)]) (fun i _ => l.length - (intOf i).toNat)
  case atStart => exact ⟨0, by omega, rfl, fun j _ h => by omega, M⟩
  case round =>
    obtain ⟨k, hk, rfl, hl, M9⟩ := hrel
    clear M; (try clear C)
    have M := M9
    clear M9
    have C := M.ruleAll; simp only [Go.Proofs.YtocejggobgfccaaGreatDoor.ruleAll] at C
    have HL := Hid2.mk hl
    clear hl
    by_cases hlt : k < l.length
    · have hlt' : (k : Int) < (l.length : Int) := by omega
      have hfound := fun h => @placeOf_some _ (fun x => x.toList == s.toList) l k hlt (fun j hj => HL.out j (Nat.lt_trans hj hlt) hj) h
      have hnext : (l[k].toList == s.toList) = false → ∀ j (h : j < l.length), j < k + 1 → (l[j].toList == s.toList) = false := fun h j hj h1 => by
        rcases Nat.lt_or_eq_of_le (Nat.lt_succ_iff.1 h1) with h2 | rfl
        · exact HL.out j hj h2
        · exact h
      have hx := nmF_at hlt
      obtain ⟨x, hxx⟩ : ∃ x, x = l[k] := ⟨_, rfl⟩
      rw [← hxx] at hfound hnext hx
      have HX := Hid2.mk hxx
      clear hxx
      cases hv : (x.toList == s.toList) with
      | false =>
        have HST := Hid2.mk (hnext hv)
        clear hfound hnext
        go_wp2
        go_roundw
        case rel => exact ⟨k + 1, by omega, by go_num, HST.out, M⟩
        case measure => simp [intOf]; omega
      | true =>
        have HST := Hid2.mk (hfound hv)
        clear hfound hnext
        go_wp2
        go_ret
        exact ⟨by rw [HST.out]; rfl, M.below⟩
    · obtain rfl : k = l.length := by omega
      have hge : ¬ ((l.length : Int) < (l.length : Int)) := by omega
      go_wp2
      go_ret
      exact ⟨by rw [placeOf_none fun j hj => HL.out j hj hj]; rfl, M.below⟩
end Go.Proofs.YtocejggobgfccaaGreatDoor

/- The loop of a book that is alike one, for the reference: a contract. -/
namespace Go.Proofs.YtocejggobgfccaaGreatDoor
set_option linter.unusedSimpArgs false
set_option linter.unusedVariables false
open Go Go.RowKit

/-- A square that is valid. -/
def okS (q : Sqr) : Prop := Byt2 q.t ∧ isSq q.n q.t = true
/-- Whether two squares are alike; and the first isomorphism. -/
noncomputable def alkB (q r : Sqr) : Bool := (isoRes (isoAll q.n.toNat r.n.toNat q.t r.t)).2 == 0
noncomputable def alkP (q r : Sqr) : Nat → Nat := (isoRes (isoAll q.n.toNat r.n.toNat q.t r.t)).1
theorem l11Alike_sq (q r : Sqr) (w : World) (hq : okS q) (hr : okS r) : Calls Tryz.prog 48 #[.agg (sqs q.n q.t), .agg (sqs r.n r.t)] w fun e w' => e = .returned (.tuple #[.agg (bys (alkP q r)), .bool (alkB q r)]) ∧ Below w.heap.size w w' := by
  have s1 := isSq_true.1 hq.2
  have s2 := isSq_true.1 hr.2
  have e1 : ((q.n.toNat : Nat) : Int) = q.n := Int.toNat_of_nonneg (by have := s1.lo; omega)
  have e2 : ((r.n.toNat : Nat) : Int) = r.n := Int.toNat_of_nonneg (by have := s2.lo; omega)
  have h := l11Alike_any q.n.toNat r.n.toNat q.t r.t w hq.1 hr.1 (by rw [e1]; exact hq.2) (by rw [e2]; exact hr.2)
  rw [e1, e2] at h
  exact h
theorem alike_sq (q r : Sqr) (w : World) (hq : okS q) (hr : okS r) : Calls Tryz.prog 42 #[.agg (sqs q.n q.t), .agg (sqs r.n r.t)] w fun e w' => e = .returned (.bool (alkB q r)) ∧ Below w.heap.size w w' := by
  have s1 := isSq_true.1 hq.2
  have s2 := isSq_true.1 hr.2
  have e1 : ((q.n.toNat : Nat) : Int) = q.n := Int.toNat_of_nonneg (by have := s1.lo; omega)
  have e2 : ((r.n.toNat : Nat) : Int) = r.n := Int.toNat_of_nonneg (by have := s2.lo; omega)
  have h := alike_any q.n.toNat r.n.toNat q.t r.t w hq.1 hr.1 (by rw [e1]; exact hq.2) (by rw [e2]; exact hr.2)
  rw [e1, e2] at h
  exact h

theorem results_part3 {P : Program} {fn : Func} {p q : Tmp} {ty : TypeId} (h : fn.results = #[.tmp q, .cell p ty]) (tmps : Array Value) (w : World) (b off : Nat) (part : Array Value) (d : TypeDesc)
    (hp : tmps.getD p undef = .pointer (some ⟨b, off, none⟩)) (hu : P.underlying ty = some d) (hd : (match d with | .struct _ | .array _ _ => true | _ => false) = true) (hi : (P.info? ty).map (·.size) = some part.size)
    (hc : ∀ j v, part[j]? = some v → w.cell? ⟨b, off + j, none⟩ = some v) (v : Value) (hv : tmps.getD q undef = v) :
    (results fn tmps).run P w = .ok (.tuple #[v, .agg part]) w := by
  have hp' : tmps[p]?.getD undef = .pointer (some ⟨b, off, none⟩) := by simpa using hp
  have hv' : tmps[q]?.getD undef = v := by simpa using hv
  simp [results, h, hp', hv', asAddr, run_load_part w b off ty part d hu hd hi hc]

/-- The first square of a list that is alike one, and the isomorphism. -/
noncomputable def keptP (q : Sqr) (l : List Sqr) : Nat → Nat := match l.find? (alkB q) with | some r => alkP q r | none => fun _ => 0
theorem keptP_some {q : Sqr} {l : List Sqr} {k : Nat} (hk : k < l.length) (hb : ∀ j (h : j < k), alkB q (l[j]'(Nat.lt_trans h hk)) = false) (h : alkB q l[k] = true) : keptP q l = alkP q l[k] := by
  have : l.find? (alkB q) = some l[k] := List.find?_eq_some_iff_getElem.2 ⟨h, k, hk, rfl, fun j hj => by simp [hb j hj]⟩
  unfold keptP; rw [this]
theorem keptP_none {q : Sqr} {l : List Sqr} (hb : ∀ j (h : j < l.length), alkB q l[j] = false) : keptP q l = fun _ => 0 := by
  have : l.find? (alkB q) = none := List.find?_eq_none.2 fun x hx => by
    obtain ⟨j, hj, rfl⟩ := List.getElem_of_mem hx
    simp [hb j hj]
  unfold keptP; rw [this]
/-- A new variable with a permutation. -/
def StW2 (w0 : World) (f : Nat → Nat) : List Value → List Ent → Prop
  | [], Lg => Lg = []
  | [v], Lg => ∃ b, v = .pointer (some ⟨b, 0, none⟩) ∧ w0.heap.size ≤ b ∧ Lg = [.box b (bys fun _ => 0) 59]
  | v :: u :: _, Lg => (∃ b, v = .pointer (some ⟨b, 0, none⟩) ∧ w0.heap.size ≤ b ∧ Lg = [.box b (bys f) 59]) ∧ u = undef

set_option maxRecDepth 100000 in
set_option maxHeartbeats 2000000 in
theorem l11Kept_any (q : Sqr) (l : List Sqr) (hlen : l.length ≤ 10000000) (hq : okS q) (hl : ∀ r ∈ l, okS r) (w : World) (g1 c1 g2 c2 n : Nat) (hr : rds w g2 (l.length * 101) (fun j => (slC l).getD j undef)) :
    Calls Tryz.prog 30 #[.agg (bkA g1 c1 g2 c2 n l.length), .agg (sqs q.n q.t)] w fun e w' => e = .returned (.tuple #[.int .i64 (placeOf (alkB q) l), .agg (bys (keptP q l))]) ∧ Below w.heap.size w w' := by
  have M := (Mm.start no w).add (x := .rd g2 (l.length * 101) (fun j => (slC l).getD j undef)) hr fun _ h => by cases h
  have k0 : (bkA g1 c1 g2 c2 n l.length)[1]? = some (.slice (some ⟨g2, 0, none⟩) l.length c2) := rfl
  have HQ := Hid2.mk hq
  have HLL := Hid2.mk hl
  have hbd := build_plc
  clear hr hq hl
  have C := M.ruleAll; simp only [Go.Proofs.YtocejggobgfccaaGreatDoor.ruleAll] at C
  go_enter Tryz.func30, Tryz.ntmps30
  go_wp2_with (first | ((with_reducible apply wpM_box' M 31 (bkA g1 c1 g2 c2 n l.length)); rfl; exact ⟨rfl, rfl⟩; clear M; (try clear C); intro bb w9 h_bb M; have C := M.ruleAll; simp only [Go.Proofs.YtocejggobgfccaaGreatDoor.ruleAll] at C) | ((with_reducible apply wpM_box' M 50 (sqs q.n q.t)); rfl; exact ⟨rfl, rfl⟩; clear M; (try clear C); intro bq w9 h_bq M; have C := M.ruleAll; simp only [Go.Proofs.YtocejggobgfccaaGreatDoor.ruleAll] at C) | ((with_reducible apply wpM_alloc' M 59 (bys fun _ => 0)); rfl; exact ⟨rfl, _, zero_plc _, rfl⟩; clear M; (try clear C); intro b5 w9 h_b5 M; have C := M.ruleAll; simp only [Go.Proofs.YtocejggobgfccaaGreatDoor.ruleAll] at C))
  go_loopw [6, 7, 8] (fun i _ _ wr => ∃ k : Nat, k ≤ l.length ∧ i = .int .i64 (k : Int) ∧ (∀ j (h : j < l.length), j < k → alkB q l[j] = false) ∧ Mm no w wr [.box b5 (bys fun _ => 0) 59, .box bq (sqs q.n q.t) 50, .box bb (bkA g1 c1 g2 c2 n l.length) 31, .rd g2 (l.length * 101) (fun j => (slC l).getD j undef)]) (fun i _ _ _ => l.length - (intOf i).toNat)
  case atStart => exact ⟨0, by omega, rfl, fun j _ h => by omega, M⟩
  case round =>
    obtain ⟨k, hk, rfl, hl, M9⟩ := hrel
    clear M; (try clear C)
    have M := M9
    clear M9
    have C := M.ruleAll; simp only [Go.Proofs.YtocejggobgfccaaGreatDoor.ruleAll] at C
    have HL := Hid2.mk hl
    clear hl
    by_cases hlt : k < l.length
    · have hlt' : (k : Int) < (l.length : Int) := by omega
      have hfound := fun h => @placeOf_some _ (alkB q) l k hlt (fun j hj => HL.out j (Nat.lt_trans hj hlt) hj) h
      have hfound2 := fun h => @keptP_some q l k hlt (fun j hj => HL.out j (Nat.lt_trans hj hlt) hj) h
      have hnext : alkB q l[k] = false → ∀ j (h : j < l.length), j < k + 1 → alkB q l[j] = false := fun h j hj h1 => by
        rcases Nat.lt_or_eq_of_le (Nat.lt_succ_iff.1 h1) with h2 | rfl
        · exact HL.out j hj h2
        · exact h
      have hF := fun w1 => l11Alike_sq q l[k] w1 HQ.out (HLL.out _ (List.getElem_mem hlt))
      obtain ⟨r, hr⟩ : ∃ r, r = l[k] := ⟨_, rfl⟩
      have hcells : ∀ {w3}, rds w3 g2 (l.length * 101) (fun j => (slC l).getD j undef) → ∀ j v, (sqs r.n r.t)[j]? = some v → w3.cell? ⟨g2, k * 101 + j, none⟩ = some v := fun h => by rw [hr]; exact sq_cells h hlt
      rw [← hr] at hfound hfound2 hnext hF
      have HCE := Hid2.mk @hcells
      clear hr hcells
      generalize alkP q r = f at hF hfound2
      generalize hv : alkB q r = b at hF hfound hfound2 hnext
      clear hv
      have HF1 := Hid2.mk hfound
      have HF2 := Hid2.mk hfound2
      have HN := Hid2.mk hnext
      clear hfound hfound2 hnext
      go_wp2
      apply wp_region_mmf2 M [0, 1, 2, 3, 4, 5, 6, 7, 8, 9] 10 11 12 _ _ (StW2 w f) (by kernel_rfl) (by kernel_rfl) rfl rfl rfl rfl rfl
      case ht => (repeat (first | exact wpTextG_nil | (apply wpTextG_cons; (intro g9 w2 hG; obtain ⟨Lg9, hSt9, G⟩ := hG; have M := G.suffix; have C := M.ruleAll; simp only [Go.Proofs.YtocejggobgfccaaGreatDoor.ruleAll] at C; go_wp2_with (first | ((with_reducible apply wpM_lda' M 1 50 0 (sqs q.n q.t)); rfl; rfl; rfl; exact ⟨rfl, inf_sqs.trans (congrArg some (sqs_size ..).symm), _, und_sqs, rfl⟩; exact whole_of rfl) | (refine wpList_load_part rfl 50 _ rfl (g2) (k * 101) rfl (sqs r.n r.t) _ und_sqs rfl inf_sqs (HCE.out (M.rd 3 rfl)) ?_) | (go_at_call 48; ((with_reducible refine (hF _).mono ?_); rintro e w1 ⟨rfl, hb⟩; have hsz := M.size; (try (have G9 := G.later hb; clear G; have G := G9; clear G9)); have M9 := M.later hb; clear M; (try clear C); have M := M9; clear M9; have C := M.ruleAll; simp only [Go.Proofs.YtocejggobgfccaaGreatDoor.ruleAll] at C))); exact ⟨rfl, rfl, Lg9, hSt9, G⟩); rfl)))
      case hA =>
        intro Lg w2 h M
        obtain rfl : Lg = [] := h
        refine yield_walk (ops := #[]) rfl rfl (by simp [Act.put]) ?_
        go_wp2_with (first | ((with_reducible apply wpM_alloc' M 59 (bys fun _ => 0)); rfl; exact ⟨rfl, _, zero_plc _, rfl⟩; clear M; (try clear C); intro b6 w9 h_b6 M; have C := M.ruleAll; simp only [Go.Proofs.YtocejggobgfccaaGreatDoor.ruleAll] at C))
        exact ⟨_, ⟨b6, rfl, by assumption, rfl⟩, M⟩
      case hA2 =>
        intro v Lg w2 h M
        obtain ⟨b6, rfl, hb6, rfl⟩ := h
        refine yield_store (ops := #[]) (by exact rfl) (by exact rfl) ?_
        simp only [List.cons_append, List.nil_append] at M
        have C := M.ruleAll; simp only [Go.Proofs.YtocejggobgfccaaGreatDoor.ruleAll] at C
        go_wp2_with (first | ((with_reducible apply wpM_sta' M 0 59 (bys f)); rfl; rfl; rfl; rfl; (first | exact .inl (by assumption) | exact .inr rfl | exact .inr (by assumption)); exact ⟨rfl, inf_plc.trans (congrArg some (bys_size ..).symm), flat_bys _⟩; (simp only [entCells, List.getElem?_cons_zero, List.getElem?_cons_succ, bys_size, bys_size]); clear M; (try clear C); intro w9 M; simp only [List.set_cons_zero, List.set_cons_succ, entBlk, entT, List.getElem?_cons_zero, List.getElem?_cons_succ] at M; have C := M.ruleAll; simp only [Go.Proofs.YtocejggobgfccaaGreatDoor.ruleAll] at C))
        exact ⟨_, ⟨⟨b6, rfl, hb6, rfl⟩, rfl⟩, M⟩
      clear M; (try clear C)
      intro v u9 Lg w2 h M
      obtain ⟨⟨b6, rfl, hb6, rfl⟩, rfl⟩ := h
      simp only [List.drop_succ_cons, List.drop_zero, List.cons_append, List.nil_append] at M ⊢
      have C := M.ruleAll; simp only [Go.Proofs.YtocejggobgfccaaGreatDoor.ruleAll] at C
      cases b with
      | false =>
        go_wp2
        go_roundw
        case rel => exact ⟨k + 1, by omega, by go_num, HN.out rfl, M.drop 0⟩
        case measure => simp [intOf]; omega
      | true =>
        go_wp2
        apply wp_region_mm M 3 (by kernel_rfl) (by kernel_rfl); (simp only [List.take_succ_cons, List.take_zero]; repeat (first | exact wpText_nil | (apply wpText_cons; (intro w2 M; have C := M.ruleAll; simp only [Go.Proofs.YtocejggobgfccaaGreatDoor.ruleAll] at C; go_wp2_with (first | ((with_reducible apply wpM_lda' M 0 59 0 (bys f)); rfl; rfl; rfl; exact ⟨rfl, inf_plc.trans (congrArg some (bys_size ..).symm), _, und_plc, rfl⟩; exact whole_of rfl)); exact ⟨rfl, rfl, M⟩); rfl))); (clear M; (try clear C); intro w2 M; simp only [List.drop_succ_cons, List.drop_zero]; have C := M.ruleAll; simp only [Go.Proofs.YtocejggobgfccaaGreatDoor.ruleAll] at C)
        go_wp2_with (first | ((with_reducible apply wpM_sta' M 1 59 (bys f)); rfl; rfl; rfl; rfl; (first | exact .inl (by assumption) | exact .inr rfl | exact .inr (by assumption)); exact ⟨rfl, inf_plc.trans (congrArg some (bys_size ..).symm), flat_bys _⟩; (simp only [entCells, List.getElem?_cons_zero, List.getElem?_cons_succ, bys_size, bys_size]); clear M; (try clear C); intro w9 M; simp only [List.set_cons_zero, List.set_cons_succ, entBlk, entT, List.getElem?_cons_zero, List.getElem?_cons_succ] at M; have C := M.ruleAll; simp only [Go.Proofs.YtocejggobgfccaaGreatDoor.ruleAll] at C))
        refine bodyPost_ret (v := .tuple #[.int .i64 (k : Int), .agg (bys f)]) (by exact results_part3 rfl _ _ _ _ (bys f) _ rfl und_plc rfl (inf_plc.trans (congrArg some (bys_size _).symm)) (cells_of_blk0 (M.box 1 rfl)) _ rfl) rfl ?_
        exact ⟨by rw [HF1.out (by first | rfl | trivial), HF2.out (by first | rfl | trivial)], M.below⟩
    · obtain rfl : k = l.length := by omega
      have hge : ¬ ((l.length : Int) < (l.length : Int)) := by omega
      have h1 := placeOf_none fun j hj => HL.out j hj hj
      have h2 := keptP_none fun j hj => HL.out j hj hj
      have HF1 := Hid2.mk h1
      have HF2 := Hid2.mk h2
      clear h1 h2
      go_wp2_with (first | (refine wpList_build 59 _ rfl rfl [] rfl _ (build_plc _) ?_) | ((with_reducible apply wpM_sta' M 0 59 (bys fun _ => 0)); rfl; rfl; rfl; rfl; (first | exact .inl (by assumption) | exact .inr rfl | exact .inr (by assumption)); exact ⟨rfl, inf_plc.trans (congrArg some (bys_size ..).symm), flat_bys _⟩; (simp only [entCells, List.getElem?_cons_zero, List.getElem?_cons_succ, bys_size, bys_size]); clear M; (try clear C); intro w9 M; simp only [List.set_cons_zero, List.set_cons_succ, entBlk, entT, List.getElem?_cons_zero, List.getElem?_cons_succ] at M; have C := M.ruleAll; simp only [Go.Proofs.YtocejggobgfccaaGreatDoor.ruleAll] at C))
      refine bodyPost_ret (v := .tuple #[.int .i64 (-1), .agg (bys fun _ => 0)]) (by exact results_part3 rfl _ _ _ _ (bys fun _ => 0) _ rfl und_plc rfl (inf_plc.trans (congrArg some (bys_size _).symm)) (cells_of_blk0 (M.box 0 rfl)) _ rfl) rfl ?_
      exact ⟨by rw [HF1.out, HF2.out], M.below⟩
end Go.Proofs.YtocejggobgfccaaGreatDoor

/- What a book is, plain. -/
namespace Go.Proofs.YtocejggobgfccaaGreatDoor
set_option linter.unusedSimpArgs false
set_option linter.unusedVariables false
open Go Go.RowKit

def sq00 : Sqr := ⟨0, fun _ _ => 0⟩
/-- Whether one name and one loop of a book are valid. -/
noncomputable def itemB (ns : List ByteArray) (ls : List Sqr) (i : Nat) : Bool :=
  nameB (ns.getD i .empty) && (placeOf (fun x => x.toList == (ns.getD i .empty).toList) ns == (i : Int)) && lpB (ls.getD i sq00) && !decide (7 < (ls.getD i sq00).n)
noncomputable def firstB (ls : List Sqr) (i : Nat) : Bool := placeOf (alkB (ls.getD i sq00)) ls == (i : Int)
/-- Whether a book is valid. -/
noncomputable def isBk (ns : List ByteArray) (ls : List Sqr) : Bool :=
  decide (ns.length ≤ 20) && decide (ls.length = ns.length) && (List.range ns.length).all (itemB ns ls) && (List.range ls.length).all (firstB ls)
theorem isBk_item {ns : List ByteArray} {ls : List Sqr} {k : Nat} (hk : k < ns.length) (h : itemB ns ls k = false) : isBk ns ls = false := by
  unfold isBk
  rw [show (List.range ns.length).all (itemB ns ls) = false from List.all_eq_false.2 ⟨k, List.mem_range.2 hk, by simp [h]⟩]
  simp
theorem isBk_first {ns : List ByteArray} {ls : List Sqr} {k : Nat} (hk : k < ls.length) (h : firstB ls k = false) : isBk ns ls = false := by
  unfold isBk
  rw [show (List.range ls.length).all (firstB ls) = false from List.all_eq_false.2 ⟨k, List.mem_range.2 hk, by simp [h]⟩]
  simp
theorem isBk_all {ns : List ByteArray} {ls : List Sqr} (h1 : ns.length ≤ 20) (h2 : ls.length = ns.length) (h3 : ∀ i, i < ns.length → itemB ns ls i = true) (h4 : ∀ i, i < ls.length → firstB ls i = true) : isBk ns ls = true := by
  unfold isBk
  rw [show (List.range ns.length).all (itemB ns ls) = true from List.all_eq_true.2 fun i hi => h3 i (List.mem_range.1 hi), show (List.range ls.length).all (firstB ls) = true from List.all_eq_true.2 fun i hi => h4 i (List.mem_range.1 hi)]
  simp [h1, h2]
theorem isBk_long {ns : List ByteArray} {ls : List Sqr} (h : ¬ (ns.length ≤ 20 ∧ ls.length = ns.length)) : isBk ns ls = false := by
  unfold isBk
  rcases Classical.em (ns.length ≤ 20) with h1 | h1
  · rw [show decide (ls.length = ns.length) = false from decide_eq_false fun e => h ⟨h1, e⟩]; simp
  · rw [show decide (ns.length ≤ 20) = false from decide_eq_false h1]; simp
theorem sq_head {l : List Sqr} {k : Nat} (hk : k < l.length) : (slC l).getD (k * 101) undef = .int .i64 l[k].n := by
  have h := rowC_get (f := sqC) sqC_size l hk (j := 0) (by omega)
  rw [Nat.add_zero] at h
  rw [List.getD_eq_getElem?_getD]
  show ((rowC sqC l)[k * 101]?).getD undef = _
  rw [h]
  show ((sqs l[k].n l[k].t)[0]?).getD undef = _
  rw [sqs_order]; rfl
end Go.Proofs.YtocejggobgfccaaGreatDoor

/- Books, for the reference: a contract. -/
namespace Go.Proofs.YtocejggobgfccaaGreatDoor
set_option linter.unusedSimpArgs false
set_option linter.unusedVariables false
open Go Go.RowKit

/-- A new variable and a place. -/
def StW3 (w0 : World) (p : Int) : List Value → List Ent → Prop
  | [], Lg => Lg = []
  | [v], Lg => ∃ b, v = .pointer (some ⟨b, 0, none⟩) ∧ w0.heap.size ≤ b ∧ Lg = [.box b (bys fun _ => 0) 59]
  | v :: u :: _, Lg => (∃ b, v = .pointer (some ⟨b, 0, none⟩) ∧ w0.heap.size ≤ b ∧ Lg = [.box b (bys fun _ => 0) 59]) ∧ u = .int .i64 p

set_option maxRecDepth 100000 in
set_option maxHeartbeats 4000000 in
theorem l11Is_any (ns : List ByteArray) (ls : List Sqr) (hn : ns.length ≤ 1048576) (hm : ls.length ≤ 1048576) (hsz : ∀ x ∈ ns, x.size ≤ 1048576) (hby : ∀ q ∈ ls, Byt2 q.t) (w : World) (g1 c1 g2 c2 : Nat)
    (hr1 : rds w g1 ns.length (nmF ns)) (hr2 : rds w g2 (ls.length * 101) (fun j => (slC ls).getD j undef)) (hg : g1 ≠ g2) :
    Calls Tryz.prog 15 #[.agg (bkA g1 c1 g2 c2 ns.length ls.length)] w fun e w' => e = .returned (.bool (isBk ns ls)) ∧ Below w.heap.size w w' := by
  have M := ((Mm.start no w).add (x := .rd g2 (ls.length * 101) (fun j => (slC ls).getD j undef)) hr2 fun _ h => by cases h).add (x := .rd g1 ns.length (nmF ns)) hr1 fun y hy => by
    simp only [List.mem_singleton] at hy; subst hy
    exact fun b hb hb' => hg (by cases hb; cases hb'; rfl)
  have k0 : (bkA g1 c1 g2 c2 ns.length ls.length)[0]? = some (.slice (some ⟨g1, 0, none⟩) ns.length c1) := rfl
  have k1 : (bkA g1 c1 g2 c2 ns.length ls.length)[1]? = some (.slice (some ⟨g2, 0, none⟩) ls.length c2) := rfl
  have HBY := Hid2.mk hby
  have HSZ := Hid2.mk hsz
  clear hr1 hr2 hg hby hsz
  have C := M.ruleAll; simp only [Go.Proofs.YtocejggobgfccaaGreatDoor.ruleAll] at C
  by_cases hlong : ns.length ≤ 20 ∧ ls.length = ns.length
  case neg =>
    have HST := Hid2.mk (isBk_long hlong)
    by_cases h20 : ns.length ≤ 20
    · have hne : ls.length ≠ ns.length := fun e => hlong ⟨h20, e⟩
      have d1 : ¬ (20 < (ns.length : Int)) := by omega
      have d2 : decide (20 < (ns.length : Int)) = false := decide_eq_false d1
      have d3 : ((ls.length : Int) == (ns.length : Int)) = false := beq_eq_false_iff_ne.2 (by omega)
      clear hlong
      go_enter Tryz.func15, Tryz.ntmps15
      go_wp2_with (first | ((with_reducible apply wpM_box' M 31 (bkA g1 c1 g2 c2 ns.length ls.length)); rfl; exact ⟨rfl, rfl⟩; clear M; (try clear C); intro bb w9 h_bb M; have C := M.ruleAll; simp only [Go.Proofs.YtocejggobgfccaaGreatDoor.ruleAll] at C))
      go_ret
      exact ⟨by rw [HST.out]; rfl, M.below⟩
    · have d1 : 20 < (ns.length : Int) := by omega
      have d2 : decide (20 < (ns.length : Int)) = true := decide_eq_true d1
      clear hlong
      go_enter Tryz.func15, Tryz.ntmps15
      go_wp2_with (first | ((with_reducible apply wpM_box' M 31 (bkA g1 c1 g2 c2 ns.length ls.length)); rfl; exact ⟨rfl, rfl⟩; clear M; (try clear C); intro bb w9 h_bb M; have C := M.ruleAll; simp only [Go.Proofs.YtocejggobgfccaaGreatDoor.ruleAll] at C))
      go_ret
      exact ⟨by rw [HST.out]; rfl, M.below⟩
  case pos =>
    obtain ⟨h20, hLN⟩ := hlong
    have d1 : ¬ (20 < (ns.length : Int)) := by omega
    have d2 : decide (20 < (ns.length : Int)) = false := decide_eq_false d1
    have d3 : ((ls.length : Int) == (ns.length : Int)) = true := beq_iff_eq.2 (by omega)
    have HLN := Hid2.mk hLN
    have hbk := fun h3 h4 => isBk_all (ns := ns) (ls := ls) h20 hLN h3 h4
    have HBK := Hid2.mk hbk
    clear hLN hbk
    go_enter Tryz.func15, Tryz.ntmps15
    go_wp2_with (first | ((with_reducible apply wpM_box' M 31 (bkA g1 c1 g2 c2 ns.length ls.length)); rfl; exact ⟨rfl, rfl⟩; clear M; (try clear C); intro bb w9 h_bb M; have C := M.ruleAll; simp only [Go.Proofs.YtocejggobgfccaaGreatDoor.ruleAll] at C))
    clear d1 d2 d3
    go_loopw [3] (fun i wr => ∃ k : Nat, k ≤ ns.length ∧ i = .int .i64 (k : Int) ∧ (∀ j, j < k → itemB ns ls j = true) ∧ Mm no w wr [.box bb (bkA g1 c1 g2 c2 ns.length ls.length) 31, .rd g1 ns.length (nmF ns), .rd g2 (ls.length * 101) (fun j => (slC ls).getD j undef)]) (fun i _ => ns.length - (intOf i).toNat)
    case atStart => exact ⟨0, by omega, rfl, fun j h => by omega, M⟩
    case round =>
      obtain ⟨k, hk, rfl, hl, M9⟩ := hrel
      clear M; (try clear C)
      have M := M9
      clear M9
      have C := M.ruleAll; simp only [Go.Proofs.YtocejggobgfccaaGreatDoor.ruleAll] at C
      have HL := Hid2.mk hl
      clear hl
      by_cases hlt : k < ns.length
      · have hlt' : (k : Int) < (ns.length : Int) := by omega
        have hkl : k < ls.length := by rw [HLN.out]; exact hlt
        have hkl' : (k : Int) < (ls.length : Int) := by omega
        have hfail := fun h => @isBk_item ns ls k hlt h
        have hnext : itemB ns ls k = true → ∀ j, j < k + 1 → itemB ns ls j = true := fun h j h1 => by
          rcases Nat.lt_or_eq_of_le (Nat.lt_succ_iff.1 h1) with h2 | rfl
          · exact HL.out j h2
          · exact h
        obtain ⟨x, hx⟩ : ∃ x, x = ns.getD k .empty := ⟨_, rfl⟩
        obtain ⟨q, hq⟩ : ∃ q, q = ls.getD k sq00 := ⟨_, rfl⟩
        have hxe : x = ns[k] := by rw [hx, List.getD_eq_getElem?_getD, List.getElem?_eq_getElem hlt]; rfl
        have hqe : q = ls[k] := by rw [hq, List.getD_eq_getElem?_getD, List.getElem?_eq_getElem hkl]; rfl
        have hxn : nmF ns k = .string x := by rw [hx]; rfl
        have hit : itemB ns ls k = (nameB x && (placeOf (fun y => y.toList == x.toList) ns == (k : Int)) && lpB q && !decide (7 < q.n)) := by rw [hx, hq]; rfl
        have hA := fun w1 => l11Name_any x w1 (HSZ.out x (by rw [hxe]; exact List.getElem_mem hlt))
        have hP : ∀ w1, Mm no w w1 [.box bb (bkA g1 c1 g2 c2 ns.length ls.length) 31, .rd g1 ns.length (nmF ns), .rd g2 (ls.length * 101) (fun j => (slC ls).getD j undef)] → _ := fun w1 M => l11Place_any ns (by omega) x w1 g1 c1 g2 c2 ls.length (M.rd 1 rfl)
        have hL := fun w1 => l01Loop_any q.n q.t w1 (HBY.out q (by rw [hqe]; exact List.getElem_mem hkl))
        have hlp : lpB q = isLp q.n q.t := rfl
        rw [← hlp] at hL
        have hcells : ∀ {w3}, rds w3 g2 (ls.length * 101) (fun j => (slC ls).getD j undef) → ∀ j v, (sqs q.n q.t)[j]? = some v → w3.cell? ⟨g2, k * 101 + j, none⟩ = some v := fun h => by rw [hqe]; exact sq_cells h hkl
        have hhd : (slC ls)[k * 101]?.getD undef = .int .i64 q.n := by rw [hqe, ← List.getD_eq_getElem?_getD]; exact sq_head hkl
        have hk101 : k * 101 < ls.length * 101 := by omega
        have HCE := Hid2.mk @hcells
        clear hx hq hxe hqe hlp hcells
        generalize nameB x = a1 at hA hit
        generalize placeOf (fun y : ByteArray => y.toList == x.toList) ns = p at hP hit
        generalize lpB q = a3 at hL hit
        have HIT := Hid2.mk hit
        have HFAIL := Hid2.mk hfail
        have HN := Hid2.mk hnext
        clear hit hfail hnext
        cases a1 with
        | false =>
          go_wp2
          apply wp_region_mm M 31 (by kernel_rfl) (by kernel_rfl); (simp only [List.take_succ_cons, List.take_zero]; repeat (first | exact wpText_nil | (apply wpText_cons; (intro w2 M; have C := M.ruleAll; simp only [Go.Proofs.YtocejggobgfccaaGreatDoor.ruleAll] at C; go_wp2_with (first | (go_at_call 27; ((with_reducible refine (hA _).mono ?_); rintro e w1 ⟨rfl, hb⟩; have hsz := M.size; (try (have G9 := G.later hb; clear G; have G := G9; clear G9)); have M9 := M.later hb; clear M; (try clear C); have M := M9; clear M9; have C := M.ruleAll; simp only [Go.Proofs.YtocejggobgfccaaGreatDoor.ruleAll] at C)) | ((with_reducible apply wpM_lda' M 0 31 0 (bkA g1 c1 g2 c2 ns.length ls.length)); rfl; rfl; rfl; exact ⟨rfl, inf_bok.trans (congrArg some (bok_size ..).symm), _, und_bok, rfl⟩; exact whole_of rfl) | (go_at_call 28; ((with_reducible refine (hP _ M).mono ?_); rintro e w1 ⟨rfl, hb⟩; have hsz := M.size; (try (have G9 := G.later hb; clear G; have G := G9; clear G9)); have M9 := M.later hb; clear M; (try clear C); have M := M9; clear M9; have C := M.ruleAll; simp only [Go.Proofs.YtocejggobgfccaaGreatDoor.ruleAll] at C)) | (refine wpList_load_part_g 50 _ rfl rfl (g2) (k * 101) rfl (sqs q.n q.t) _ und_sqs rfl inf_sqs (HCE.out (M.rd 2 rfl)) ?_) | (go_at_call 29; ((with_reducible refine (hL _).mono ?_); rintro e w1 ⟨rfl, hb⟩; have hsz := M.size; (try (have G9 := G.later hb; clear G; have G := G9; clear G9)); have M9 := M.later hb; clear M; (try clear C); have M := M9; clear M9; have C := M.ruleAll; simp only [Go.Proofs.YtocejggobgfccaaGreatDoor.ruleAll] at C))); exact ⟨rfl, rfl, M⟩); rfl))); (clear M; (try clear C); intro w2 M; simp only [List.drop_succ_cons, List.drop_zero]; have C := M.ruleAll; simp only [Go.Proofs.YtocejggobgfccaaGreatDoor.ruleAll] at C)
          go_wp2
          go_ret
          exact ⟨by rw [HFAIL.out (by rw [HIT.out]; simp [*])]; rfl, M.below⟩
        | true =>
          by_cases hpk : p = (k : Int)
          case neg =>
            have d5 : decide (p = (k : Int)) = false := decide_eq_false hpk
            have d6 : (p == (k : Int)) = false := beq_eq_false_iff_ne.2 hpk
            go_wp2
            apply wp_region_mm M 31 (by kernel_rfl) (by kernel_rfl); (simp only [List.take_succ_cons, List.take_zero]; repeat (first | exact wpText_nil | (apply wpText_cons; (intro w2 M; have C := M.ruleAll; simp only [Go.Proofs.YtocejggobgfccaaGreatDoor.ruleAll] at C; go_wp2_with (first | (go_at_call 27; ((with_reducible refine (hA _).mono ?_); rintro e w1 ⟨rfl, hb⟩; have hsz := M.size; (try (have G9 := G.later hb; clear G; have G := G9; clear G9)); have M9 := M.later hb; clear M; (try clear C); have M := M9; clear M9; have C := M.ruleAll; simp only [Go.Proofs.YtocejggobgfccaaGreatDoor.ruleAll] at C)) | ((with_reducible apply wpM_lda' M 0 31 0 (bkA g1 c1 g2 c2 ns.length ls.length)); rfl; rfl; rfl; exact ⟨rfl, inf_bok.trans (congrArg some (bok_size ..).symm), _, und_bok, rfl⟩; exact whole_of rfl) | (go_at_call 28; ((with_reducible refine (hP _ M).mono ?_); rintro e w1 ⟨rfl, hb⟩; have hsz := M.size; (try (have G9 := G.later hb; clear G; have G := G9; clear G9)); have M9 := M.later hb; clear M; (try clear C); have M := M9; clear M9; have C := M.ruleAll; simp only [Go.Proofs.YtocejggobgfccaaGreatDoor.ruleAll] at C)) | (refine wpList_load_part_g 50 _ rfl rfl (g2) (k * 101) rfl (sqs q.n q.t) _ und_sqs rfl inf_sqs (HCE.out (M.rd 2 rfl)) ?_) | (go_at_call 29; ((with_reducible refine (hL _).mono ?_); rintro e w1 ⟨rfl, hb⟩; have hsz := M.size; (try (have G9 := G.later hb; clear G; have G := G9; clear G9)); have M9 := M.later hb; clear M; (try clear C); have M := M9; clear M9; have C := M.ruleAll; simp only [Go.Proofs.YtocejggobgfccaaGreatDoor.ruleAll] at C))); exact ⟨rfl, rfl, M⟩); rfl))); (clear M; (try clear C); intro w2 M; simp only [List.drop_succ_cons, List.drop_zero]; have C := M.ruleAll; simp only [Go.Proofs.YtocejggobgfccaaGreatDoor.ruleAll] at C)
            go_wp2
            go_ret
            exact ⟨by rw [HFAIL.out (by rw [HIT.out]; simp [*])]; rfl, M.below⟩
          case pos =>
            subst hpk
            cases a3 with
            | false =>
              go_wp2
              apply wp_region_mm M 31 (by kernel_rfl) (by kernel_rfl); (simp only [List.take_succ_cons, List.take_zero]; repeat (first | exact wpText_nil | (apply wpText_cons; (intro w2 M; have C := M.ruleAll; simp only [Go.Proofs.YtocejggobgfccaaGreatDoor.ruleAll] at C; go_wp2_with (first | (go_at_call 27; ((with_reducible refine (hA _).mono ?_); rintro e w1 ⟨rfl, hb⟩; have hsz := M.size; (try (have G9 := G.later hb; clear G; have G := G9; clear G9)); have M9 := M.later hb; clear M; (try clear C); have M := M9; clear M9; have C := M.ruleAll; simp only [Go.Proofs.YtocejggobgfccaaGreatDoor.ruleAll] at C)) | ((with_reducible apply wpM_lda' M 0 31 0 (bkA g1 c1 g2 c2 ns.length ls.length)); rfl; rfl; rfl; exact ⟨rfl, inf_bok.trans (congrArg some (bok_size ..).symm), _, und_bok, rfl⟩; exact whole_of rfl) | (go_at_call 28; ((with_reducible refine (hP _ M).mono ?_); rintro e w1 ⟨rfl, hb⟩; have hsz := M.size; (try (have G9 := G.later hb; clear G; have G := G9; clear G9)); have M9 := M.later hb; clear M; (try clear C); have M := M9; clear M9; have C := M.ruleAll; simp only [Go.Proofs.YtocejggobgfccaaGreatDoor.ruleAll] at C)) | (refine wpList_load_part_g 50 _ rfl rfl (g2) (k * 101) rfl (sqs q.n q.t) _ und_sqs rfl inf_sqs (HCE.out (M.rd 2 rfl)) ?_) | (go_at_call 29; ((with_reducible refine (hL _).mono ?_); rintro e w1 ⟨rfl, hb⟩; have hsz := M.size; (try (have G9 := G.later hb; clear G; have G := G9; clear G9)); have M9 := M.later hb; clear M; (try clear C); have M := M9; clear M9; have C := M.ruleAll; simp only [Go.Proofs.YtocejggobgfccaaGreatDoor.ruleAll] at C))); exact ⟨rfl, rfl, M⟩); rfl))); (clear M; (try clear C); intro w2 M; simp only [List.drop_succ_cons, List.drop_zero]; have C := M.ruleAll; simp only [Go.Proofs.YtocejggobgfccaaGreatDoor.ruleAll] at C)
              go_wp2
              go_ret
              exact ⟨by rw [HFAIL.out (by rw [HIT.out]; simp [*])]; rfl, M.below⟩
            | true =>
              by_cases h7 : 7 < q.n
              · have d7 : decide (7 < q.n) = true := decide_eq_true h7
                go_wp2
                apply wp_region_mm M 31 (by kernel_rfl) (by kernel_rfl); (simp only [List.take_succ_cons, List.take_zero]; repeat (first | exact wpText_nil | (apply wpText_cons; (intro w2 M; have C := M.ruleAll; simp only [Go.Proofs.YtocejggobgfccaaGreatDoor.ruleAll] at C; go_wp2_with (first | (go_at_call 27; ((with_reducible refine (hA _).mono ?_); rintro e w1 ⟨rfl, hb⟩; have hsz := M.size; (try (have G9 := G.later hb; clear G; have G := G9; clear G9)); have M9 := M.later hb; clear M; (try clear C); have M := M9; clear M9; have C := M.ruleAll; simp only [Go.Proofs.YtocejggobgfccaaGreatDoor.ruleAll] at C)) | ((with_reducible apply wpM_lda' M 0 31 0 (bkA g1 c1 g2 c2 ns.length ls.length)); rfl; rfl; rfl; exact ⟨rfl, inf_bok.trans (congrArg some (bok_size ..).symm), _, und_bok, rfl⟩; exact whole_of rfl) | (go_at_call 28; ((with_reducible refine (hP _ M).mono ?_); rintro e w1 ⟨rfl, hb⟩; have hsz := M.size; (try (have G9 := G.later hb; clear G; have G := G9; clear G9)); have M9 := M.later hb; clear M; (try clear C); have M := M9; clear M9; have C := M.ruleAll; simp only [Go.Proofs.YtocejggobgfccaaGreatDoor.ruleAll] at C)) | (refine wpList_load_part_g 50 _ rfl rfl (g2) (k * 101) rfl (sqs q.n q.t) _ und_sqs rfl inf_sqs (HCE.out (M.rd 2 rfl)) ?_) | (go_at_call 29; ((with_reducible refine (hL _).mono ?_); rintro e w1 ⟨rfl, hb⟩; have hsz := M.size; (try (have G9 := G.later hb; clear G; have G := G9; clear G9)); have M9 := M.later hb; clear M; (try clear C); have M := M9; clear M9; have C := M.ruleAll; simp only [Go.Proofs.YtocejggobgfccaaGreatDoor.ruleAll] at C))); exact ⟨rfl, rfl, M⟩); rfl))); (clear M; (try clear C); intro w2 M; simp only [List.drop_succ_cons, List.drop_zero]; have C := M.ruleAll; simp only [Go.Proofs.YtocejggobgfccaaGreatDoor.ruleAll] at C)
                go_wp2
                go_ret
                exact ⟨by rw [HFAIL.out (by rw [HIT.out]; simp [*])]; rfl, M.below⟩
              · have d7 : decide (7 < q.n) = false := decide_eq_false h7
                go_wp2
                apply wp_region_mm M 31 (by kernel_rfl) (by kernel_rfl); (simp only [List.take_succ_cons, List.take_zero]; repeat (first | exact wpText_nil | (apply wpText_cons; (intro w2 M; have C := M.ruleAll; simp only [Go.Proofs.YtocejggobgfccaaGreatDoor.ruleAll] at C; go_wp2_with (first | (go_at_call 27; ((with_reducible refine (hA _).mono ?_); rintro e w1 ⟨rfl, hb⟩; have hsz := M.size; (try (have G9 := G.later hb; clear G; have G := G9; clear G9)); have M9 := M.later hb; clear M; (try clear C); have M := M9; clear M9; have C := M.ruleAll; simp only [Go.Proofs.YtocejggobgfccaaGreatDoor.ruleAll] at C)) | ((with_reducible apply wpM_lda' M 0 31 0 (bkA g1 c1 g2 c2 ns.length ls.length)); rfl; rfl; rfl; exact ⟨rfl, inf_bok.trans (congrArg some (bok_size ..).symm), _, und_bok, rfl⟩; exact whole_of rfl) | (go_at_call 28; ((with_reducible refine (hP _ M).mono ?_); rintro e w1 ⟨rfl, hb⟩; have hsz := M.size; (try (have G9 := G.later hb; clear G; have G := G9; clear G9)); have M9 := M.later hb; clear M; (try clear C); have M := M9; clear M9; have C := M.ruleAll; simp only [Go.Proofs.YtocejggobgfccaaGreatDoor.ruleAll] at C)) | (refine wpList_load_part_g 50 _ rfl rfl (g2) (k * 101) rfl (sqs q.n q.t) _ und_sqs rfl inf_sqs (HCE.out (M.rd 2 rfl)) ?_) | (go_at_call 29; ((with_reducible refine (hL _).mono ?_); rintro e w1 ⟨rfl, hb⟩; have hsz := M.size; (try (have G9 := G.later hb; clear G; have G := G9; clear G9)); have M9 := M.later hb; clear M; (try clear C); have M := M9; clear M9; have C := M.ruleAll; simp only [Go.Proofs.YtocejggobgfccaaGreatDoor.ruleAll] at C))); exact ⟨rfl, rfl, M⟩); rfl))); (clear M; (try clear C); intro w2 M; simp only [List.drop_succ_cons, List.drop_zero]; have C := M.ruleAll; simp only [Go.Proofs.YtocejggobgfccaaGreatDoor.ruleAll] at C)
                go_wp2
                go_roundw
                case rel => exact ⟨k + 1, by omega, by go_num, HN.out (by rw [HIT.out]; simp [*]), M⟩
                case measure => simp [intOf]; omega
      · obtain rfl : k = ns.length := by omega
        have hge : ¬ ((ns.length : Int) < (ns.length : Int)) := by omega
        have hok : ∀ r ∈ ls, okS r := fun r hr => by
          obtain ⟨j, hj, rfl⟩ := List.getElem_of_mem hr
          have h := HL.out j (by rw [← HLN.out]; exact hj)
          unfold itemB at h
          simp only [Bool.and_eq_true] at h
          have h2 := h.1.2
          have e : ls.getD j sq00 = ls[j] := by rw [List.getD_eq_getElem?_getD, List.getElem?_eq_getElem hj]; rfl
          rw [e] at h2
          exact ⟨HBY.out _ hr, isSq_true.2 (isLp_true.1 h2).sq⟩
        have HOK := Hid2.mk hok
        clear hok
        go_wp2
        go_loopw [4] (fun i wr => ∃ k : Nat, k ≤ ls.length ∧ i = .int .i64 (k : Int) ∧ (∀ j, j < k → firstB ls j = true) ∧ Mm no w wr [.box bb (bkA g1 c1 g2 c2 ns.length ls.length) 31, .rd g1 ns.length (nmF ns), .rd g2 (ls.length * 101) (fun j => (slC ls).getD j undef)]) (fun i _ => ls.length - (intOf i).toNat)
        case atStart => exact ⟨0, by omega, rfl, fun j h => by omega, M⟩
        case round =>
          obtain ⟨k, hk, rfl, hl, M9⟩ := hrel
          clear M; (try clear C)
          have M := M9
          clear M9
          have C := M.ruleAll; simp only [Go.Proofs.YtocejggobgfccaaGreatDoor.ruleAll] at C
          have HF := Hid2.mk hl
          clear hl
          by_cases hlt : k < ls.length
          · have hlt' : (k : Int) < (ls.length : Int) := by omega
            have hfail := fun h => @isBk_first ns ls k hlt h
            have hnext : firstB ls k = true → ∀ j, j < k + 1 → firstB ls j = true := fun h j h1 => by
              rcases Nat.lt_or_eq_of_le (Nat.lt_succ_iff.1 h1) with h2 | rfl
              · exact HF.out j h2
              · exact h
            obtain ⟨q, hq⟩ : ∃ q, q = ls.getD k sq00 := ⟨_, rfl⟩
            have hqe : q = ls[k] := by rw [hq, List.getD_eq_getElem?_getD, List.getElem?_eq_getElem hlt]; rfl
            have hfi : firstB ls k = (placeOf (alkB q) ls == (k : Int)) := by rw [hq]; rfl
            have hK : ∀ w1, Mm no w w1 [.box bb (bkA g1 c1 g2 c2 ns.length ls.length) 31, .rd g1 ns.length (nmF ns), .rd g2 (ls.length * 101) (fun j => (slC ls).getD j undef)] → _ := fun w1 M => l11Kept_any q ls (by omega) (HOK.out q (by rw [hqe]; exact List.getElem_mem hlt)) HOK.out w1 g1 c1 g2 c2 ns.length (M.rd 2 rfl)
            have hcells : ∀ {w3}, rds w3 g2 (ls.length * 101) (fun j => (slC ls).getD j undef) → ∀ j v, (sqs q.n q.t)[j]? = some v → w3.cell? ⟨g2, k * 101 + j, none⟩ = some v := fun h => by rw [hqe]; exact sq_cells h hlt
            have HCE := Hid2.mk @hcells
            clear hq hqe hcells
            generalize keptP q ls = f at hK
            generalize placeOf (alkB q) ls = p at hK hfi
            have HFI := Hid2.mk hfi
            have HFAIL := Hid2.mk hfail
            have HN := Hid2.mk hnext
            clear hfi hfail hnext
            by_cases hpk : p = (k : Int)
            · have hB9 : (p == (k : Int)) = true := beq_iff_eq.2 hpk
              subst hpk
              go_wp2
              apply wp_region_mmf2 M [0, 1, 2, 3, 4, 5, 6, 7, 8, 9] 10 11 12 _ _ (StW3 w (k : Int)) (by kernel_rfl) (by kernel_rfl) rfl rfl rfl rfl rfl
              case ht => (repeat (first | exact wpTextG_nil | (apply wpTextG_cons; (intro g9 w2 hG; obtain ⟨Lg9, hSt9, G⟩ := hG; have M := G.suffix; have C := M.ruleAll; simp only [Go.Proofs.YtocejggobgfccaaGreatDoor.ruleAll] at C; go_wp2_with (first | ((with_reducible apply wpM_lda' M 0 31 0 (bkA g1 c1 g2 c2 ns.length ls.length)); rfl; rfl; rfl; exact ⟨rfl, inf_bok.trans (congrArg some (bok_size ..).symm), _, und_bok, rfl⟩; exact whole_of rfl) | (refine wpList_load_part rfl 50 _ rfl (g2) (k * 101) rfl (sqs q.n q.t) _ und_sqs rfl inf_sqs (HCE.out (M.rd 2 rfl)) ?_) | (go_at_call 30; ((with_reducible refine (hK _ M).mono ?_); rintro e w1 ⟨rfl, hb⟩; have hsz := M.size; (try (have G9 := G.later hb; clear G; have G := G9; clear G9)); have M9 := M.later hb; clear M; (try clear C); have M := M9; clear M9; have C := M.ruleAll; simp only [Go.Proofs.YtocejggobgfccaaGreatDoor.ruleAll] at C))); exact ⟨rfl, rfl, Lg9, hSt9, G⟩); rfl)))
              case hA =>
                intro Lg w2 h M
                obtain rfl : Lg = [] := h
                refine yield_walk (ops := #[]) rfl rfl (by simp [Act.put]) ?_
                go_wp2_with (first | ((with_reducible apply wpM_alloc' M 59 (bys fun _ => 0)); rfl; exact ⟨rfl, _, zero_plc _, rfl⟩; clear M; (try clear C); intro b6 w9 h_b6 M; have C := M.ruleAll; simp only [Go.Proofs.YtocejggobgfccaaGreatDoor.ruleAll] at C))
                exact ⟨_, ⟨b6, rfl, by assumption, rfl⟩, M⟩
              case hA2 =>
                intro v Lg w2 h M
                obtain ⟨b6, rfl, hb6, rfl⟩ := h
                refine yield_walk (ops := #[]) rfl rfl (by simp [Act.put]) ?_
                go_wp2
                exact ⟨_, ⟨⟨b6, rfl, hb6, rfl⟩, rfl⟩, M⟩
              clear M; (try clear C)
              intro v u9 Lg w2 h M
              obtain ⟨⟨b6, rfl, hb6, rfl⟩, rfl⟩ := h
              simp only [List.drop_succ_cons, List.drop_zero, List.cons_append, List.nil_append] at M ⊢
              have C := M.ruleAll; simp only [Go.Proofs.YtocejggobgfccaaGreatDoor.ruleAll] at C
              go_wp2_with (first | ((with_reducible apply wpM_sta' M 0 59 (bys f)); rfl; rfl; rfl; rfl; (first | exact .inl (by assumption) | exact .inr rfl | exact .inr (by assumption)); exact ⟨rfl, inf_plc.trans (congrArg some (bys_size ..).symm), flat_bys _⟩; (simp only [entCells, List.getElem?_cons_zero, List.getElem?_cons_succ, bys_size, bys_size]); clear M; (try clear C); intro w9 M; simp only [List.set_cons_zero, List.set_cons_succ, entBlk, entT, List.getElem?_cons_zero, List.getElem?_cons_succ] at M; have C := M.ruleAll; simp only [Go.Proofs.YtocejggobgfccaaGreatDoor.ruleAll] at C))
              go_roundw
              case rel => exact ⟨k + 1, by omega, by go_num, HN.out (by rw [HFI.out]; exact hB9), M.drop 0⟩
              case measure => simp [intOf]; omega
            · have d5 : decide (p = (k : Int)) = false := decide_eq_false hpk
              have d6 : (p == (k : Int)) = false := beq_eq_false_iff_ne.2 hpk
              go_wp2
              apply wp_region_mmf2 M [0, 1, 2, 3, 4, 5, 6, 7, 8, 9] 10 11 12 _ _ (StW3 w p) (by kernel_rfl) (by kernel_rfl) rfl rfl rfl rfl rfl
              case ht => (repeat (first | exact wpTextG_nil | (apply wpTextG_cons; (intro g9 w2 hG; obtain ⟨Lg9, hSt9, G⟩ := hG; have M := G.suffix; have C := M.ruleAll; simp only [Go.Proofs.YtocejggobgfccaaGreatDoor.ruleAll] at C; go_wp2_with (first | ((with_reducible apply wpM_lda' M 0 31 0 (bkA g1 c1 g2 c2 ns.length ls.length)); rfl; rfl; rfl; exact ⟨rfl, inf_bok.trans (congrArg some (bok_size ..).symm), _, und_bok, rfl⟩; exact whole_of rfl) | (refine wpList_load_part rfl 50 _ rfl (g2) (k * 101) rfl (sqs q.n q.t) _ und_sqs rfl inf_sqs (HCE.out (M.rd 2 rfl)) ?_) | (go_at_call 30; ((with_reducible refine (hK _ M).mono ?_); rintro e w1 ⟨rfl, hb⟩; have hsz := M.size; (try (have G9 := G.later hb; clear G; have G := G9; clear G9)); have M9 := M.later hb; clear M; (try clear C); have M := M9; clear M9; have C := M.ruleAll; simp only [Go.Proofs.YtocejggobgfccaaGreatDoor.ruleAll] at C))); exact ⟨rfl, rfl, Lg9, hSt9, G⟩); rfl)))
              case hA =>
                intro Lg w2 h M
                obtain rfl : Lg = [] := h
                refine yield_walk (ops := #[]) rfl rfl (by simp [Act.put]) ?_
                go_wp2_with (first | ((with_reducible apply wpM_alloc' M 59 (bys fun _ => 0)); rfl; exact ⟨rfl, _, zero_plc _, rfl⟩; clear M; (try clear C); intro b6 w9 h_b6 M; have C := M.ruleAll; simp only [Go.Proofs.YtocejggobgfccaaGreatDoor.ruleAll] at C))
                exact ⟨_, ⟨b6, rfl, by assumption, rfl⟩, M⟩
              case hA2 =>
                intro v Lg w2 h M
                obtain ⟨b6, rfl, hb6, rfl⟩ := h
                refine yield_walk (ops := #[]) rfl rfl (by simp [Act.put]) ?_
                go_wp2
                exact ⟨_, ⟨⟨b6, rfl, hb6, rfl⟩, rfl⟩, M⟩
              clear M; (try clear C)
              intro v u9 Lg w2 h M
              obtain ⟨⟨b6, rfl, hb6, rfl⟩, rfl⟩ := h
              simp only [List.drop_succ_cons, List.drop_zero, List.cons_append, List.nil_append] at M ⊢
              have C := M.ruleAll; simp only [Go.Proofs.YtocejggobgfccaaGreatDoor.ruleAll] at C
              go_wp2_with (first | ((with_reducible apply wpM_sta' M 0 59 (bys f)); rfl; rfl; rfl; rfl; (first | exact .inl (by assumption) | exact .inr rfl | exact .inr (by assumption)); exact ⟨rfl, inf_plc.trans (congrArg some (bys_size ..).symm), flat_bys _⟩; (simp only [entCells, List.getElem?_cons_zero, List.getElem?_cons_succ, bys_size, bys_size]); clear M; (try clear C); intro w9 M; simp only [List.set_cons_zero, List.set_cons_succ, entBlk, entT, List.getElem?_cons_zero, List.getElem?_cons_succ] at M; have C := M.ruleAll; simp only [Go.Proofs.YtocejggobgfccaaGreatDoor.ruleAll] at C))
              go_ret
              exact ⟨by rw [HFAIL.out (by rw [HFI.out]; exact d6)]; rfl, M.below⟩
          · obtain rfl : k = ls.length := by omega
            have hge : ¬ ((ls.length : Int) < (ls.length : Int)) := by omega
            have hB := HBK.out HL.out HF.out
            have HB := Hid2.mk hB
            clear hB
            go_wp2
            go_ret
            exact ⟨by rw [HB.out]; rfl, M.below⟩
end Go.Proofs.YtocejggobgfccaaGreatDoor

/- Books, plain: alike loops, their classes, and that what the program asks of a book is what the reference asks. -/
namespace Go.Proofs.YtocejggobgfccaaGreatDoor
set_option linter.unusedSimpArgs false
set_option linter.unusedVariables false

/-! ### Alike -/
theorem isoRes_ok : ∀ l : List (List Nat), ((isoRes l).2 == 0) = !l.isEmpty
  | [] => rfl
  | _ :: _ => rfl
theorem alkB_iff {q r : Sqr} : alkB q r = true ↔ q.n.toNat = r.n.toNat ∧ ∃ p : List Nat, (p.length = q.n.toNat ∧ ∀ v ∈ p, v < q.n.toNat) ∧ IsIso q.n.toNat q.t r.t p := by
  unfold alkB
  rw [isoRes_ok, Bool.not_eq_true', List.isEmpty_eq_false_iff]
  unfold isoAll
  split
  · rename_i e
    constructor
    · intro h
      obtain ⟨p, hp⟩ := List.exists_mem_of_ne_nil _ h
      have := mem_isos.1 hp
      exact ⟨e, p, this.1, this.2.1⟩
    · rintro ⟨_, p, h1, h2⟩ h
      have : p ∈ isos q.n.toNat q.t r.t fun _ => none := mem_isos.2 ⟨h1, h2, fun _ _ _ h => by cases h⟩
      rw [h] at this
      cases this
  · rename_i e
    exact ⟨fun h => absurd rfl h, fun h => absurd h.1 e⟩
theorem okS.lat {q : Sqr} (h : okS q) : Lat q.n.toNat q.t := by
  have s := isSq_true.1 h.2
  have e : ((q.n.toNat : Nat) : Int) = q.n := Int.toNat_of_nonneg (by have := s.lo; omega)
  exact Lat.of_sq (by rw [e]; exact s)
theorem getD_lt {p : List Nat} {N : Nat} (hl : p.length = N) (hv : ∀ v ∈ p, v < N) {i : Nat} (hi : i < N) : p.getD i 0 < N := by
  rw [List.getD_eq_getElem?_getD, List.getElem?_eq_getElem (by omega)]
  exact hv _ (List.getElem_mem _)
theorem map_getD {f : Nat → Nat} {N i : Nat} (hi : i < N) : ((List.range N).map f).getD i 0 = f i := by
  rw [List.getD_eq_getElem?_getD, List.getElem?_map, List.getElem?_range hi]; rfl
theorem alkB_refl {q : Sqr} (h : okS q) : alkB q q = true := by
  have L := h.lat
  refine alkB_iff.2 ⟨rfl, (List.range q.n.toNat).map id, ⟨by simp, fun v hv => by simpa using hv⟩, fun x y hx hy => ?_, fun x y hx hy => ?_⟩
  · rw [map_getD (L.lt x y hx hy), map_getD hx, map_getD hy]; rfl
  · rw [map_getD hx, map_getD hy]; exact id
theorem alkB_symm {q r : Sqr} (hq : okS q) (hr : okS r) (h : alkB q r = true) : alkB r q = true := by
  have L := hq.lat
  have K := hr.lat
  obtain ⟨e, p, ⟨hl, hv⟩, hi⟩ := alkB_iff.1 h
  rw [← e] at K
  have hlt : ∀ i, i < q.n.toNat → p.getD i 0 < q.n.toNat := fun i => getD_lt hl hv
  have hs : ∀ v, ∃ i, v < q.n.toNat → i < q.n.toNat ∧ p.getD i 0 = v := fun v => by
    by_cases h : v < q.n.toNat
    · obtain ⟨i, h1, h2⟩ := surj_of_inj q.n.toNat (fun i => p.getD i 0) hlt hi.inj v h
      exact ⟨i, fun _ => ⟨h1, h2⟩⟩
    · exact ⟨0, fun h' => absurd h' h⟩
  obtain ⟨g, hg⟩ := Classical.axiomOfChoice hs
  refine alkB_iff.2 ⟨e.symm, (List.range r.n.toNat).map g, ⟨by simp, fun v hv => ?_⟩, fun x y hx hy => ?_, fun x y hx hy => ?_⟩
  · obtain ⟨i, hi', rfl⟩ := List.mem_map.1 hv
    rw [List.mem_range] at hi'
    rw [← e] at hi' ⊢
    exact (hg i hi').1
  · rw [← e] at hx hy
    have hu := K.lt x y hx hy
    rw [← e, map_getD hu, map_getD hx, map_getD hy]
    have hx' := hg x hx
    have hy' := hg y hy
    refine hi.inj _ _ (hg _ hu).1 (L.lt _ _ hx'.1 hy'.1) ?_
    rw [(hg _ hu).2, hi.hom _ _ hx'.1 hy'.1, hx'.2, hy'.2]
  · rw [← e] at hx hy
    rw [← e, map_getD hx, map_getD hy]
    intro h2
    rw [← (hg x hx).2, ← (hg y hy).2, h2]
theorem alkB_comm {q r : Sqr} (hq : okS q) (hr : okS r) : alkB q r = alkB r q := by
  rw [Bool.eq_iff_iff]; exact ⟨alkB_symm hq hr, alkB_symm hr hq⟩

/-! ### Classes -/
section
variable (same : Nat → Nat → Bool)
/-- One number more goes to its class, or makes a new one. -/
def clsStep (out : List (List Nat)) (i : Nat) : List (List Nat) :=
  match out.findIdx? (fun c => same (c.headD 0) i) with
  | some k => out.modify k (· ++ [i])
  | none => out ++ [[i]]
def clsTo : Nat → List (List Nat)
  | 0 => []
  | m + 1 => clsStep same (clsTo m) m
variable {same}
theorem clsStep_le (out : List (List Nat)) (i : Nat) : (clsStep same out i).length ≤ out.length + 1 := by
  unfold clsStep; split <;> simp
theorem clsTo_le : ∀ m, (clsTo same m).length ≤ m
  | 0 => Nat.le_refl _
  | m + 1 => Nat.le_trans (clsStep_le _ _) (Nat.succ_le_succ (clsTo_le m))
theorem clsTo_new : ∀ m, (∀ i, i < m → ∀ j, j < i → same j i = false) → clsTo same m = (List.range m).map fun i => [i]
  | 0, _ => rfl
  | m + 1, h => by
    have ih := clsTo_new m fun i hi => h i (by omega)
    have hn : ((List.range m).map fun i => [i]).findIdx? (fun c => same (c.headD 0) m) = none := by
      rw [List.findIdx?_eq_none_iff]
      intro c hc
      obtain ⟨j, hj, rfl⟩ := List.mem_map.1 hc
      exact h m (by omega) j (List.mem_range.1 hj)
    show clsStep same (clsTo same m) m = _
    unfold clsStep
    rw [ih, hn, List.range_succ, List.map_append]
    rfl
theorem clsTo_met {i j : Nat} (hj : j < i) (h : same j i = true) (hb : ∀ i', i' < i → ∀ j', j' < i' → same j' i' = false) : ∀ m, i < m → (clsTo same m).length < m
  | 0, hm => absurd hm (by omega)
  | m + 1, hm => by
    rcases Nat.lt_or_eq_of_le (Nat.lt_succ_iff.1 hm) with h1 | rfl
    · exact Nat.lt_of_le_of_lt (clsStep_le _ _) (Nat.succ_lt_succ (clsTo_met hj h hb m h1))
    · have e := clsTo_new i hb
      show (clsStep same (clsTo same i) i).length < i + 1
      unfold clsStep
      rw [e]
      split
      · simp
      · rename_i hn
        rw [List.findIdx?_eq_none_iff] at hn
        have := hn [j] (List.mem_map.2 ⟨j, List.mem_range.2 hj, rfl⟩)
        rw [show ([j] : List Nat).headD 0 = j from rfl, h] at this
        cases this
theorem first_bad {Q : Nat → Prop} : ∀ {m : Nat}, (¬ ∀ i, i < m → Q i) → ∃ i, i < m ∧ ¬ Q i ∧ ∀ i', i' < i → Q i'
  | 0, h => absurd (fun i hi => absurd hi (by omega)) h
  | m + 1, h => by
    by_cases hm : ∀ i, i < m → Q i
    · refine ⟨m, by omega, fun hq => h fun i hi => ?_, hm⟩
      rcases Nat.lt_or_eq_of_le (Nat.lt_succ_iff.1 hi) with h1 | rfl
      · exact hm i h1
      · exact hq
    · obtain ⟨i, h1, h2, h3⟩ := first_bad hm
      exact ⟨i, by omega, h2, h3⟩
/-- There are as many classes as numbers just if no number is the same as an earlier one. -/
theorem clsTo_all (m : Nat) : (clsTo same m).length = m ↔ ∀ i, i < m → ∀ j, j < i → same j i = false := by
  constructor
  · intro h
    by_cases hc : ∀ i, i < m → ∀ j, j < i → same j i = false
    · exact hc
    · obtain ⟨i, hi, h1, h2⟩ := first_bad hc
      have : ∃ j, j < i ∧ same j i = true := by
        by_cases h3 : ∃ j, j < i ∧ same j i = true
        · exact h3
        · exact absurd (fun j hj => by
            cases h4 : same j i with
            | false => rfl
            | true => exact absurd ⟨j, hj, h4⟩ h3) h1
      obtain ⟨j, hj, h3⟩ := this
      have := clsTo_met hj h3 h2 m hi
      omega
  · intro h
    rw [clsTo_new m h]; simp
end

/-! ### What the program asks of a book -/
/-- Whether a name is valid and no earlier one. -/
noncomputable def nameI (ns : List ByteArray) (i : Nat) : Bool :=
  nameB (ns.getD i .empty) && !((ns.take i).any fun x => (ns.getD i .empty).toList == x.toList)
/-- Of two loops of a list: whether they are alike. -/
noncomputable def alkAt (ls : List Sqr) (j i : Nat) : Bool := alkB (ls.getD j sq00) (ls.getD i sq00)
noncomputable def isBkI (ns : List ByteArray) (ls : List Sqr) : Bool :=
  decide (ns.length ≤ 20) && decide (ls.length = ns.length) && ls.all lpB && !(ls.any fun q => decide (7 < q.n)) && (List.range ns.length).all (nameI ns) && decide ((clsTo (alkAt ls) ls.length).length = ls.length)
theorem getD_at {α : Type} {l : List α} {z : α} {i : Nat} (h : i < l.length) : l.getD i z = l[i] := by
  rw [List.getD_eq_getElem?_getD, List.getElem?_eq_getElem h]; rfl
theorem placeOf_at {α : Type} {p : α → Bool} {l : List α} {k : Nat} (hk : k < l.length) : (placeOf p l == (k : Int)) = true ↔ p l[k] = true ∧ ∀ j (h : j < k), p (l[j]'(Nat.lt_trans h hk)) = false := by
  rw [beq_iff_eq]
  unfold placeOf
  split
  · rename_i i hi
    obtain ⟨h1, h2, h3⟩ := List.findIdx?_eq_some_iff_getElem.1 hi
    constructor
    · intro e
      obtain rfl : i = k := by omega
      exact ⟨h2, fun j hj => by simpa using h3 j hj⟩
    · rintro ⟨h4, h5⟩
      rcases Nat.lt_trichotomy i k with h6 | h6 | h6
      · rw [h5 i h6] at h2; cases h2
      · rw [h6]
      · exact absurd h4 (h3 k h6)
  · rename_i hn
    rw [List.findIdx?_eq_none_iff] at hn
    constructor
    · intro e; omega
    · rintro ⟨h4, _⟩
      rw [hn _ (List.getElem_mem _)] at h4; cases h4
theorem lpB_ok {q : Sqr} (hb : Byt2 q.t) (h : lpB q = true) : okS q := ⟨hb, isSq_true.2 (isLp_true.1 h).sq⟩
theorem isBkI_eq (ns : List ByteArray) (ls : List Sqr) (hby : ∀ q ∈ ls, Byt2 q.t) : isBkI ns ls = isBk ns ls := by
  by_cases h1 : ns.length ≤ 20
  case neg => simp [isBkI, isBk, h1]
  by_cases h2 : ls.length = ns.length
  case neg => simp [isBkI, isBk, h2]
  cases h3 : ls.all lpB
  case false =>
    have : (List.range ns.length).all (itemB ns ls) = false := by
      obtain ⟨q, hq, h4⟩ := List.all_eq_false.1 h3
      obtain ⟨i, hi, rfl⟩ := List.getElem_of_mem hq
      refine List.all_eq_false.2 ⟨i, List.mem_range.2 (by omega), ?_⟩
      unfold itemB
      rw [getD_at hi (z := sq00)]
      simp [h4]
    simp [isBkI, isBk, h3, this]
  cases h4 : ls.any (fun q => decide (7 < q.n))
  case true =>
    have : (List.range ns.length).all (itemB ns ls) = false := by
      obtain ⟨q, hq, h5⟩ := List.any_eq_true.1 h4
      obtain ⟨i, hi, rfl⟩ := List.getElem_of_mem hq
      refine List.all_eq_false.2 ⟨i, List.mem_range.2 (by omega), ?_⟩
      unfold itemB
      rw [getD_at hi (z := sq00)]
      simp only [h5]
      simp
    simp [isBkI, isBk, h4, this]
  have hok : ∀ i (h : i < ls.length), okS ls[i] := fun i h => lpB_ok (hby _ (List.getElem_mem h)) (List.all_eq_true.1 h3 _ (List.getElem_mem h))
  have e1 : (List.range ns.length).all (nameI ns) = (List.range ns.length).all (itemB ns ls) := by
    rw [Bool.eq_iff_iff, List.all_eq_true, List.all_eq_true]
    refine forall_congr' fun i => ?_
    refine imp_congr_right fun hi => ?_
    rw [List.mem_range] at hi
    have hil : i < ls.length := by omega
    have g1 : lpB ls[i] = true := List.all_eq_true.1 h3 _ (List.getElem_mem hil)
    have g2 : decide (7 < ls[i].n) = false := by
      have := List.any_eq_false.1 h4 _ (List.getElem_mem hil)
      simpa using this
    unfold nameI itemB
    rw [getD_at hi (z := .empty), getD_at hil (z := sq00), g1, g2]
    simp only [Bool.and_eq_true, Bool.not_false, and_true, Bool.not_eq_true']
    refine and_congr_right fun _ => ?_
    rw [placeOf_at hi]
    constructor
    · intro h
      refine ⟨by simp, fun j hj => ?_⟩
      have := List.any_eq_false.1 h (ns[j]'(by omega)) (List.mem_take_iff_getElem.2 ⟨j, by omega, rfl⟩)
      rw [Bool.not_eq_true] at this
      rw [← this, Bool.eq_iff_iff, beq_iff_eq, beq_iff_eq]
      exact eq_comm
    · rintro ⟨_, h⟩
      refine List.any_eq_false.2 fun x hx => ?_
      obtain ⟨j, hj, rfl⟩ := List.mem_take_iff_getElem.1 hx
      have := h j (by omega)
      rw [Bool.not_eq_true, ← this, Bool.eq_iff_iff, beq_iff_eq, beq_iff_eq]
      exact eq_comm
  have e2 : decide ((clsTo (alkAt ls) ls.length).length = ls.length) = (List.range ls.length).all (firstB ls) := by
    rw [Bool.eq_iff_iff, decide_eq_true_eq, clsTo_all, List.all_eq_true]
    refine forall_congr' fun i => ?_
    rw [List.mem_range]
    refine imp_congr_right fun hi => ?_
    unfold firstB alkAt
    rw [getD_at hi (z := sq00), placeOf_at hi]
    constructor
    · intro h
      refine ⟨alkB_refl (hok i hi), fun j hj => ?_⟩
      have := h j hj
      rw [getD_at (show j < ls.length by omega) (z := sq00)] at this
      rw [alkB_comm (hok i hi) (hok j (by omega))]; exact this
    · rintro ⟨_, h⟩ j hj
      rw [getD_at (show j < ls.length by omega) (z := sq00), alkB_comm (hok j (by omega)) (hok i hi)]
      exact h j hj
  unfold isBkI isBk
  rw [h3, h4, e1, e2]
  simp
end Go.Proofs.YtocejggobgfccaaGreatDoor

/- Classes of loops, for the program: contracts of the search for a class. -/
namespace Go.Proofs.YtocejggobgfccaaGreatDoor
set_option linter.unusedSimpArgs false
set_option linter.unusedVariables false
open Go Go.RowKit

set_option maxRecDepth 100000 in
set_option maxHeartbeats 1000000 in
theorem idxSlices_any {α : Type} (l : List α) (vs : List Value) (hvl : vs.length = l.length) (hlen : l.length ≤ 10000000) (w : World) (pp : Option Addr) (cap : Nat) (hr : rdq w pp l.length (fun j => vs.getD j undef)) (f : Nat) (cp : Array Value) (p : α → Bool)
    (hen : ∀ (args : Array Value) (w : World), (callFunc f args).run Tryz.prog w = .ok (.enter f args) w)
    (hf : ∀ k (h : k < l.length), ∀ w1, Below w.heap.size w w1 → Calls Tryz.prog f (#[vs[k]'(by omega)] ++ cp) w1 fun e w' => e = .returned (.bool (p l[k])) ∧ Below w1.heap.size w1 w') :
    Calls Tryz.prog 58 #[.slice pp l.length cap, .func (.func f) #[] cp] w fun e w' => e = .returned (.int .i64 (placeOf p l)) ∧ Below w.heap.size w w' := by
  have M := (Mm.start no w).add (x := Ent.own l.length pp (fun j => vs.getD j undef)) hr.ent fun _ h => by cases h
  have HF := Hid2.mk hf
  clear hr hf
  go_enter Tryz.func58, Tryz.ntmps58
  go_wp2
  go_loopw [8, 5] (fun i _ wr => ∃ k : Nat, k ≤ l.length ∧ i = .int .i64 (k : Int) ∧ (∀ j (h : j < l.length), j < k → p l[j] = false) ∧ Mm no w wr [Ent.own l.length pp (fun j => vs.getD j undef)]) (fun i _ _ => l.length - (intOf i).toNat)
  case atStart => exact ⟨0, by omega, rfl, fun j _ h => by omega, M⟩
  case round =>
    obtain ⟨k, hk, rfl, hl, M9⟩ := hrel
    clear M
    have M := M9
    clear M9
    have HL := Hid2.mk hl
    clear hl
    by_cases hlt : k < l.length
    · have hlt' : (k : Int) < (l.length : Int) := by omega
      have hfound := fun h => @placeOf_some _ p l k hlt (fun j hj => HL.out j (Nat.lt_trans hj hlt) hj) h
      have hnext : p l[k] = false → ∀ j (h : j < l.length), j < k + 1 → p l[j] = false := fun h j hj h1 => by
        rcases Nat.lt_or_eq_of_le (Nat.lt_succ_iff.1 h1) with h2 | rfl
        · exact HL.out j hj h2
        · exact h
      have hF := HF.out k hlt
      obtain ⟨g, hpp, hrr⟩ := rdq_in M 0 rfl (by omega)
      have hcell := hrr.at_ k hlt
      have hvk : vs.getD k undef = vs[k] := getD_at (by omega)
      rw [hvk] at hcell
      generalize vs[k] = vk at hF hcell
      clear hvk hrr
      subst hpp
      cases hv : p l[k] with
      | false =>
        simp only [hv] at hF
        have HST := Hid2.mk (hnext hv)
        clear hfound hnext hv
        go_wp2
        refine (hF _ M.below).mono ?_
        rintro e w1 ⟨rfl, hb⟩
        have M9 := M.later hb
        clear M hcell
        have M := M9
        clear M9
        go_wp2
        go_roundw
        case rel => exact ⟨k + 1, by omega, by go_num, HST.out, M⟩
        case measure => simp [intOf]; omega
      | true =>
        simp only [hv] at hF
        have HST := Hid2.mk (hfound hv)
        clear hfound hnext hv
        go_wp2
        refine (hF _ M.below).mono ?_
        rintro e w1 ⟨rfl, hb⟩
        have M9 := M.later hb
        clear M hcell
        have M := M9
        clear M9
        go_wp2
        go_ret
        exact ⟨by rw [HST.out]; rfl, M.below⟩
    · obtain rfl : k = l.length := by omega
      have hge : ¬ ((l.length : Int) < (l.length : Int)) := by omega
      go_wp2
      go_ret
      exact ⟨by rw [placeOf_none fun j hj => HL.out j hj hj]; rfl, M.below⟩

set_option maxRecDepth 100000 in
set_option maxHeartbeats 1000000 in
/-- The closure of the search: whether a loop goes to a class. -/
theorem classFn_any (ls : List Sqr) (hlen : ls.length ≤ 10000000) (i j : Nat) (hi : i < ls.length) (hj : j < ls.length) (S : Sqr → Sqr → Bool) (w : World) (g cap b1 b2 b3 f gk n c : Nat)
    (hen : ∀ (args : Array Value) (w : World), (callFunc f args).run Tryz.prog w = .ok (.enter f args) w)
    (hf : ∀ q ∈ ls, ∀ r ∈ ls, ∀ w1, Calls Tryz.prog f #[.agg (sqs q.n q.t), .agg (sqs r.n r.t)] w1 fun e w' => e = .returned (.bool (S q r)) ∧ Below w1.heap.size w1 w')
    (hr : rds w g (ls.length * 101) (fun j => (slC ls).getD j undef)) (h1 : rds w b1 1 (fun _ => .func (.func f) #[] #[])) (h2 : rds w b2 1 (fun _ => .slice (some ⟨g, 0, none⟩) ls.length cap)) (h3 : rds w b3 101 (fun j => (sqC ls[i]).getD j undef))
    (hk : w.cell? ⟨gk, 0, none⟩ = some (.int .i64 (j : Int))) (hn : 0 < n) :
    Calls Tryz.prog 59 #[.slice (some ⟨gk, 0, none⟩) n c, .pointer (some ⟨b1, 0, none⟩), .pointer (some ⟨b2, 0, none⟩), .pointer (some ⟨b3, 0, none⟩)] w fun e w' => e = .returned (.bool (S ls[j] ls[i])) ∧ Below w.heap.size w w' := by
  have M := Mm.start no w
  have hF := hf _ (List.getElem_mem hj) _ (List.getElem_mem hi)
  have hj' : (j : Int) < (ls.length : Int) := by omega
  have hn' : (0 : Int) < (n : Int) := by omega
  have hfa : ∀ w2, Below w.heap.size w w2 → (w2.cell? ⟨b1, 0, none⟩ = some (.func (.func f) #[] #[])) ∧ (w2.cell? ⟨b2, 0, none⟩ = some (.slice (some ⟨g, 0, none⟩) ls.length cap)) ∧ (w2.cell? ⟨gk, 0, none⟩ = some (.int .i64 (j : Int))) ∧
      (∀ j' v, (sqs ls[j].n ls[j].t)[j']? = some v → w2.cell? ⟨g, j * 101 + j', none⟩ = some v) ∧ (∀ j' v, (sqs ls[i].n ls[i].t)[j']? = some v → w2.cell? ⟨b3, 0 + j', none⟩ = some v) := fun w2 hb =>
    ⟨(h1.later hb).at_ 0 (by omega), (h2.later hb).at_ 0 (by omega), by rw [hb.cell (p := ⟨gk, 0, none⟩) (World.block_lt_of_cell? w _ hk)]; exact hk, sq_cells (hr.later hb) hj, fun j' v hv => by
      have hlt : j' < 101 := by have := (Array.getElem?_eq_some_iff.1 hv).1; rwa [sqs_size] at this
      rw [Nat.zero_add, (h3.later hb).at_ j' hlt]
      show some ((sqs ls[i].n ls[i].t).getD j' undef) = some v
      rw [Array.getD_eq_getD_getElem?, hv]; rfl⟩
  generalize S ls[j] ls[i] = res at hF ⊢
  generalize ls[i] = q at hfa hF
  generalize ls[j] = r at hfa hF
  have FA := Hid2.mk hfa
  clear hf hr h1 h2 h3 hk hfa
  go_enter Tryz.func59, Tryz.ntmps59
  go_wp2
  apply wp_region_mm M 8 (by kernel_rfl) (by kernel_rfl)
  · simp only [List.take_succ_cons, List.take_zero]
    repeat (first | exact wpText_nil | (apply wpText_cons; (intro w2 M; have hc1 := (FA.out _ M.below).1; have hc2 := (FA.out _ M.below).2.1; have hc3 := (FA.out _ M.below).2.2.1; go_wp2_with (first | (refine wpList_load_part rfl 50 _ rfl (g) (j * 101) rfl (sqs r.n r.t) _ und_sqs rfl inf_sqs ((FA.out _ M.below).2.2.2.1) ?_) | (refine wpList_load_part rfl 50 _ rfl (b3) (0) rfl (sqs q.n q.t) _ und_sqs rfl inf_sqs ((FA.out _ M.below).2.2.2.2) ?_)); exact ⟨rfl, rfl, M⟩); rfl))
  clear M
  intro w2 M
  simp only [List.drop_succ_cons, List.drop_zero]
  go_wp2
  refine (hF _).mono ?_
  rintro e w1 ⟨rfl, hb⟩
  have M9 := M.later hb
  clear M
  have M := M9
  clear M9
  go_wp2
  go_ret
  exact ⟨rfl, M.below⟩
end Go.Proofs.YtocejggobgfccaaGreatDoor

/- Classes of loops, for the program: the contract. -/
namespace Go.Proofs.YtocejggobgfccaaGreatDoor
set_option linter.unusedSimpArgs false
set_option linter.unusedVariables false
open Go Go.RowKit

theorem bsl_cls0 (w : World) : (Instr.buildSlice 74 0 [].toArray).run Tryz.prog w = .ok (.slice (some ⟨w.heap.size, 0, none⟩) 0 0) (w.alloc (.cells #[] 66)) := by kernel_rfl
theorem bsl_clsN (w : World) : (Instr.buildSlice 74 1 [(0, Value.slice none 0 0)].toArray).run Tryz.prog w = .ok (.slice (some ⟨w.heap.size, 0, none⟩) 1 1) (w.alloc (.cells #[.slice none 0 0] 66)) := by kernel_rfl
theorem bsl_cls1 (b : Nat) (w : World) : (Instr.buildSlice 74 1 [(0, Value.slice (some ⟨b, 0, none⟩) 1 1)].toArray).run Tryz.prog w = .ok (.slice (some ⟨w.heap.size, 0, none⟩) 1 1) (w.alloc (.cells #[.slice (some ⟨b, 0, none⟩) 1 1] 66)) := by kernel_rfl
theorem bsl_i64 (i : Int) (w : World) : (Instr.buildSlice 66 1 [(0, Value.int .i64 i)].toArray).run Tryz.prog w = .ok (.slice (some ⟨w.heap.size, 0, none⟩) 1 1) (w.alloc (.cells #[.int .i64 i] 2)) := by kernel_rfl
theorem und_slc : Tryz.prog.underlying 74 = some (.slice 66) := by kernel_rfl
theorem inf_elc : (Tryz.prog.info? 66).map (fun i => (i.zero, i.size, i.bytes)) = some (some (.slice none 0 0), 1, 24) := by kernel_rfl
theorem und_sli : Tryz.prog.underlying 66 = some (.slice 2) := by kernel_rfl
theorem inf_eli : (Tryz.prog.info? 2).map (fun i => (i.zero, i.size, i.bytes)) = some (some (.int .i64 0), 1, 8) := by kernel_rfl
theorem inf_slc : (Tryz.prog.info? 66).map (·.size) = some 1 := by kernel_rfl
theorem flat_c1 {v : Value} (h : oneV v = true) : flat #[v] := fun u hu => by
  simp only [List.mem_singleton] at hu; subst hu
  cases u <;> simp_all [oneV]

/-- Every class has a number, and none that is too great. -/
theorem clsTo_good {same : Nat → Nat → Bool} : ∀ m, ∀ c ∈ clsTo same m, c ≠ [] ∧ ∀ x ∈ c, x < m
  | 0, c, h => by cases h
  | m + 1, c, h => by
    have ih := clsTo_good (same := same) m
    have h' : c ∈ clsStep same (clsTo same m) m := h
    unfold clsStep at h'
    split at h'
    · rename_i k hk
      obtain ⟨j, hj⟩ := List.getElem?_of_mem h'
      rw [List.getElem?_modify] at hj
      cases he : (clsTo same m)[j]? with
      | none => simp [he] at hj
      | some d =>
        have hd := ih d (List.mem_of_getElem? he)
        rw [he] at hj
        simp only [Option.map_eq_map, Option.map_some, Option.some.injEq] at hj
        split at hj
        · subst hj
          refine ⟨by simp, fun x hx => ?_⟩
          rcases List.mem_append.1 hx with h1 | h1
          · have := hd.2 x h1; omega
          · simp only [List.mem_singleton] at h1; omega
        · subst hj
          exact ⟨hd.1, fun x hx => by have := hd.2 x hx; omega⟩
    · rcases List.mem_append.1 h' with h1 | h1
      · have hd := ih c h1
        exact ⟨hd.1, fun x hx => by have := hd.2 x hx; omega⟩
      · simp only [List.mem_singleton] at h1
        subst h1
        exact ⟨by simp, fun x hx => by simp only [List.mem_singleton] at hx; omega⟩
theorem clsTo_size {same : Nat → Nat → Bool} (m : Nat) (c : List Nat) (h : c ∈ clsTo same m) : c.length ≤ m := by
  have key : ∀ m, ∀ c ∈ clsTo same m, c.length ≤ m := by
    intro m
    induction m with
    | zero => intro c h; cases h
    | succ m ih =>
      intro c h
      have h' : c ∈ clsStep same (clsTo same m) m := h
      unfold clsStep at h'
      split at h'
      · obtain ⟨j, hj⟩ := List.getElem?_of_mem h'
        rw [List.getElem?_modify] at hj
        cases he : (clsTo same m)[j]? with
        | none => simp [he] at hj
        | some d =>
          have hd := ih d (List.mem_of_getElem? he)
          rw [he] at hj
          simp only [Option.map_eq_map, Option.map_some, Option.some.injEq] at hj
          split at hj <;> subst hj
          · rw [List.length_append]; simpa using hd
          · omega
      · rcases List.mem_append.1 h' with h1 | h1
        · have := ih c h1; omega
        · simp only [List.mem_singleton] at h1; subst h1; simp
  exact key m c h

theorem own_one {w : World} {base e size n : Nat} {v : Value} {xs : List Value} (h : w.ownsRow base e size v n xs) : oneV v = true := by
  obtain ⟨pp, cap, rfl⟩ := own_form h
  rfl
theorem rds_one {w : World} {b t : Nat} {v : Value} (h : blk w b #[v] t) : rds w b 1 (fun _ => v) := h.rds fun j hj => by
  obtain rfl : j = 0 := by omega
  rfl
theorem rds_sq {w : World} {b t : Nat} {q : Sqr} (h : blk w b (sqs q.n q.t) t) : rds w b 101 (fun j => (sqC q).getD j undef) := h.rds fun j hj => by
  show (sqs q.n q.t)[j]? = some ((sqs q.n q.t).getD j undef)
  rw [Array.getD_eq_getD_getElem?, Array.getElem?_eq_getElem (show j < (sqs q.n q.t).size by rw [sqs_size]; exact hj)]; rfl

set_option maxRecDepth 100000 in
set_option maxHeartbeats 4000000 in
theorem classesOf_any (ls : List Sqr) (hlen : ls.length ≤ 1048576) (S : Sqr → Sqr → Bool) (w : World) (g cap f : Nat) (hen : ∀ (args : Array Value) (w : World), (callFunc f args).run Tryz.prog w = .ok (.enter f args) w)
    (hf : ∀ q ∈ ls, ∀ r ∈ ls, ∀ w1, Calls Tryz.prog f #[.agg (sqs q.n q.t), .agg (sqs r.n r.t)] w1 fun e w' => e = .returned (.bool (S q r)) ∧ Below w1.heap.size w1 w')
    (hr : rds w g (ls.length * 101) (fun j => (slC ls).getD j undef)) :
    Calls Tryz.prog 41 #[.slice (some ⟨g, 0, none⟩) ls.length cap, .func (.func f) #[] #[]] w fun e w' => ∃ v, e = .returned v ∧ ClsRes w.heap.size w w' v (clsTo (fun j i => S (ls.getD j sq00) (ls.getD i sq00)) ls.length) 66 2 := by
  have M := (Mm.start no w).add (x := .rd g (ls.length * 101) (fun j => (slC ls).getD j undef)) hr fun _ h => by cases h
  have HF := Hid2.mk hf
  have hmf : ∀ (fn : Fn) (first cap : Array Value) (w : World), (Instr.makeFunc fn first cap).run Tryz.prog w = .ok (.func fn first cap) w := fun _ _ _ _ => rfl
  clear hr hf
  generalize hsame : (fun j i => S (ls.getD j sq00) (ls.getD i sq00)) = same
  have C := M.ruleAll; simp only [Go.Proofs.YtocejggobgfccaaGreatDoor.ruleAll] at C
  go_enter Tryz.func41, Tryz.ntmps41
  go_wp2_with (first | ((with_reducible apply wpM_box' M 29 (#[.slice (some ⟨g, 0, none⟩) ls.length cap])); rfl; exact ⟨rfl, rfl⟩; clear M; (try clear C); intro bl w9 h_bl M; have C := M.ruleAll; simp only [Go.Proofs.YtocejggobgfccaaGreatDoor.ruleAll] at C) | ((with_reducible apply wpM_box' M 76 (#[.func (.func f) #[] #[]])); rfl; exact ⟨rfl, rfl⟩; clear M; (try clear C); intro bs w9 h_bs M; have C := M.ruleAll; simp only [Go.Proofs.YtocejggobgfccaaGreatDoor.ruleAll] at C) | ((with_reducible apply wpM_bsl' M 74 0 66 ([]) (#[])); rfl; rfl; rfl; exact bsl_cls0; clear M; (try clear C); intro bo w9 h_bo M; have C := M.ruleAll; simp only [Go.Proofs.YtocejggobgfccaaGreatDoor.ruleAll] at C))
  have M9 := M.asRow 0 rfl w.heap.size 0 1 h_bo rfl (Nat.zero_le _)
  clear M; (try clear C)
  have M : Mm no w w9 (.box bs #[.func (.func f) #[] #[]] 76 :: .box bl #[.slice (some ⟨g, 0, none⟩) ls.length cap] 29 :: .rd g (ls.length * 101) (fun j => (slC ls).getD j undef) :: .row w.heap.size (.slice (some ⟨bo, 0, none⟩) 0 0) 0 [] 66 1 :: clsE w.heap.size 2 [] []) := M9.sub [1, 2, 3, 0] (by decide)
  clear M9
  have C := M.ruleAll; simp only [Go.Proofs.YtocejggobgfccaaGreatDoor.ruleAll] at C
  go_wp2
  go_loopw [12, 5] (fun i v wr => ∃ k : Nat, k ≤ ls.length ∧ i = .int .i64 (k : Int) ∧ ∃ pp cv vs, v = .slice pp (clsTo same k).length cv ∧ vs.length = (clsTo same k).length ∧ Mm no w wr (.box bs #[.func (.func f) #[] #[]] 76 :: .box bl #[.slice (some ⟨g, 0, none⟩) ls.length cap] 29 :: .rd g (ls.length * 101) (fun j => (slC ls).getD j undef) :: .row w.heap.size (.slice pp (clsTo same k).length cv) (clsTo same k).length vs 66 1 :: clsE w.heap.size 2 vs (clsTo same k))) (fun i _ _ => ls.length - (intOf i).toNat)
  case atStart => exact ⟨0, by omega, rfl, _, _, [], rfl, rfl, M⟩
  case round =>
    obtain ⟨k, hk, rfl, pp, cv, vs, rfl, hvl, M9⟩ := hrel
    clear M; (try clear C)
    have M := M9
    clear M9
    have C := M.ruleAll; simp only [Go.Proofs.YtocejggobgfccaaGreatDoor.ruleAll] at C
    by_cases hlt : k < ls.length
    · have hlt' : (k : Int) < (ls.length : Int) := by omega
      have hgood := clsTo_good (same := same) k
      have hle := clsTo_le (same := same) k
      have hsz := clsTo_size (same := same) k
      have hstep : clsTo same (k + 1) = clsStep same (clsTo same k) k := rfl
      generalize clsTo same k = cls at hgood hle hsz hstep hvl M ⊢
      obtain ⟨q, hq⟩ : ∃ q, q = ls[k] := ⟨_, rfl⟩
      have hcells : ∀ {w3}, rds w3 g (ls.length * 101) (fun j => (slC ls).getD j undef) → ∀ j v, (sqs q.n q.t)[j]? = some v → w3.cell? ⟨g, k * 101 + j, none⟩ = some v := fun h => by rw [hq]; exact sq_cells h hlt
      have HCE := Hid2.mk @hcells
      have HI : ∀ bq w1, Mm no w w1 (.box bq (sqs q.n q.t) 50 :: .box bs #[.func (.func f) #[] #[]] 76 :: .box bl #[.slice (some ⟨g, 0, none⟩) ls.length cap] 29 :: .rd g (ls.length * 101) (fun j => (slC ls).getD j undef) :: .row w.heap.size (.slice pp cls.length cv) cls.length vs 66 1 :: clsE w.heap.size 2 vs cls) →
          Calls Tryz.prog 58 #[.slice pp cls.length cv, .func (.func 59) #[] #[.pointer (some ⟨bs, 0, none⟩), .pointer (some ⟨bl, 0, none⟩), .pointer (some ⟨bq, 0, none⟩)]] w1 fun e w' => e = .returned (.int .i64 (placeOf (fun c => same (c.headD 0) k) cls)) ∧ Below w1.heap.size w1 w' := fun bq w1 M => by
        have hown := M.row 4 rfl
        have hrq := rdq_of_own hown
        rw [Nat.mul_one] at hrq
        refine idxSlices_any cls vs hvl (by omega) w1 pp cv hrq 59 _ (fun c => same (c.headD 0) k) (enters_of (P := Tryz.prog) (f := 59) (by exact Tryz.func59) (by kernel_rfl) rfl) fun j hj w2 hb => ?_
        have hent := M.ents (5 + j) _ (show _ = some (.row w.heap.size (vs[j]'(by omega)) cls[j].length (ints cls[j]) 2 1) by rw [Nat.add_comm]; exact clsE_get (by omega) hj)
        obtain ⟨hne, hxs⟩ := hgood cls[j] (List.getElem_mem hj)
        obtain ⟨x, c', hc⟩ : ∃ x c', cls[j] = x :: c' := by
          cases h : cls[j] with
          | nil => exact absurd h hne
          | cons x c' => exact ⟨x, c', rfl⟩
        have hx : x < k := hxs x (by rw [hc]; simp)
        have hown2 : w1.ownsRow w.heap.size 2 1 (vs[j]'(by omega)) cls[j].length (ints cls[j]) := hent
        obtain ⟨gk, ck, hvj, hcell, hgl⟩ := own_head hown2 (by rw [hc]; simp)
        rw [hvj]
        have h9 := classFn_any ls (by omega) k x hlt (by omega) S w2 g cap bs bl bq f gk cls[j].length ck hen HF.out ((M.rd 3 rfl).later hb) (rds_one ((M.box 1 rfl).later hb)) (rds_one ((M.box 2 rfl).later hb)) (by rw [← hq]; exact rds_sq ((M.box 0 rfl).later hb)) (by rw [hb.cell (p := ⟨gk, 0, none⟩) hgl, hcell, hc]; rfl) (by rw [hc]; simp)
        have e1 : same (cls[j].headD 0) k = S ls[x] ls[k] := by
          rw [hc, ← hsame]
          show S (ls.getD x sq00) (ls.getD k sq00) = _
          rw [getD_at (by omega), getD_at hlt]
        rw [e1]
        exact h9
      have hK := HI
      clear HI hq hcells
      cases hfi : cls.findIdx? (fun c => same (c.headD 0) k) with
      | some j =>
        obtain ⟨hjl, _, _⟩ := List.findIdx?_eq_some_iff_getElem.1 hfi
        have hpl : placeOf (fun c => same (c.headD 0) k) cls = (j : Int) := by unfold placeOf; rw [hfi]
        have hst : clsTo same (k + 1) = cls.modify j (· ++ [k]) := by rw [hstep]; unfold clsStep; rw [hfi]
        have HST := Hid2.mk hst
        rw [hpl] at hK
        obtain ⟨go, cv', he, _, _, _⟩ := own_rds (M.row 3 rfl) (by omega)
        cases he
        have hown : wr.ownsRow w.heap.size 2 1 (vs[j]'(by omega)) cls[j].length (ints cls[j]) := show Ent.holds wr (.row w.heap.size (vs[j]'(by omega)) cls[j].length (ints cls[j]) 2 1) from M.ents (4 + j) _ (by rw [Nat.add_comm]; exact clsE_get (by omega) hjl)
        obtain ⟨ppj, cj, hvj⟩ := own_form hown
        have HG := Hid2.mk (show (clsE w.heap.size 2 vs cls)[j]? = some (.row w.heap.size (.slice ppj cls[j].length cj) cls[j].length (ints cls[j]) 2 1) by rw [← hvj]; exact clsE_get (by omega) hjl)
        have HV := Hid2.mk (show vs[j]? = some (.slice ppj cls[j].length cj) by rw [← hvj]; exact List.getElem?_eq_getElem _)
        have hj0 : ¬ ((j : Int) < 0) := by omega
        have hjl' : (j : Int) < (cls.length : Int) := by omega
        have HLE := Hid2.mk (hsz cls[j] (List.getElem_mem hjl))
        clear hown hvj hpl hst hfi hstep hgood hsz
        go_wp2_with (first | (refine wpList_load_part rfl 50 _ rfl (g) (k * 101) rfl (sqs q.n q.t) _ und_sqs rfl inf_sqs (HCE.out (by first | exact M.rd 2 rfl | exact M.rd 3 rfl)) ?_) | ((with_reducible apply wpM_alloc' M 50 (sqs 0 fun _ _ => 0)); rfl; exact ⟨rfl, _, zero_sqs _, rfl⟩; clear M; (try clear C); intro bq w9 h_bq M; have C := M.ruleAll; simp only [Go.Proofs.YtocejggobgfccaaGreatDoor.ruleAll] at C) | ((with_reducible apply wpM_sta' M 0 50 (sqs q.n q.t)); rfl; rfl; rfl; rfl; (first | exact .inl (by assumption) | exact .inr rfl | exact .inr (by assumption)); exact ⟨rfl, inf_sqs.trans (congrArg some (sqs_size ..).symm), flat_sqs _ _⟩; (simp only [entCells, List.getElem?_cons_zero, List.getElem?_cons_succ, sqs_size, sqs_size]); clear M; (try clear C); intro w9 M; simp only [List.set_cons_zero, List.set_cons_succ, entBlk, entT, List.getElem?_cons_zero, List.getElem?_cons_succ] at M; have C := M.ruleAll; simp only [Go.Proofs.YtocejggobgfccaaGreatDoor.ruleAll] at C) | (go_at_call 58; ((with_reducible refine (hK _ _ M).mono ?_); rintro e w1 ⟨rfl, hb⟩; have M9 := M.later hb; clear M; (try clear C); have M := M9; clear M9; have C := M.ruleAll; simp only [Go.Proofs.YtocejggobgfccaaGreatDoor.ruleAll] at C; have hcj : w1.cell? ⟨go, j, none⟩ = some (.slice ppj cls[j].length cj) := by rw [World.ownsRow.cellAt (M.row 4 rfl) j (by omega)]; exact HV.out)) | ((with_reducible apply wpM_bsl' M 66 1 2 ([(0, .int .i64 (k : Int))]) (#[.int .i64 (k : Int)])); rfl; rfl; rfl; exact bsl_i64 _; clear M; (try clear C); intro bi w9 h_bi M; have C := M.ruleAll; simp only [Go.Proofs.YtocejggobgfccaaGreatDoor.ruleAll] at C) | ((with_reducible apply wpM_app' M 66 (j + 6) 0 w.heap.size (.slice ppj cls[j].length cj) (cls[j].length) (ints cls[j]) 2 1 8); rfl; exact HG.out; rfl; rfl; rfl; rfl; rfl; exact .inl (Nat.le_refl _); exact M.size; exact und_sli; exact inf_eli; rfl; decide; decide; rfl; rfl; exact flat_c1 rfl; (have := HLE.out; omega); clear M; (try clear C); intro v2 w9 far_v2 M; obtain ⟨pp_v2, cap_v2, rfl⟩ := own_set (i := j + 6) M (show _ = some _ from HG.out); simp only [List.set_cons_zero, List.set_cons_succ, entCells, List.getElem?_cons_zero] at M; have C := M.ruleAll; simp only [Go.Proofs.YtocejggobgfccaaGreatDoor.ruleAll] at C) | ((with_reducible apply wpM_rst' M 5 66 w.heap.size go (cls.length) cv 66 (vs) (j) (.slice pp_v2 (cls[j].length + 1) cap_v2)); rfl; rfl; rfl; rfl; exact ⟨rfl, rfl, inf_slc⟩; exact .inl (Nat.le_refl _); omega; clear M; (try clear C); intro w9 M; simp only [List.set_cons_zero, List.set_cons_succ] at M; have C := M.ruleAll; simp only [Go.Proofs.YtocejggobgfccaaGreatDoor.ruleAll] at C))
        have M8 : Mm no w w9 (.box bs #[.func (.func f) #[] #[]] 76 :: .box bl #[.slice (some ⟨g, 0, none⟩) ls.length cap] 29 :: .rd g (ls.length * 101) (fun j => (slC ls).getD j undef) :: .row w.heap.size (.slice (some ⟨go, 0, none⟩) cls.length cv) cls.length (vs.set j (.slice pp_v2 (cls[j].length + 1) cap_v2)) 66 1 :: clsE w.heap.size 2 (vs.set j (.slice pp_v2 (cls[j].length + 1) cap_v2)) (cls.modify j (· ++ [k]))) := by
          have h := (M.drop 0).drop 0
          rw [← clsE_set _ hjl]
          exact h
        clear M; (try clear C)
        go_roundw
        case rel =>
          refine ⟨k + 1, by omega, by go_num, some ⟨go, 0, none⟩, cv, vs.set j (.slice pp_v2 (cls[j].length + 1) cap_v2), ?_, ?_, ?_⟩
          · rw [HST.out, List.length_modify]
          · rw [HST.out, List.length_modify, List.length_set]; exact hvl
          · rw [HST.out, List.length_modify]; exact M8
        case measure => simp [intOf]; omega
      | none =>
        have hpl : placeOf (fun c => same (c.headD 0) k) cls = -1 := by unfold placeOf; rw [hfi]
        have hst : clsTo same (k + 1) = cls ++ [[k]] := by rw [hstep]; unfold clsStep; rw [hfi]
        have HST := Hid2.mk hst
        rw [hpl] at hK
        have HG := Hid2.mk (show (clsE w.heap.size 2 (vs ++ [.slice none 0 0]) (cls ++ [[]]))[cls.length]? = some (.row w.heap.size (.slice none 0 0) 0 [] 2 1) by rw [clsE_new hvl, List.getElem?_append_right (by rw [clsE_len hvl]; omega), clsE_len hvl, Nat.sub_self]; rfl)
        have HV := Hid2.mk (show (vs ++ [.slice none 0 0])[cls.length]? = some (.slice none 0 0) by rw [← hvl, List.getElem?_append_right (Nat.le_refl _), Nat.sub_self]; rfl)
        have HE := Hid2.mk (clsE_new (B := w.heap.size) (e := 2) hvl (.slice none 0 0) [])
        have hbound : (cls.length : Int) < ((cls.length + 1 : Nat) : Int) := by omega
        have HLE := Hid2.mk hle
        clear hpl hst hfi hstep hgood hsz
        go_wp2_with (first | (refine wpList_load_part rfl 50 _ rfl (g) (k * 101) rfl (sqs q.n q.t) _ und_sqs rfl inf_sqs (HCE.out (by first | exact M.rd 2 rfl | exact M.rd 3 rfl)) ?_) | ((with_reducible apply wpM_alloc' M 50 (sqs 0 fun _ _ => 0)); rfl; exact ⟨rfl, _, zero_sqs _, rfl⟩; clear M; (try clear C); intro bq w9 h_bq M; have C := M.ruleAll; simp only [Go.Proofs.YtocejggobgfccaaGreatDoor.ruleAll] at C) | ((with_reducible apply wpM_sta' M 0 50 (sqs q.n q.t)); rfl; rfl; rfl; rfl; (first | exact .inl (by assumption) | exact .inr rfl | exact .inr (by assumption)); exact ⟨rfl, inf_sqs.trans (congrArg some (sqs_size ..).symm), flat_sqs _ _⟩; (simp only [entCells, List.getElem?_cons_zero, List.getElem?_cons_succ, sqs_size, sqs_size]); clear M; (try clear C); intro w9 M; simp only [List.set_cons_zero, List.set_cons_succ, entBlk, entT, List.getElem?_cons_zero, List.getElem?_cons_succ] at M; have C := M.ruleAll; simp only [Go.Proofs.YtocejggobgfccaaGreatDoor.ruleAll] at C) | (go_at_call 58; ((with_reducible refine (hK _ _ M).mono ?_); rintro e w1 ⟨rfl, hb⟩; have M9 := M.later hb; clear M; (try clear C); have M := M9; clear M9; have C := M.ruleAll; simp only [Go.Proofs.YtocejggobgfccaaGreatDoor.ruleAll] at C)) | ((with_reducible apply wpM_bsl' M 66 1 2 ([(0, .int .i64 (k : Int))]) (#[.int .i64 (k : Int)])); rfl; rfl; rfl; exact bsl_i64 _; clear M; (try clear C); intro bi w9 h_bi M; have C := M.ruleAll; simp only [Go.Proofs.YtocejggobgfccaaGreatDoor.ruleAll] at C) | ((with_reducible apply wpM_bsl' M 74 1 66 ([(0, .slice none 0 0)]) (#[.slice none 0 0])); rfl; rfl; rfl; exact bsl_clsN; clear M; (try clear C); intro bn w9 h_bn M; have C := M.ruleAll; simp only [Go.Proofs.YtocejggobgfccaaGreatDoor.ruleAll] at C) | (((with_reducible apply wpM_app' M 74 5 0 (w.heap.size) (.slice pp cls.length cv) (cls.length) (vs) 66 1 24); rfl; rfl; rfl; rfl; rfl; rfl; rfl; (first | exact .inl (Nat.le_refl _) | exact .inl (by assumption) | exact .inr (by assumption) | exact .inr HDv.out); (first | exact M.size | (have hq := M.size; omega)); exact und_slc; exact inf_elc; rfl; decide; decide; rfl; exact rfl; exact flat_c1 rfl; omega; clear M; (try clear C); intro v2 w9 far_v2 M; simp only [List.set_cons_zero, List.set_cons_succ, entBlk, entT, List.getElem?_cons_zero, List.getElem?_cons_succ] at M; obtain ⟨pp_v2, cap_v2, rfl⟩ := own_form (M.row 5 rfl); have C := M.ruleAll; simp only [Go.Proofs.YtocejggobgfccaaGreatDoor.ruleAll] at C); obtain ⟨go, cq, he9, _, _, _⟩ := own_rds (M.row 5 rfl) (by omega); cases he9; have M7 := ((M.drop 0).nilRow w.heap.size 2 1).perm (show List.Perm _ (.box bq (sqs q.n q.t) 50 :: .box bs #[.func (.func f) #[] #[]] 76 :: .box bl #[.slice (some ⟨g, 0, none⟩) ls.length cap] 29 :: .rd g (ls.length * 101) (fun j => (slC ls).getD j undef) :: .row w.heap.size (.slice (some ⟨go, 0, none⟩) (cls.length + 1) cap_v2) (cls.length + 1) (vs ++ [.slice none 0 0]) 66 1 :: clsE w.heap.size 2 (vs ++ [.slice none 0 0]) (cls ++ [[]])) by rw [HE.out]; exact (List.perm_append_singleton _ (.box bq (sqs q.n q.t) 50 :: .box bs #[.func (.func f) #[] #[]] 76 :: .box bl #[.slice (some ⟨g, 0, none⟩) ls.length cap] 29 :: .rd g (ls.length * 101) (fun j => (slC ls).getD j undef) :: .row w.heap.size (.slice (some ⟨go, 0, none⟩) (cls.length + 1) cap_v2) (cls.length + 1) (vs ++ [.slice none 0 0]) 66 1 :: clsE w.heap.size 2 vs cls)).symm); clear M; (try clear C); have M := M7; clear M7; have hcj : w9.cell? ⟨go, cls.length, none⟩ = some (.slice none 0 0) := by rw [World.ownsRow.cellAt (M.row 4 rfl) cls.length (by omega)]; exact HV.out) | ((with_reducible apply wpM_app' M 66 (cls.length + 6) 0 w.heap.size (.slice none 0 0) (0) ([]) 2 1 8); rfl; exact HG.out; rfl; rfl; rfl; rfl; rfl; exact .inl (Nat.le_refl _); exact M.size; exact und_sli; exact inf_eli; rfl; decide; decide; rfl; rfl; exact flat_c1 rfl; omega; clear M; (try clear C); intro v3 w9 far_v3 M; obtain ⟨pp_v3, cap_v3, rfl⟩ := own_set (i := cls.length + 6) M (show _ = some _ from HG.out); simp only [List.set_cons_zero, List.set_cons_succ, entCells, List.getElem?_cons_zero] at M; have C := M.ruleAll; simp only [Go.Proofs.YtocejggobgfccaaGreatDoor.ruleAll] at C) | ((with_reducible apply wpM_rst' M 5 66 w.heap.size go (cls.length + 1) cap_v2 66 (vs ++ [.slice none 0 0]) (cls.length) (.slice pp_v3 1 cap_v3)); rfl; rfl; rfl; rfl; exact ⟨rfl, rfl, inf_slc⟩; exact .inl (Nat.le_refl _); omega; clear M; (try clear C); intro w9 M; simp only [List.set_cons_zero, List.set_cons_succ] at M; have C := M.ruleAll; simp only [Go.Proofs.YtocejggobgfccaaGreatDoor.ruleAll] at C))
        have M8 : Mm no w w9 (.box bs #[.func (.func f) #[] #[]] 76 :: .box bl #[.slice (some ⟨g, 0, none⟩) ls.length cap] 29 :: .rd g (ls.length * 101) (fun j => (slC ls).getD j undef) :: .row w.heap.size (.slice (some ⟨go, 0, none⟩) (cls.length + 1) cap_v2) (cls.length + 1) (vs ++ [.slice pp_v3 1 cap_v3]) 66 1 :: clsE w.heap.size 2 (vs ++ [.slice pp_v3 1 cap_v3]) (cls ++ [[k]])) := by
          have h := (M.drop 0).drop 0
          rw [← clsE_set_new hvl (.slice none 0 0), ← set_last hvl.symm (.slice none 0 0)]
          exact h
        clear M; (try clear C)
        go_roundw
        case rel =>
          refine ⟨k + 1, by omega, by go_num, some ⟨go, 0, none⟩, cap_v2, vs ++ [.slice pp_v3 1 cap_v3], ?_, ?_, ?_⟩
          · rw [HST.out, List.length_append]; rfl
          · rw [HST.out, List.length_append, List.length_append, hvl]; rfl
          · rw [HST.out, List.length_append]; exact M8
        case measure => simp [intOf]; omega
    · obtain rfl : k = ls.length := by omega
      have hge : ¬ ((ls.length : Int) < (ls.length : Int)) := by omega
      go_wp2
      go_ret
      exact ⟨_, rfl, vs, hvl, ((M.drop 0).drop 0).drop 0⟩
end Go.Proofs.YtocejggobgfccaaGreatDoor

