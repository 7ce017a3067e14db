/- The reference's search for isomorphisms: a contract. -/
import Derived.Test.YthdldlpflieeoaaQ4
import Derived.Test.YthdldlpflieeoaaQ1
import Derived.Test.YthdldlpflieeoaaQ3
import Derived.Test.YthdldlpflieeoaaQ2
namespace Go.Proofs.Ythdldlpflieeoaa
set_option linter.unusedSimpArgs false
set_option linter.unusedVariables false
open Go Go.RowKit

theorem und_slp : Try.prog.underlying 64 = some (.slice 25) := by kernel_rfl
theorem inf_elp : (Try.prog.info? 25).map (fun i => (i.zero, i.size, i.bytes)) = some (some (.agg (bys fun _ => 0)), 10, 10) := by kernel_rfl

theorem bsl_plc (f : Nat → Nat) (w : World) : (Instr.buildSlice 64 1 [(0, Value.agg (bys f))].toArray).run Try.prog w = .ok (.slice (some ⟨w.heap.size, 0, none⟩) 1 1) (w.alloc (.cells (bys f) 25)) := by kernel_rfl
/-- The cells of a list of words. -/
def plCells (l : List (List Nat)) : List Value := l.flatMap fun p => (bys fun i => p.getD i 0).toList
theorem plCells_snoc (l : List (List Nat)) (p : List Nat) : plCells (l ++ [p]) = plCells l ++ (bys fun i => p.getD i 0).toList := by simp [plCells]
theorem bys_word {N : Nat} (m : PM) (h : N ≤ 10) : bys (fun i => (wordOf N m.abs).getD i 0) = bys (plTo m N) := by
  refine bys_ext fun i _ => ?_
  unfold plTo
  by_cases hi : i < N
  · rw [if_pos hi]
    simp only [wordOf, List.getD_eq_getElem?_getD, List.getElem?_map, List.getElem?_range hi, Option.map_some, Option.getD_some]
    unfold PM.abs
    split
    · rename_i h; simp; omega
    · rfl
  · rw [if_neg hi]
    simp [wordOf, List.getD_eq_getElem?_getD, hi]

theorem own_later {w w' : World} {base e size n : Nat} {v : Value} {xs : List Value} (h : w.ownsRow base e size v n xs) (hb : Below w.heap.size w w') : w'.ownsRow base e size v n xs :=
  h.kept (row := none) ⟨hb.os, hb.tape, hb.output, hb.size, fun k hk _ => hb.block k hk⟩ (by cases v.ownBlock <;> simp)
theorem flat_prefix {α : Type} (f : Nat → List α) {y N : Nat} (h : y ≤ N) : ∃ B, (List.range N).flatMap f = (List.range y).flatMap f ++ B := by
  induction N with
  | zero => exact ⟨[], by rw [show y = 0 by omega]; simp⟩
  | succ N ih =>
    by_cases e : y = N + 1
    · exact ⟨[], by rw [e]; simp⟩
    · obtain ⟨B, hB⟩ := ih (by omega)
      exact ⟨B ++ f N, by rw [List.range_succ, List.flatMap_append, hB, List.flatMap_singleton, List.append_assoc]⟩
theorem grown_put (w : World) (b : Nat) (cs : Array Value) (t : Nat) : w.grownBy (World.put w b cs t) (some b) :=
  ⟨rfl, rfl, rfl, by simp [World.put], fun k _ hk => by simp only [World.put]; rw [Array.getElem?_setIfInBounds, if_neg (fun e => hk (by rw [e]))]⟩
theorem own_put {w : World} {base e size n b : Nat} {v : Value} {xs : List Value} (h : w.ownsRow base e size v n xs) (cs : Array Value) (t : Nat) (hb : v.ownBlock ≠ some b) : (World.put w b cs t).ownsRow base e size v n xs :=
  h.kept (grown_put w b cs t) (.inr hb)
theorem new_put (w : World) (cs cs' : Array Value) (t : Nat) (row : Option Nat) : w.grownBy (World.put (w.alloc (.cells cs t)) w.heap.size cs' t) row :=
  ⟨rfl, rfl, rfl, by simp [World.put], fun k hk _ => by
    have e : (w.alloc (.cells cs t)).heap[k]? = w.heap[k]? := by show (w.heap.push _)[k]? = _; rw [Array.getElem?_push, if_neg (by omega)]
    simp only [World.put]; rw [Array.getElem?_setIfInBounds, if_neg (by omega), e]⟩
theorem put_lt (w : World) (cs cs' : Array Value) (t b : Nat) : w.heap.size < (World.put (w.alloc (.cells cs t)) b cs' t).heap.size := by simp [World.put]
/-- The block of a list: the one that it had, or a new one. -/
def FarOr (v' v : Value) (lo : Nat) : Prop := v'.ownBlock = v.ownBlock ∨ ∃ g, v'.ownBlock = some g ∧ lo ≤ g
theorem FarOr.refl (v : Value) (lo : Nat) : FarOr v v lo := .inl rfl
theorem FarOr.ne {v' v : Value} {w : World} {lo b base e size n : Nat} {xs : List Value} (h : FarOr v' v lo) (hv : w.ownsRow base e size v n xs) (hb : w.heap.size ≤ b) (hl : b < lo) : v'.ownBlock ≠ some b := fun e => by
  rcases h with h | ⟨g, h, h2⟩
  · rw [h] at e; have := (hv.lt b e).2; omega
  · rw [h] at e; cases e; omega
theorem FarOr.trans {v'' v' v : Value} {lo lo' : Nat} (h : FarOr v'' v' lo') (k : FarOr v' v lo) (hl : lo ≤ lo') : FarOr v'' v lo := by
  rcases h with h | ⟨g, h, h2⟩
  · rcases k with k | ⟨g, k, k2⟩
    · exact .inl (h.trans k)
    · exact .inr ⟨g, h.trans k, k2⟩
  · exact .inr ⟨g, h, by omega⟩
theorem FarOr.mono {v' v : Value} {lo lo' : Nat} (h : FarOr v' v lo') (hl : lo ≤ lo') : FarOr v' v lo := h.trans (.refl _ _) hl
theorem grown_then {a b c : World} {v v' : Value} {lo : Nat} (h : a.grownBy b v.ownBlock) (k : b.grownBy c v'.ownBlock) (hf : FarOr v' v lo) (hl : a.heap.size ≤ lo) : a.grownBy c v.ownBlock :=
  h.andThen k fun j hj => by
    rcases hf with hf | ⟨g, hf, h2⟩
    · exact .inr (by rw [← hf]; exact hj)
    · rw [hf] at hj; cases hj; exact .inl (by omega)

/-- What the search gives: a list that has been made longer. -/
def Longer (base : Nat) (l : List (List Nat)) (v : Value) (w : World) (e : Ending) (w' : World) : Prop :=
  ∃ v', e = .returned v' ∧ w'.ownsRow base 25 10 v' l.length (plCells l) ∧ w.grownBy w' v.ownBlock ∧ FarOr v' v w.heap.size

set_option maxRecDepth 100000 in
set_option maxHeartbeats 2000000 in
theorem l02Maps_any (N : Nat) (t u : Nat → Nat → Nat) (most base : Nat) (h0 : 1 ≤ N) (h1 : N ≤ 10) (ht : ∀ x y : Nat, x < N → y < N → t x y < N) (hu : ∀ x y : Nat, x < N → y < N → u x y < N) (hmost : most ≤ 1000000) :
    ∀ (K : Nat) (m : PM) (list : List (List Nat)) (v : Value) (w : World), Va N m → Cl N t u m → um m.to N < K → list.length < most → base ≤ w.heap.size → w.ownsRow base 25 10 v list.length (plCells list) →
    Calls Try.prog 253 #[.agg (sqs (N : Int) t), .agg (sqs (N : Int) u), .agg (pms m), .int .i64 (most : Int), v] w (Longer base ((list ++ isos N t u m.abs).take most) v w) := by
  intro K
  induction K with
  | zero => exact fun _ _ _ _ _ _ h => absurd h (by omega)
  | succ K IH0 =>
    intro m list v w hv hcl hK hlen hbase hown
    have IH := Hid2.mk IH0
    clear IH0
    have HT := Hid2.mk ht
    have HU := Hid2.mk hu
    clear ht hu
    have q1 := ((blk_new w (sqs (N : Int) t) 37 w.heap.size rfl).alloc (.cells (sqs (N : Int) u) 37)).alloc (.cells (pms m) 199)
    have q2 := (blk_new (w.alloc (.cells (sqs (N : Int) t) 37)) (sqs (N : Int) u) 37 (w.heap.size + 1) (by simp)).alloc (.cells (pms m) 199)
    have q3 := blk_new ((w.alloc (.cells (sqs (N : Int) t) 37)).alloc (.cells (sqs (N : Int) u) 37)) (pms m) 199 (w.heap.size + 1 + 1) (by simp)
    have qB : Below w.heap.size w (((w.alloc (.cells (sqs (N : Int) t) 37)).alloc (.cells (sqs (N : Int) u) 37)).alloc (.cells (pms m) 199)) := by
      repeat (first | exact Below.refl _ _ | (refine below_alloc ?_ _))
    have qO := ((hown.alloc (.cells (sqs (N : Int) t) 37)).alloc (.cells (sqs (N : Int) u) 37)).alloc (.cells (pms m) 199)
    have hsz := hv.size
    have hul := um_le m.to N
    have c0 := q1.cell 0 _ (sqs_order (N : Int) t)
    have c1 := q3.cell _ _ (pms_sz m)
    by_cases hfull : um m.to N = 0
    · have hs : m.size = (N : Int) := by omega
      rw [hs] at c1
      have hall := um_zero hfull
      have hpl : ∀ i, i < N → 0 ≤ m.to i ∧ m.to i < 10 := fun i hi => ⟨hall i hi, by have := hv.lt i hi; omega⟩
      have hI := isos_full HT.out hv hcl hfull
      go_enter Try.func253, Try.ntmps253
      have hcc := cells_of_blk0 q3
      have hcw := fun w1 => l02Places_any N m w1 h1 hpl
      go_wp2_with (first | (refine wpList_load_part rfl 199 _ rfl (w.heap.size + 1 + 1) (0) rfl (pms m) _ und_l2m rfl inf_l2m (hcc) ?_) | (go_at_call 286; ((with_reducible refine (hcw _).mono ?_); rintro e w1 ⟨rfl, hb⟩; have qO1 := own_later qO hb; have hs1 := hb.size; have hs2 := q3.lt)) | (refine wpList_bsl rfl 64 1 [(0, _)] rfl [(0, .agg (bys (plTo m N)))] rfl _ _ (bsl_plc _ _) ?_) | (refine wpList_app1 rfl _ _ 64 rfl base 25 (.agg (bys fun _ => 0)) 10 10 und_slp inf_elp rfl (by decide) (by decide) _ _ _ rfl (qO1.alloc _) _ rfl _ (blk_new _ _ _ _ rfl) rfl (flat_bys _) (by omega) (by simp; omega) ?_; intro v2 w2 hown2 hg2 hat2))
      go_ret
      have hl : (list ++ [wordOf N m.abs]).take most = list ++ [wordOf N m.abs] := List.take_of_length_le (by simp; omega)
      refine ⟨v2, rfl, ?_, (grown_below qB _).trans ((grown_below hb _).trans ((World.grownBy_alloc _ _ _).trans hg2)), ?_⟩
      · rw [hl, plCells_snoc, bys_word m h1]; simpa using hown2
      · rcases hat2 with h | h
        · exact .inl h
        · exact .inr ⟨_, h, by simp; omega⟩
    · have hz := zero_l2m
      have hs : m.size ≠ (N : Int) := by omega
      obtain ⟨sz, hsz1⟩ : ∃ sz : Nat, m.size = sz := ⟨N - um m.to N, by omega⟩
      have hsN : ¬ ((sz : Int) = (N : Int)) := by omega
      rw [hsz1] at c1
      obtain ⟨x, hx, hx0, hxm⟩ := um_pos hfull
      have HV := Hid2.mk (own_form hown)
      have hI := isos_first (t := t) (u := u) hx hxm hx0
      have hgw := grown_below qB v.ownBlock
      have hlt3 := q3.lt
      have hbs : w.heap.size ≤ ((((w.alloc (.cells (sqs (N : Int) t) 37)).alloc (.cells (sqs (N : Int) u) 37)).alloc (.cells (pms m) 199))).heap.size := by simp; omega
      go_enter Try.func253, Try.ntmps253
      go_wp2
      go_loopw [11] (fun i wr => ∃ k : Nat, k ≤ x ∧ i = .int .i64 (k : Int) ∧ w.grownBy wr v.ownBlock ∧ w.heap.size + 1 + 1 < wr.heap.size ∧ blk wr w.heap.size (sqs (N : Int) t) 37 ∧ blk wr (w.heap.size + 1) (sqs (N : Int) u) 37 ∧ blk wr (w.heap.size + 1 + 1) (pms m) 199 ∧ wr.ownsRow base 25 10 v list.length (plCells list)) (fun i _ => x - (intOf i).toNat)
      case atStart => exact ⟨0, by omega, rfl, hgw, hlt3, q1, q2, q3, qO⟩
      case round =>
        obtain ⟨k, hk, rfl, hg, hlt, b1, b2, b3, bO⟩ := hrel
        clear hgw hlt3 q1 q2 q3 qO c0 c1
        have c1 := b3.cell _ _ (pms_to m (i := k) (by omega))
        by_cases hkx : k < x
        · have hk0 := hxm k hkx
          go_wp2
          go_roundw
          case rel => exact ⟨k + 1, by omega, by go_num, hg, hlt, b1, b2, b3, bO⟩
          case measure => simp [intOf]; omega
        · obtain rfl : k = x := by omega
          have hk0 : ¬ (0 ≤ m.to k) := by omega
          go_wp2
          go_loopw [4, 12, 13, 14] (fun vl i _ _ wr => ∃ (y : Nat) (list' : List (List Nat)) (pp : Option Addr) (cap : Nat), y ≤ N ∧ i = .int .i64 (y : Int) ∧ vl = .slice pp list'.length cap ∧ w.grownBy wr v.ownBlock ∧ w.heap.size + 1 + 1 < wr.heap.size ∧ blk wr w.heap.size (sqs (N : Int) t) 37 ∧ blk wr (w.heap.size + 1) (sqs (N : Int) u) 37 ∧ blk wr (w.heap.size + 1 + 1) (pms m) 199 ∧ wr.ownsRow base 25 10 vl list'.length (plCells list') ∧ FarOr vl v (w.heap.size + 1 + 1 + 1) ∧ list' = (list ++ (List.range y).flatMap fun y => isos N t u (upd m.abs k y)).take most) (fun _ i _ _ _ => N - (intOf i).toNat)
          case atStart =>
            obtain ⟨p0, cap0, hv0⟩ := HV.out
            exact ⟨0, list, p0, cap0, by omega, rfl, hv0, hg, hlt, b1, b2, b3, bO, .refl _ _, by rw [List.range_zero, List.flatMap_nil, List.append_nil, List.take_of_length_le (by omega)]⟩
          case round =>
            obtain ⟨y, list', pp, cap, hy, rfl, rfl, hg2, hlt2, d1, d2, d3, dO, hfar, hlist⟩ := hrel
            clear hg hlt b1 b2 b3 bO c1
            have c0 := d1.cell 0 _ (sqs_order (N : Int) t)
            have hvl := dO.lt
            have HL := Hid2.mk hlist
            clear hlist
            by_cases hyN : y < N
            · have hyN' : (y : Int) < (N : Int) := by omega
              by_cases hll : list'.length < most
              · have hll' : (list'.length : Int) < (most : Int) := by omega
                have hdy : decide ((y : Int) < (N : Int)) = true := by simp; omega
                have hdl : decide ((list'.length : Int) < (most : Int)) = true := by simp; omega
                have c2 := d3.cell _ _ (pms_used m (i := y) (by omega))
                by_cases hus : 0 < m.used y
                · have hnil := isos_used (t := t) (u := u) hv hx hyN hx0 hus
                  go_wp2
                  go_roundw
                  case rel => exact ⟨y + 1, list', pp, cap, by omega, by go_num, rfl, hg2, hlt2, d1, d2, d3, dO, hfar, by rw [HL.out, List.range_succ, List.flatMap_append, List.flatMap_singleton, hnil, List.append_nil]⟩
                  case measure => simp [intOf]; omega
                · have hus' : m.used y ≤ 0 := by omega
                  have hC := closeF_closes HT.out HU.out (K + 1) m k y hv hx hyN hK
                  have hcC := fun w1 => l02Close_any N t u h0 h1 HT.out HU.out (K + 1) m k y w1 hv hx hyN hK
                  have hcM := IH.out
                  generalize hR : closeF N t u (K + 1) m k y = R at hC hcC
                  have hfn : ∀ b, w.heap.size ≤ b → b < w.heap.size + 1 + 1 + 1 → (Value.slice pp list'.length cap).ownBlock ≠ some b := fun b h h2 => hfar.ne hown h h2
                  obtain ⟨wo, rfl⟩ : ∃ wo : World, wo = wr := ⟨_, rfl⟩
                  have hfb : ∀ b, wo.heap.size ≤ b → (Value.slice pp list'.length cap).ownBlock ≠ some b := fun b h e => by have := (hvl b e).2; omega
                  have hwo : w.heap.size ≤ wo.heap.size := by omega
                  cases h2 : R.2 with
                  | false =>
                    have hnil := isos_failed hx hx0 hC h2
                    go_wp2_with (first | (refine wpList_load_part rfl 37 _ rfl (w.heap.size) (0) rfl (sqs (N : Int) t) _ und_sqs rfl inf_sqs (cells_of_blk0 d1) ?_) | (refine wpList_load_part rfl 37 _ rfl (w.heap.size + 1) (0) rfl (sqs (N : Int) u) _ und_sqs rfl inf_sqs (cells_of_blk0 d2) ?_) | (refine wpList_load_part rfl 199 _ rfl (w.heap.size + 1 + 1) (0) rfl (pms m) _ und_l2m rfl inf_l2m (cells_of_blk0 d3) ?_) | (go_at_call 287; ((with_reducible refine (hcC _).mono ?_); rintro e w3 ⟨rfl, hb⟩; have hs3 := hb.size; have p1 := blk_put_other ((d1.later hb).alloc (.cells (pms ⟨fun _ => 0, fun _ => 0, 0⟩) 199)) (c := w3.heap.size) (cs' := pms R.1) (t' := 199) (by omega); have p2 := blk_put_other ((d2.later hb).alloc (.cells (pms ⟨fun _ => 0, fun _ => 0, 0⟩) 199)) (c := w3.heap.size) (cs' := pms R.1) (t' := 199) (by omega); have p3 := blk_put_other ((d3.later hb).alloc (.cells (pms ⟨fun _ => 0, fun _ => 0, 0⟩) 199)) (c := w3.heap.size) (cs' := pms R.1) (t' := 199) (by omega); have p4 := blk_put (blk_new w3 (pms ⟨fun _ => 0, fun _ => 0, 0⟩) 199 w3.heap.size rfl) (cs' := pms R.1) 199; have pO := own_put ((own_later dO hb).alloc (.cells (pms ⟨fun _ => 0, fun _ => 0, 0⟩) 199)) (pms R.1) 199 (hfb w3.heap.size hs3); have pG := (hg2.trans (grown_below hb _)).trans (new_put w3 (pms ⟨fun _ => 0, fun _ => 0, 0⟩) (pms R.1) 199 _); have pS : w3.heap.size < (World.put (w3.alloc (.cells (pms ⟨fun _ => 0, fun _ => 0, 0⟩) 199)) w3.heap.size (pms R.1) 199).heap.size := put_lt w3 _ _ _ _; have pB := Nat.le_trans (show base ≤ w3.heap.size by omega) (Nat.le_of_lt pS))) | (refine wpList_store_row rfl 199 _ _ rfl _ rfl _ rfl inf_l2m _ _ (blk_new _ _ _ _ (by simp)) (by simp [pms_size]) (flat_pms _) ?_))
                    go_roundw
                    case rel => exact ⟨y + 1, list', pp, cap, by omega, by go_num, rfl, pG, Nat.lt_trans (show w.heap.size + 1 + 1 < w3.heap.size by omega) pS, p1, p2, p3, pO, hfar, by rw [HL.out, List.range_succ, List.flatMap_append, List.flatMap_singleton, hnil, List.append_nil]⟩
                    case measure => simp [intOf]; omega
                  | true =>
                    have hnew := isos_closed hx hx0 hC h2
                    have hvR := hC.va h2
                    have hclR := closed_cl HT.out hcl hC h2
                    have humR := closed_um hx hx0 hC h2
                    have hcM2 := fun w1 hb1 ho => hcM R.1 list' (.slice pp list'.length cap) w1 hvR hclR (by omega) hll hb1 ho
                    clear hcM
                    go_wp2_with (first | (refine wpList_load_part rfl 199 _ rfl (w3.heap.size) (0) rfl (pms R.1) _ und_l2m rfl inf_l2m (cells_of_blk0 p4) ?_) | (refine wpList_load_part rfl 37 _ rfl (w.heap.size) (0) rfl (sqs (N : Int) t) _ und_sqs rfl inf_sqs (cells_of_blk0 p1) ?_) | (refine wpList_load_part rfl 37 _ rfl (w.heap.size + 1) (0) rfl (sqs (N : Int) u) _ und_sqs rfl inf_sqs (cells_of_blk0 p2) ?_) | (refine wpList_load_part rfl 37 _ rfl (w.heap.size) (0) rfl (sqs (N : Int) t) _ und_sqs rfl inf_sqs (cells_of_blk0 d1) ?_) | (refine wpList_load_part rfl 37 _ rfl (w.heap.size + 1) (0) rfl (sqs (N : Int) u) _ und_sqs rfl inf_sqs (cells_of_blk0 d2) ?_) | (refine wpList_load_part rfl 199 _ rfl (w.heap.size + 1 + 1) (0) rfl (pms m) _ und_l2m rfl inf_l2m (cells_of_blk0 d3) ?_) | (go_at_call 287; ((with_reducible refine (hcC _).mono ?_); rintro e w3 ⟨rfl, hb⟩; have hs3 := hb.size; have p1 := blk_put_other ((d1.later hb).alloc (.cells (pms ⟨fun _ => 0, fun _ => 0, 0⟩) 199)) (c := w3.heap.size) (cs' := pms R.1) (t' := 199) (by omega); have p2 := blk_put_other ((d2.later hb).alloc (.cells (pms ⟨fun _ => 0, fun _ => 0, 0⟩) 199)) (c := w3.heap.size) (cs' := pms R.1) (t' := 199) (by omega); have p3 := blk_put_other ((d3.later hb).alloc (.cells (pms ⟨fun _ => 0, fun _ => 0, 0⟩) 199)) (c := w3.heap.size) (cs' := pms R.1) (t' := 199) (by omega); have p4 := blk_put (blk_new w3 (pms ⟨fun _ => 0, fun _ => 0, 0⟩) 199 w3.heap.size rfl) (cs' := pms R.1) 199; have pO := own_put ((own_later dO hb).alloc (.cells (pms ⟨fun _ => 0, fun _ => 0, 0⟩) 199)) (pms R.1) 199 (hfb w3.heap.size hs3); have pG := (hg2.trans (grown_below hb _)).trans (new_put w3 (pms ⟨fun _ => 0, fun _ => 0, 0⟩) (pms R.1) 199 _); have pS : w3.heap.size < (World.put (w3.alloc (.cells (pms ⟨fun _ => 0, fun _ => 0, 0⟩) 199)) w3.heap.size (pms R.1) 199).heap.size := put_lt w3 _ _ _ _; have pB := Nat.le_trans (show base ≤ w3.heap.size by omega) (Nat.le_of_lt pS))) | (refine wpList_store_row rfl 199 _ _ rfl _ rfl _ rfl inf_l2m _ _ (blk_new _ _ _ _ (by simp)) (by simp [pms_size]) (flat_pms _) ?_) | (go_at_call 253; ((with_reducible refine (hcM2 _ pB pO).mono ?_); rintro e w4 ⟨v', rfl, hO3, hg3, hf3⟩)))
                    go_roundw
                    case rel =>
                      obtain ⟨p3', cap3, hv3⟩ := own_form hO3
                      exact ⟨y + 1, _, p3', cap3, by omega, by go_num, hv3, grown_then pG hg3 hfar (by omega), Nat.lt_of_lt_of_le (Nat.lt_trans (show w.heap.size + 1 + 1 < w3.heap.size by omega) pS) hg3.size, p1.grown hg3 (hfn _ (by omega) (by omega)).symm, p2.grown hg3 (hfn _ (by omega) (by omega)).symm, p3.grown hg3 (hfn _ (by omega) (by omega)).symm, hO3, hf3.trans hfar (Nat.le_trans (show w.heap.size + 1 + 1 + 1 ≤ w3.heap.size by omega) (Nat.le_of_lt pS)), by rw [← hnew, HL.out, take_step, List.append_assoc, List.range_succ, List.flatMap_append, List.flatMap_singleton]⟩
                    case measure => simp [intOf]; omega
              · have hge : most ≤ list'.length := by omega
                have hdy : decide ((y : Int) < (N : Int)) = true := by simp; omega
                have hdl : decide ((list'.length : Int) < (most : Int)) = false := by simp; omega
                go_wp2
                go_ret
                have hl2 : (list ++ isos N t u m.abs).take most = list' := by
                  obtain ⟨Bq, hBq⟩ := flat_prefix (fun y => isos N t u (upd m.abs k y)) hy
                  rw [hI, hBq, ← List.append_assoc, HL.out]
                  exact take_grow (by rw [← HL.out]; have := congrArg List.length HL.out; rw [List.length_take] at this; omega)
                rw [hl2]
                exact ⟨_, rfl, dO, hg2, hfar.mono (by omega)⟩
            · obtain rfl : y = N := by omega
              have hdy : decide ((y : Int) < (y : Int)) = false := by simp
              go_wp2
              go_ret
              have hl2 : (list ++ isos y t u m.abs).take most = list' := by rw [hI, HL.out]
              rw [hl2]
              exact ⟨_, rfl, dO, hg2, hfar.mono (by omega)⟩
end Go.Proofs.Ythdldlpflieeoaa

/- All isomorphisms, for the reference: a contract. -/
namespace Go.Proofs.Ythdldlpflieeoaa
set_option linter.unusedSimpArgs false
set_option linter.unusedVariables false
open Go Go.RowKit

set_option maxRecDepth 100000 in
set_option maxHeartbeats 1000000 in
theorem l02All_any (N : Nat) (t u : Nat → Nat → Nat) (most : Nat) (w : World) (h0 : 1 ≤ N) (h1 : N ≤ 10) (ht : ∀ x y : Nat, x < N → y < N → t x y < N) (hu : ∀ x y : Nat, x < N → y < N → u x y < N) (hm0 : 0 < most) (hmost : most ≤ 1000000) :
    Calls Try.prog 167 #[.agg (sqs (N : Int) t), .agg (sqs (N : Int) u), .int .i64 (most : Int)] w fun e w' =>
      ∃ v', e = .returned v' ∧ w'.ownsRow w.heap.size 25 10 v' ((isos N t u fun _ => none).take most).length (plCells ((isos N t u fun _ => none).take most)) ∧ Below w.heap.size w w' := by
  have hM := fun w1 hb1 => l02Maps_any N t u most w.heap.size h0 h1 ht hu hmost (N + 1) PM.zero [] (.slice none 0 0) w1 (zero_va N) (zero_cl N t u) (by have := um_le PM.zero.to N; omega) hm0 hb1 (World.ownsRow_nil _ _ _ _)
  rw [show PM.abs PM.zero = fun _ => none from rfl] at hM
  simp only [List.nil_append] at hM
  generalize (isos N t u fun _ => none).take most = l at hM
  have hM := Hid2.mk hM
  have q1 := (blk_new w (sqs (N : Int) t) 37 w.heap.size rfl).alloc (.cells (sqs (N : Int) u) 37)
  have q2 := blk_new (w.alloc (.cells (sqs (N : Int) t) 37)) (sqs (N : Int) u) 37 (w.heap.size + 1) (by simp)
  have qB : Below w.heap.size w ((w.alloc (.cells (sqs (N : Int) t) 37)).alloc (.cells (sqs (N : Int) u) 37)) := by
    repeat (first | exact Below.refl _ _ | (refine below_alloc ?_ _))
  have c1 := q1.cell 0 _ (sqs_order (N : Int) t)
  have c2 := q2.cell 0 _ (sqs_order (N : Int) u)
  go_enter Try.func167, Try.ntmps167
  go_wp2
  apply wp_region_text_tail 4 (fun w' => Below w.heap.size w w' ∧ blk w' w.heap.size (sqs (N : Int) t) 37 ∧ blk w' (w.heap.size + 1) (sqs (N : Int) u) 37) (by kernel_rfl) (by kernel_rfl) (⟨qB.drew, q1.drew, q2.drew⟩); (simp only [List.take_succ_cons, List.take_zero]; repeat (first | exact wpText_nil | (apply wpText_cons; (intro w2 hS; obtain ⟨hB2, d1, d2⟩ := hS; go_wp2_with (first | (refine wpList_load_part rfl 37 _ rfl (w.heap.size) (0) rfl (sqs (N : Int) t) _ und_sqs rfl inf_sqs (cells_of_blk0 d1) ?_) | (refine wpList_load_part rfl 37 _ rfl (w.heap.size + 1) (0) rfl (sqs (N : Int) u) _ und_sqs rfl inf_sqs (cells_of_blk0 d2) ?_) | (go_at_call 254; ((with_reducible refine (l02Start_any _).mono ?_); rintro e w3 ⟨rfl, hb⟩))); (first | exact ⟨rfl, rfl, hB2, d1, d2⟩ | exact ⟨rfl, rfl, below_self hB2 hb, d1.later hb, d2.later hb⟩)); rfl)))
  (intro w2 hS; simp only [List.drop_succ_cons, List.drop_zero]; obtain ⟨hB4, d1, d2⟩ := hS)
  go_wp2_with (first | (go_at_call 253; ((with_reducible refine (hM.out _ hB4.size).mono ?_); rintro e w3 ⟨v', rfl, hO, hg, hf⟩)))
  go_ret
  exact ⟨v', rfl, hO, hB4.grown hg hB4.size fun k h => by simp [Value.ownBlock] at h⟩
end Go.Proofs.Ythdldlpflieeoaa

/- The source of a code; drawn triples: contracts. -/
namespace Go.Proofs.Ythdldlpflieeoaa
set_option linter.unusedSimpArgs false
set_option linter.unusedVariables false
open Go Go.RowKit

theorem build_srcX (v : Value) (n : Int) (w : World) (h : ∃ p k c, v = .slice p k c) : (Instr.build 192 #[(0, v), (2, .int .u64 n)]).run Try.prog w = .ok (.agg #[v, .int .i64 0, .int .u64 n]) w := by
  obtain ⟨p, k, c, rfl⟩ := h
  kernel_rfl
/-- What a draw's source is made of. -/
def FromC (f : Nat) (l : List Nat) (p : Option Addr) (c : Nat) : Prop :=
  ∀ (w0 w : World) (L : List Ent) (i : Nat), L[i]? = some (Ent.cd l.length p (cdF l)) → Mm no w0 w L → Calls Try.prog f #[.slice p l.length c] w fun e w' => ∃ b, e = .returned (.pointer (some ⟨b, 0, none⟩)) ∧ w0.heap.size ≤ b ∧ Mm no w0 w' (Ent.sv b p l.length c :: L)
set_option maxRecDepth 100000 in
set_option maxHeartbeats 4000000 in
theorem l01From_any (l : List Nat) (hb : Byts l) (hl : l.length ≤ 4096) (p : Option Addr) (c : Nat) : FromC 130 l p c := fun w0 w L i hi M => by
  have HB := Hid2.mk hb
  clear hb
  have hw0 := wrap_rng (7351 + (l.length : Int))
  have hl2 : (l.length : Int) ≤ 4096 := by omega
  go_enter Try.func130, Try.ntmps130
  go_wp2_with (first | (refine wpList_build 192 _ rfl rfl [(0, .slice p l.length c), (2, .int .u64 (7351 + (l.length : Int)))] rfl _ (build_srcX _ _ _ ⟨_, _, _, rfl⟩) ?_) | ((with_reducible apply wpM_box' M 192 (srcV p l.length c 0 (7351 + (l.length : Int)))); rfl; exact ⟨rfl, rfl⟩; clear M; (try clear C); intro b3 w9 h_b3 M; have C := M.ruleAll; simp only [Go.Proofs.Ythdldlpflieeoaa.ruleAll] at C))
  go_loopw [4] (fun v wr => ∃ (k : Nat) (h : Int), k ≤ l.length ∧ (0 ≤ h ∧ h < 18446744073709551616) ∧ v = .int .i64 (k : Int) ∧ Mm no w0 wr (.box b3 (srcV p l.length c 0 h) 192 :: L)) (fun v _ => l.length - (intOf v).toNat)
  case atStart => exact ⟨0, _, by omega, by omega, rfl, M⟩
  case round =>
    obtain ⟨k, h, hk, hh, rfl, M9⟩ := hrel
    clear M; (try clear C)
    have M := M9
    clear M9 hw0
    have C := M.ruleAll; simp only [Go.Proofs.Ythdldlpflieeoaa.ruleAll] at C
    have j2 : (srcV p l.length c 0 h)[2]? = some (.int .u64 h) := rfl
    by_cases hlt : k < l.length
    · have hlt' : (k : Int) < (l.length : Int) := by omega
      have hk4 : (k : Int) < 4096 := by omega
      have dlt : decide ((k : Int) < (l.length : Int)) = true := decide_eq_true hlt'
      have hba : l.getD k 0 < 256 := by
        rw [List.getD_eq_getElem?_getD, List.getElem?_eq_getElem hlt]; exact HB.out _ (List.getElem_mem hlt)
      obtain ⟨bc, off, rfl, hbc, -⟩ := rdp_in M (i + 1) (by rw [List.getElem?_cons_succ]; exact hi) (by omega)
      have HCL := Hid2.mk (fun (w2 : World) (M2 : Mm no w0 w2 (.box b3 (srcV (some ⟨bc, off, none⟩) l.length c 0 h) 192 :: L)) => (show w2.cell? ⟨bc, off + k, none⟩ = some (.int .u8 ((l.getD k 0 : Nat) : Int)) by
        obtain ⟨b', o', e, _, hc⟩ := rdp_in M2 (i + 1) (by rw [List.getElem?_cons_succ]; exact hi) (by omega)
        cases e
        exact hc k hlt))
      generalize l.getD k 0 = y at *
      obtain ⟨V, hV⟩ : ∃ V, IntKind.u64.wrap (IntKind.u64.wrap (IntKind.u64.wrap (h * 1099511628211) + (y : Int)) + 19) = V := ⟨_, rfl⟩
      have hVr := wrap_rng (IntKind.u64.wrap (IntKind.u64.wrap (h * 1099511628211) + (y : Int)) + 19)
      rw [hV] at hVr
      have HV := Hid2.mk hV
      clear hV
      go_wp2
      (apply wp_region_mm M 13 (by kernel_rfl) (by kernel_rfl); (simp only [List.take_succ_cons, List.take_zero]; repeat (first | exact wpText_nil | (apply wpText_cons; (intro w2 M; have C := M.ruleAll; simp only [Go.Proofs.Ythdldlpflieeoaa.ruleAll] at C; have hcl := HCL.out w2 M; go_wp2; exact ⟨rfl, rfl, M⟩); rfl))); (clear M; (try clear C); intro w2 M; simp only [List.drop_succ_cons, List.drop_zero]; have C := M.ruleAll; simp only [Go.Proofs.Ythdldlpflieeoaa.ruleAll] at C))
      go_wp2_with (first | ((with_reducible apply wpM_st' M 0 190 (2) (srcV (some ⟨bc, off, none⟩) l.length c 0 V)); rfl; rfl; rfl; (first | exact .inl (by assumption) | exact .inr rfl | exact .inr (by assumption)); exact ⟨rfl, rfl, by kernel_rfl⟩; (exact Nat.lt_of_lt_of_eq (by omega) (srcV_size ..).symm); exact (by rw [HV.out]; rfl); clear M; (try clear C); intro w9 M; simp only [List.set_cons_zero, List.set_cons_succ, entBlk, entT, List.getElem?_cons_zero, List.getElem?_cons_succ] at M; have C := M.ruleAll; simp only [Go.Proofs.Ythdldlpflieeoaa.ruleAll] at C))
      go_roundw
      case rel => exact ⟨k + 1, V, by omega, hVr, by go_num, M⟩
      case measure => simp [intOf]; omega
    · have hlt' : ¬ (k : Int) < (l.length : Int) := by omega
      have dlt : decide ((k : Int) < (l.length : Int)) = false := decide_eq_false hlt'
      go_wp2
      go_ret
      exact ⟨b3, rfl, by assumption, M.shutSv (by omega) hh⟩
end Go.Proofs.Ythdldlpflieeoaa

/- Drawn triples, and what is drawn for isotopes: contracts. Printed by gen/x16.py. -/
namespace Go.Proofs.Ythdldlpflieeoaa
set_option linter.unusedSimpArgs false
set_option linter.unusedVariables false
open Go Go.RowKit

/-! ### Results of several kinds -/
/-- What a result's place holds. -/
def ResV (P : Program) (w : World) (tmps : Array Value) : ResultVar → Value → Prop
  | .tmp t, v => tmps.getD t undef = v
  | .cell a t, v => ∃ ad, tmps.getD a undef = .pointer (some ad) ∧ (loadVar t ad).run P w = .ok v w
theorem results_two {P : Program} {fn : Func} {r1 r2 : ResultVar} (h : fn.results = #[r1, r2]) {tmps : Array Value} {w : World} {v1 v2 : Value} (h1 : ResV P w tmps r1 v1) (h2 : ResV P w tmps r2 v2) : (results fn tmps).run P w = .ok (.tuple #[v1, v2]) w := by
  cases r1 with
  | tmp t1 =>
    have e1 : tmps[t1]?.getD undef = v1 := by simpa [ResV] using h1
    cases r2 with
    | tmp t2 =>
      have e2 : tmps[t2]?.getD undef = v2 := by simpa [ResV] using h2
      simp [results, h, e1, e2]
    | cell a2 t2 =>
      obtain ⟨ad2, e2, f2⟩ := h2
      have e2 : tmps[a2]?.getD undef = .pointer (some ad2) := by simpa using e2
      simp [results, h, e1, e2, asAddr, f2]
  | cell a1 t1 =>
    obtain ⟨ad1, e1, f1⟩ := h1
    have e1 : tmps[a1]?.getD undef = .pointer (some ad1) := by simpa using e1
    cases r2 with
    | tmp t2 =>
      have e2 : tmps[t2]?.getD undef = v2 := by simpa [ResV] using h2
      simp [results, h, e1, e2, asAddr, f1]
    | cell a2 t2 =>
      obtain ⟨ad2, e2, f2⟩ := h2
      have e2 : tmps[a2]?.getD undef = .pointer (some ad2) := by simpa using e2
      simp [results, h, e1, e2, asAddr, f1, f2]
theorem results_three {P : Program} {fn : Func} {r1 r2 r3 : ResultVar} (h : fn.results = #[r1, r2, r3]) {tmps : Array Value} {w : World} {v1 v2 v3 : Value} (h1 : ResV P w tmps r1 v1) (h2 : ResV P w tmps r2 v2) (h3 : ResV P w tmps r3 v3) : (results fn tmps).run P w = .ok (.tuple #[v1, v2, v3]) w := by
  have key : ∀ {r : ResultVar} {v : Value}, ResV P w tmps r v → (∃ t, r = .tmp t ∧ tmps[t]?.getD undef = v) ∨ (∃ a t ad, r = .cell a t ∧ tmps[a]?.getD undef = .pointer (some ad) ∧ (loadVar t ad).run P w = .ok v w) := fun {r v} hr => by
    cases r with
    | tmp t => exact .inl ⟨t, rfl, by simpa [ResV] using hr⟩
    | cell a t =>
      obtain ⟨ad, e, f⟩ := hr
      exact .inr ⟨a, t, ad, rfl, by simpa using e, f⟩
  rcases key h1 with ⟨t1, rfl, e1⟩ | ⟨a1, t1, ad1, rfl, e1, f1⟩ <;> rcases key h2 with ⟨t2, rfl, e2⟩ | ⟨a2, t2, ad2, rfl, e2, f2⟩ <;> rcases key h3 with ⟨t3, rfl, e3⟩ | ⟨a3, t3, ad3, rfl, e3, f3⟩ <;> simp [results, asAddr, *]
theorem ResV.cell {P : Program} {w : World} {tmps : Array Value} {a : Tmp} {ty : TypeId} {b : Nat} {cs : Array Value} {u : Nat} {d : TypeDesc} (hp : tmps.getD a undef = .pointer (some ⟨b, 0, none⟩)) (hu : P.underlying ty = some d) (hd : (match d with | .struct _ | .array _ _ => true | _ => false) = true) (hi : (P.info? ty).map (·.size) = some cs.size) (hb : blk w b cs u) : ResV P w tmps (.cell a ty) (.agg cs) :=
  ⟨_, hp, run_load_part w b 0 ty cs d hu hd hi (cells_of_blk0 hb)⟩
theorem trs_set2 {f g h : Nat → Nat} {i v : Nat} (hi : i < 10) : (trs f g h).setIfInBounds (10 + i) (.int .u8 (v : Int)) = trs f (fun j => if j = i then v else g j) h := by
  unfold trs
  rw [tab_set]
  refine tab_ext fun j hj => ?_
  by_cases e : j = 10 + i
  · rw [if_pos e, if_neg (by omega), if_pos (by omega)]
    dsimp only
    rw [if_pos (by omega)]
  · rw [if_neg e]
    by_cases c1 : j < 10
    · rw [if_pos c1, if_pos c1]
    · rw [if_neg c1, if_neg c1]
      by_cases c2 : j < 20
      · rw [if_pos c2, if_pos c2]
        dsimp only
        rw [if_neg (by omega)]
      · rw [if_neg c2, if_neg c2]
theorem IsPm.byt {n : Int} {p : Nat → Nat} (h : IsPm n p) : Byt p := ⟨fun i hi => by
  by_cases c : (i : Int) < n
  · have := h.lt i hi c; have := h.hi; omega
  · rw [h.zero i hi (by omega)]; decide⟩
/-- Three lists of bytes. -/
def TrQ (v : Value) : Prop := ∃ f g h : Nat → Nat, v = .agg (trs f g h) ∧ Byt f ∧ Byt g ∧ Byt h

theorem build_trpX (f g h : Nat → Nat) (w : World) : (Instr.build 46 #[(0, .agg (bys f)), (1, .agg (bys g)), (2, .agg (bys h))]).run Try.prog w = .ok (.agg (trs f g h)) w := by kernel_rfl
set_option maxRecDepth 100000 in
set_option maxHeartbeats 4000000 in
theorem l02Draw_dc (l : List Nat) (hb : Byts l) (hl : l.length ≤ 4096) (b c : Nat) (p : Option Addr) (N : Nat) (h0 : 1 ≤ N) (h1 : N ≤ 10) : DrawC 156 #[.pointer (some ⟨b, 0, none⟩), .int .i64 (N : Int)] l b p c TrQ := fun w0 w X hbb M => by
  have HX := Hid2.mk (fun n => next_dc l hb hl b c p n)
  have HPL := Hid2.mk (fun N h0 h1 => places_dc l hb hl b c p N h0 h1)
  clear hb hl
  have C := M.ruleAll; simp only [Go.Proofs.Ythdldlpflieeoaa.ruleAll] at C
  go_enter Try.func156, Try.ntmps156
  go_wp2_with (first | ((fail_if_success have := h_b4); ((with_reducible apply wpM_alloc' M 46 (trs (fun _ => 0) (fun _ => 0) (fun _ => 0))); rfl; exact ⟨rfl, _, zero_trp _, rfl⟩; clear M; (try clear C); intro b4 w9 h_b4 M; have C := M.ruleAll; simp only [Go.Proofs.Ythdldlpflieeoaa.ruleAll] at C)) | ((with_reducible apply wpM_alloc' M 46 (trs (fun _ => 0) (fun _ => 0) (fun _ => 0))); rfl; exact ⟨rfl, _, zero_trp _, rfl⟩; clear M; (try clear C); intro b5 w9 h_b5 M; have C := M.ruleAll; simp only [Go.Proofs.Ythdldlpflieeoaa.ruleAll] at C) | ((fail_if_success have := hf); (go_at_call 133; ((with_reducible refine ((HPL.out N h0 h1).at M 1 2 hbb rfl rfl rfl).mono ?_); rintro e w3 ⟨_, rfl, ⟨f, rfl, hf⟩, M9⟩; clear M; (try clear C); have M := M9; clear M9; have C := M.ruleAll; simp only [Go.Proofs.Ythdldlpflieeoaa.ruleAll] at C))) | ((fail_if_success have := hg); (go_at_call 133; ((with_reducible refine ((HPL.out N h0 h1).at M 1 2 hbb rfl rfl rfl).mono ?_); rintro e w3 ⟨_, rfl, ⟨g, rfl, hg⟩, M9⟩; clear M; (try clear C); have M := M9; clear M9; have C := M.ruleAll; simp only [Go.Proofs.Ythdldlpflieeoaa.ruleAll] at C))) | ((fail_if_success have := hh); (go_at_call 133; ((with_reducible refine ((HPL.out N h0 h1).at M 1 2 hbb rfl rfl rfl).mono ?_); rintro e w3 ⟨_, rfl, ⟨h, rfl, hh⟩, M9⟩; clear M; (try clear C); have M := M9; clear M9; have C := M.ruleAll; simp only [Go.Proofs.Ythdldlpflieeoaa.ruleAll] at C))) | (refine wpList_build 46 _ rfl rfl [(0, .agg (bys f)), (1, .agg (bys g)), (2, .agg (bys h))] rfl _ (build_trpX _ _ _ _) ?_) | ((with_reducible apply wpM_sta' M 0 46 (trs f g h)); rfl; rfl; rfl; rfl; (first | exact .inl (by assumption) | exact .inr rfl | exact .inr (by assumption)); exact ⟨rfl, inf_trp.trans (congrArg some (trs_size ..).symm), flat_trs _ _ _⟩; (simp only [entCells, List.getElem?_cons_zero, List.getElem?_cons_succ, trs_size, trs_size]); clear M; (try clear C); intro w9 M; simp only [List.set_cons_zero, List.set_cons_succ, entBlk, entT, List.getElem?_cons_zero, List.getElem?_cons_succ] at M; have C := M.ruleAll; simp only [Go.Proofs.Ythdldlpflieeoaa.ruleAll] at C) | (go_at_call 132; fail))
  (with_reducible refine ((HX.out 30).at M 2 3 hbb rfl rfl rfl).mono ?_); rintro e w4 ⟨_, rfl, ⟨x, rfl, hx⟩, M9⟩; clear M; (try clear C); have M := M9; clear M9; have C := M.ruleAll; simp only [Go.Proofs.Ythdldlpflieeoaa.ruleAll] at C
  have HF := Hid2.mk hf.byt
  have HG := Hid2.mk hg.byt
  have HH := Hid2.mk hh.byt
  by_cases hx0 : x = 0
  · subst hx0
    obtain ⟨M1, hM1⟩ : ∃ M1 : Nat, N = M1 + 1 := ⟨N - 1, by omega⟩
    have hsub : (N : Int) - 1 = (M1 : Int) := by omega
    have hM10 : (M1 : Int) < 10 := by omega
    have e1 := trs_get2 (f := f) (g := g) (h := h) (i := M1) (by omega)
    have hgm : g M1 < 10 := by have := hg.toPm.lt M1 (by omega); omega
    go_wp2
    refine wp_region_calm 10 (fun w' => Mm no w0 w' (.box b5 (trs f g h) 46 :: .box b4 (trs (fun _ => 0) (fun _ => 0) (fun _ => 0)) 46 :: Ent.sv b p l.length c :: Ent.cd l.length p (cdF l) :: X)) (fun j => ([fun v => v = Value.int .i64 (N : Int), fun v => v = Value.int .i64 (M1 : Int), fun v => v = Value.pointer (some ⟨b5, 10, none⟩), fun v => v = Value.pointer (some ⟨b5, 10 + M1, none⟩), fun v => v = Value.int .u8 (g M1 : Int), fun v => v = Value.pointer (some ⟨b, 0, none⟩), NxU 2, BxU 2, BxU 256, fun v => v = Value.pointer (some ⟨b5, 10, none⟩)] : List (Value → Prop)).getD j fun _ => True) (by kernel_rfl) (by kernel_rfl) (by kernel_rfl) (fun j hj => match j, hj with | 0, _ => ⟨_, rfl⟩ | 1, _ => ⟨_, rfl⟩ | 2, _ => ⟨_, rfl⟩ | 3, _ => ⟨_, rfl⟩ | 4, _ => ⟨_, rfl⟩ | 5, _ => ⟨_, rfl⟩ | 6, _ => ⟨_, 0, rfl, by omega⟩ | 7, _ => ⟨_, 0, rfl, by omega⟩ | 8, _ => ⟨_, 0, rfl, by omega⟩ | 9, _ => ⟨_, rfl⟩ | j + 10, h => absurd h (by omega)) M.drew ?_; (simp only [List.take_succ_cons, List.take_zero, List.drop_succ_cons, List.drop_zero]); clear M; (try clear C); refine wpU_cons (by intro w2 M; have C := M.ruleAll; simp only [Go.Proofs.Ythdldlpflieeoaa.ruleAll] at C; refine yield_walk (ops := #[]) (by exact rfl) (by exact rfl) (by exact Nat.le_of_ble_eq_true rfl) ?_; go_wp2; all_goals (first | done | exact ⟨rfl, M⟩ | exact M)) ?_; rintro _ rfl; (simp only [Act.put, List.setIfInBounds_toArray, List.set_cons_succ, List.set_cons_zero]); refine wpU_cons (by intro w2 M; have C := M.ruleAll; simp only [Go.Proofs.Ythdldlpflieeoaa.ruleAll] at C; refine yield_walk (ops := #[]) (by exact rfl) (by exact rfl) (by exact Nat.le_of_ble_eq_true rfl) ?_; go_wp2; all_goals (first | done | exact ⟨rfl, M⟩ | exact M)) ?_; rintro _ rfl; (simp only [Act.put, List.setIfInBounds_toArray, List.set_cons_succ, List.set_cons_zero]); refine wpU_cons (by intro w2 M; have C := M.ruleAll; simp only [Go.Proofs.Ythdldlpflieeoaa.ruleAll] at C; refine yield_walk (ops := #[]) (by exact rfl) (by exact rfl) (by exact Nat.le_of_ble_eq_true rfl) ?_; go_wp2; all_goals (first | done | exact ⟨rfl, M⟩ | exact M)) ?_; rintro _ rfl; (simp only [Act.put, List.setIfInBounds_toArray, List.set_cons_succ, List.set_cons_zero]); refine wpU_cons (by intro w2 M; have C := M.ruleAll; simp only [Go.Proofs.Ythdldlpflieeoaa.ruleAll] at C; refine yield_walk (ops := #[]) (by exact rfl) (by exact rfl) (by exact Nat.le_of_ble_eq_true rfl) ?_; go_wp2; all_goals (first | done | exact ⟨rfl, M⟩ | exact M)) ?_; rintro _ rfl; (simp only [Act.put, List.setIfInBounds_toArray, List.set_cons_succ, List.set_cons_zero]); refine wpU_cons (by intro w2 M; have C := M.ruleAll; simp only [Go.Proofs.Ythdldlpflieeoaa.ruleAll] at C; refine yield_walk (ops := #[]) (by exact rfl) (by exact rfl) (by exact Nat.le_of_ble_eq_true rfl) ?_; go_wp2; all_goals (first | done | exact ⟨rfl, M⟩ | exact M)) ?_; rintro _ rfl; (simp only [Act.put, List.setIfInBounds_toArray, List.set_cons_succ, List.set_cons_zero]); refine wpU_cons (by intro w2 M; have C := M.ruleAll; simp only [Go.Proofs.Ythdldlpflieeoaa.ruleAll] at C; refine yield_walk (ops := #[]) (by exact rfl) (by exact rfl) (by exact Nat.le_of_ble_eq_true rfl) ?_; go_wp2; all_goals (first | done | exact ⟨rfl, M⟩ | exact M)) ?_; rintro _ rfl; (simp only [Act.put, List.setIfInBounds_toArray, List.set_cons_succ, List.set_cons_zero]); refine wpU_cons (by intro w2 M; have C := M.ruleAll; simp only [Go.Proofs.Ythdldlpflieeoaa.ruleAll] at C; refine yield_walk (ops := #[]) (by exact rfl) (by exact rfl) (by exact Nat.le_of_ble_eq_true rfl) ?_; go_wp2_with (first | (go_at_call 132; ((with_reducible refine ((HX.out _).at M 2 3 hbb rfl rfl rfl).mono ?_); rintro e w3 ⟨_, rfl, ⟨x, rfl, hx⟩, M9⟩; clear M; (try clear C); have M := M9; clear M9; have C := M.ruleAll; simp only [Go.Proofs.Ythdldlpflieeoaa.ruleAll] at C))); all_goals (first | done | exact ⟨_, rfl, by omega⟩ | exact M)) ?_; rintro _ ⟨x1, rfl, hx1⟩; (simp only [Act.put, List.setIfInBounds_toArray, List.set_cons_succ, List.set_cons_zero]); refine wpU_cons (by intro w2 M; have C := M.ruleAll; simp only [Go.Proofs.Ythdldlpflieeoaa.ruleAll] at C; refine yield_walk (ops := #[]) (by exact rfl) (by exact rfl) (by exact Nat.le_of_ble_eq_true rfl) ?_; go_wp2; all_goals (first | done | exact ⟨_, rfl, by omega⟩ | exact M)) ?_; rintro _ ⟨y1, rfl, hy1⟩; (simp only [Act.put, List.setIfInBounds_toArray, List.set_cons_succ, List.set_cons_zero]); refine wpU_cons (by intro w2 M; have C := M.ruleAll; simp only [Go.Proofs.Ythdldlpflieeoaa.ruleAll] at C; refine yield_walk (ops := #[]) (by exact rfl) (by exact rfl) (by exact Nat.le_of_ble_eq_true rfl) ?_; go_wp2; all_goals (first | done | exact ⟨g M1 + y1, by simp, by omega⟩ | exact M)) ?_; rintro _ ⟨z1, rfl, hz1⟩; (simp only [Act.put, List.setIfInBounds_toArray, List.set_cons_succ, List.set_cons_zero]); refine wpU_cons (by intro w2 M; have C := M.ruleAll; simp only [Go.Proofs.Ythdldlpflieeoaa.ruleAll] at C; refine yield_walk (ops := #[]) (by exact rfl) (by exact rfl) (by exact Nat.le_of_ble_eq_true rfl) ?_; go_wp2; all_goals (first | done | exact ⟨rfl, M⟩ | exact M)) ?_; rintro _ rfl; (simp only [Act.put, List.setIfInBounds_toArray, List.set_cons_succ, List.set_cons_zero]); refine wpU_nil ?_; intro w2 M; have C := M.ruleAll; simp only [Go.Proofs.Ythdldlpflieeoaa.ruleAll] at C
    have HST := Hid2.mk (trs_set2 (f := f) (g := g) (h := h) (i := 0) (v := z1) (by omega))
    go_wp2_with (first | ((with_reducible apply wpM_st' M 0 5 (10 + 0) (trs f (fun j => if j = 0 then z1 else g j) h)); rfl; rfl; rfl; (first | exact .inl (by assumption) | exact .inr rfl | exact .inr (by assumption)); exact ⟨rfl, rfl, by kernel_rfl⟩; (exact Nat.lt_of_lt_of_eq (by omega) (trs_size _ _ _).symm); exact HST.out; clear M; (try clear C); intro w9 M; simp only [List.set_cons_zero, List.set_cons_succ, entBlk, entT, List.getElem?_cons_zero, List.getElem?_cons_succ] at M; have C := M.ruleAll; simp only [Go.Proofs.Ythdldlpflieeoaa.ruleAll] at C) | ((with_reducible apply wpM_lda' M 0 46 0 (trs f (fun j => if j = 0 then z1 else g j) h)); rfl; rfl; rfl; exact ⟨rfl, inf_trp.trans (congrArg some (trs_size ..).symm), _, und_trp, rfl⟩; exact whole_of rfl) | ((with_reducible apply wpM_sta' M 1 46 (trs f (fun j => if j = 0 then z1 else g j) h)); rfl; rfl; rfl; rfl; (first | exact .inl (by assumption) | exact .inr rfl | exact .inr (by assumption)); exact ⟨rfl, inf_trp.trans (congrArg some (trs_size ..).symm), flat_trs _ _ _⟩; (simp only [entCells, List.getElem?_cons_zero, List.getElem?_cons_succ, trs_size, trs_size]); clear M; (try clear C); intro w9 M; simp only [List.set_cons_zero, List.set_cons_succ, entBlk, entT, List.getElem?_cons_zero, List.getElem?_cons_succ] at M; have C := M.ruleAll; simp only [Go.Proofs.Ythdldlpflieeoaa.ruleAll] at C))
    refine bodyPost_ret (v := .agg (trs f (fun j => if j = 0 then z1 else g j) h)) (by exact results_part rfl _ _ _ _ _ _ rfl und_trp rfl inf_trp (cells_of_blk0 (M.box 1 rfl))) rfl ?_
    refine ⟨_, rfl, ⟨_, _, _, rfl, HF.out, ⟨fun i hi => ?_⟩, HH.out⟩, (M.drop 0).drop 0⟩
    show (if i = 0 then z1 else g i) < 256
    split
    · exact hz1
    · exact HG.out.at_ i hi
  · have hx0' : ((x : Int) == 0) = false := by simp; omega
    go_wp2_with (first | ((with_reducible apply wpM_lda' M 0 46 0 (trs f g h)); rfl; rfl; rfl; exact ⟨rfl, inf_trp.trans (congrArg some (trs_size ..).symm), _, und_trp, rfl⟩; exact whole_of rfl) | ((with_reducible apply wpM_sta' M 1 46 (trs f g h)); rfl; rfl; rfl; rfl; (first | exact .inl (by assumption) | exact .inr rfl | exact .inr (by assumption)); exact ⟨rfl, inf_trp.trans (congrArg some (trs_size ..).symm), flat_trs _ _ _⟩; (simp only [entCells, List.getElem?_cons_zero, List.getElem?_cons_succ, trs_size, trs_size]); clear M; (try clear C); intro w9 M; simp only [List.set_cons_zero, List.set_cons_succ, entBlk, entT, List.getElem?_cons_zero, List.getElem?_cons_succ] at M; have C := M.ruleAll; simp only [Go.Proofs.Ythdldlpflieeoaa.ruleAll] at C))
    refine bodyPost_ret (v := .agg (trs f g h)) (by exact results_part rfl _ _ _ _ _ _ rfl und_trp rfl inf_trp (cells_of_blk0 (M.box 1 rfl))) rfl ?_
    exact ⟨_, rfl, ⟨_, _, _, rfl, HF.out, HG.out, HH.out⟩, (M.drop 0).drop 0⟩

theorem bsl_i6 (a b c d e f : Int) (w : World) : (Instr.buildSlice 85 6 #[(0, .int .i64 a), (1, .int .i64 b), (2, .int .i64 c), (3, .int .i64 d), (4, .int .i64 e), (5, .int .i64 f)]).run Try.prog w = .ok (.slice (some ⟨w.heap.size, 0, none⟩) 6 6) (w.alloc (.cells (i64V [a, b, c, d, e, f]) 2)) := by kernel_rfl
def OrQ (v : Value) : Prop := ∃ N : Nat, v = .int .i64 (N : Int) ∧ 1 ≤ N ∧ N ≤ 10
set_option maxRecDepth 100000 in
set_option maxHeartbeats 4000000 in
theorem l02Order_dc (l : List Nat) (hb : Byts l) (hl : l.length ≤ 4096) (b c : Nat) (p : Option Addr) : DrawC 160 #[.pointer (some ⟨b, 0, none⟩)] l b p c OrQ := fun w0 w X hbb M => by
  have HP := Hid2.mk (@pick_at l hb hl b c p)
  clear hb hl
  have C := M.ruleAll; simp only [Go.Proofs.Ythdldlpflieeoaa.ruleAll] at C
  go_enter Try.func160, Try.ntmps160
  go_wp2_with (first | ((with_reducible apply wpM_bsl' M 85 6 2 ([(0, .int .i64 1), (1, .int .i64 2), (2, .int .i64 3), (3, .int .i64 5), (4, .int .i64 8), (5, .int .i64 10)]) (i64V [1, 2, 3, 5, 8, 10])); rfl; rfl; rfl; exact bsl_i6 _ _ _ _ _ _; clear M; (try clear C); intro bp w9 h_bp M; have C := M.ruleAll; simp only [Go.Proofs.Ythdldlpflieeoaa.ruleAll] at C) | (go_at_call 145; ((refine (HP.out M 1 2 0 hbb (by decide) rfl rfl rfl (by simp) (by simp)).mono ?_); rintro e w9 ⟨z, rfl, hz, M9⟩; clear M; (try clear C); have M := M9; clear M9; simp only [List.mem_cons, List.not_mem_nil, or_false] at hz; have C := M.ruleAll; simp only [Go.Proofs.Ythdldlpflieeoaa.ruleAll] at C)))
  go_ret
  exact ⟨_, rfl, ⟨z.toNat, by rcases hz with rfl | rfl | rfl | rfl | rfl | rfl <;> rfl, by rcases hz with rfl | rfl | rfl | rfl | rfl | rfl <;> decide, by rcases hz with rfl | rfl | rfl | rfl | rfl | rfl <;> decide⟩, M.drop 0⟩
end Go.Proofs.Ythdldlpflieeoaa

/- Rows of words, read one by one. -/
namespace Go.Proofs.Ythdldlpflieeoaa
set_option linter.unusedSimpArgs false
set_option linter.unusedVariables false
open Go Go.RowKit

/-- A word as a function. -/
def wf (p : List Nat) (i : Nat) : Nat := p.getD i 0
theorem plCells_len : ∀ l : List (List Nat), (plCells l).length = l.length * 10
  | [] => rfl
  | p :: l => by
    have ih := plCells_len l
    unfold plCells at *
    rw [List.flatMap_cons, List.length_append, ih, Array.length_toList, bys_size, List.length_cons]; omega
theorem plCells_get : ∀ (l : List (List Nat)) {k j : Nat} (hk : k < l.length), j < 10 → (plCells l)[k * 10 + j]? = some (.int .u8 (l[k].getD j 0 : Nat))
  | [], _, _, hk, _ => absurd hk (by simp)
  | p :: l, 0, j, hk, hj => by
    unfold plCells
    rw [List.flatMap_cons, List.getElem?_append_left (by rw [Array.length_toList, bys_size]; omega), Array.getElem?_toList, Nat.zero_mul, Nat.zero_add, bys_get hj]
    rfl
  | p :: l, k + 1, j, hk, hj => by
    have ih := plCells_get l (k := k) (j := j) (by simpa using hk) hj
    unfold plCells at *
    rw [List.flatMap_cons, List.getElem?_append_right (by rw [Array.length_toList, bys_size]; omega), Array.length_toList, bys_size, show (k + 1) * 10 + j - 10 = k * 10 + j by omega, ih]
    rfl
theorem plc_cells {w : World} {g : Nat} {P : List (List Nat)} (h : rds w g (P.length * 10) (fun j => (plCells P).getD j undef)) {k : Nat} (hk : k < P.length) : ∀ j v, (bys fun i => P[k].getD i 0)[j]? = some v → w.cell? ⟨g, k * 10 + j, none⟩ = some v := by
  intro j v hv
  obtain ⟨hj, rfl⟩ := tab_get_some hv
  rw [h.at_ (k * 10 + j) (by omega), List.getD_eq_getElem?_getD, plCells_get P hk hj]
  rfl
theorem own_mono {w : World} {base base' e size n : Nat} {v : Value} {xs : List Value} (h : w.ownsRow base e size v n xs) (hb : base' ≤ base) : w.ownsRow base' e size v n xs := by
  rcases h.2 with h2 | ⟨g, cap, cur, h1, h2, h3⟩
  · exact ⟨h.1, .inl h2⟩
  · exact ⟨h.1, .inr ⟨g, cap, cur, h1, Nat.le_trans hb h2, h3⟩⟩
end Go.Proofs.Ythdldlpflieeoaa

/- What is drawn for isotopes: contracts. Printed by gen/x17.py. -/
namespace Go.Proofs.Ythdldlpflieeoaa
set_option linter.unusedSimpArgs false
set_option linter.unusedVariables false
open Go Go.RowKit

/-- What is drawn out of a code. -/
def TopC (f : Nat) (l : List Nat) (p : Option Addr) (c : Nat) (Q : Value → Prop) : Prop :=
  ∀ (w0 w : World) (X : List Ent), Mm no w0 w (Ent.cd l.length p (cdF l) :: X) → Calls Try.prog f #[.slice p l.length c] w fun e w' => ∃ v, e = .returned v ∧ Q v ∧ Mm no w0 w' (Ent.cd l.length p (cdF l) :: X)
theorem TopC.at {f : Nat} {l : List Nat} {p : Option Addr} {c : Nat} {Q : Value → Prop} (h : TopC f l p c Q) {w0 w : World} {L : List Ent} (M : Mm no w0 w L) (i : Nat) (hi : L[i]? = some (Ent.cd l.length p (cdF l))) :
    Calls Try.prog f #[.slice p l.length c] w fun e w' => ∃ v, e = .returned v ∧ Q v ∧ Mm no w0 w' L := by
  obtain ⟨X, M1, hX⟩ := M.pulls (xs := [Ent.cd l.length p (cdF l)]) [i] (by simp) (by intro j hj; rw [List.mem_singleton.1 hj, hi]; rfl) (by simp only [List.filterMap_cons, List.filterMap_nil, hi])
  refine (h w0 w X M1).mono ?_
  rintro e w' ⟨v, rfl, hq, M'⟩
  exact ⟨v, rfl, hq, hX w' M'⟩
theorem FromC.at {f : Nat} {l : List Nat} {p : Option Addr} {c : Nat} (h : FromC f l p c) {w0 w : World} {L : List Ent} (M : Mm no w0 w L) (i : Nat) (hi : L[i]? = some (Ent.cd l.length p (cdF l))) :
    Calls Try.prog f #[.slice p l.length c] w fun e w' => ∃ b, e = .returned (.pointer (some ⟨b, 0, none⟩)) ∧ w0.heap.size ≤ b ∧ Mm no w0 w' (Ent.sv b p l.length c :: L) := h w0 w L i hi M
/-- A row that is not empty is read. -/
theorem Mm.rowRdX {D : Nat → Prop} {w0 w : World} {L : List Ent} (M : Mm D w0 w L) (i : Nat) {B n e size : Nat} {v : Value} {xs : List Value} (hi : L[i]? = some (.row B v n xs e size)) (hn : 0 < n * size) :
    ∃ g cap, v = .slice (some ⟨g, 0, none⟩) n cap ∧ B ≤ g ∧ Mm D w0 w (L.set i (.rd g (n * size) fun j => xs.getD j undef)) := by
  obtain ⟨g, cap, rfl, hB, ho, hr⟩ := own_rds (M.row i hi) hn
  refine ⟨g, cap, rfl, hB, M.set i hi (.refl no w) (fun _ h => h.elim) (fun _ _ h => h.elim) (y := .rd g (n * size) fun j => xs.getD j undef) hr fun k h => .inl ?_⟩
  cases h; exact ho
/-- A number of at most 10. -/
def MnU (v : Value) : Prop := ∃ m : Int, v = .int .i64 m ∧ m ≤ 10

/-- A square and a triple, perhaps. -/
def StQ (v : Value) : Prop := ∃ (n : Int) (t : Nat → Nat → Nat) (f g h : Nat → Nat), v = .tuple #[.agg (sqs n t), .agg (trs f g h)] ∧ -1 ≤ n ∧ n ≤ 11 ∧ Byt2 t ∧ Byt f ∧ Byt g ∧ Byt h

set_option maxRecDepth 100000 in
set_option maxHeartbeats 4000000 in
theorem drawIsotopeOf_tc (l : List Nat) (hb : Byts l) (hl : l.length ≤ 4096) (p : Option Addr) (c : Nat) : TopC 32 l p c StQ := fun w0 w X M => by
  have HFR := Hid2.mk (l01From_any l hb hl p c)
  have HSP := Hid2.mk (fun b => spoil_dc l hb hl b c p)
  have HTD := Hid2.mk (fun b N h0 h1 => l02Draw_dc l hb hl b c p N h0 h1)
  clear hb hl
  have C := M.ruleAll; simp only [Go.Proofs.Ythdldlpflieeoaa.ruleAll] at C
  go_enter Try.func32, Try.ntmps32
  have BY0 : Byt (fun _ => 0) := ⟨fun _ _ => by decide⟩
  go_wp2_with (first | ((fail_if_success have := h_b2); ((with_reducible apply wpM_alloc' M 37 (sqs 0 fun _ _ => 0)); rfl; exact ⟨rfl, _, zero_sqs _, rfl⟩; clear M; (try clear C); intro b2 w9 h_b2 M; have C := M.ruleAll; simp only [Go.Proofs.Ythdldlpflieeoaa.ruleAll] at C)) | ((with_reducible apply wpM_alloc' M 46 (trs (fun _ => 0) (fun _ => 0) (fun _ => 0))); rfl; exact ⟨rfl, _, zero_trp _, rfl⟩; clear M; (try clear C); intro b3 w9 h_b3 M; have C := M.ruleAll; simp only [Go.Proofs.Ythdldlpflieeoaa.ruleAll] at C) | ((fail_if_success have := hbb); (go_at_call 130; ((with_reducible refine (HFR.out.at M 2 rfl).mono ?_); rintro e w2 ⟨b, rfl, hbb, M9⟩; clear M; (try clear C); have M := M9; clear M9; have C := M.ruleAll; simp only [Go.Proofs.Ythdldlpflieeoaa.ruleAll] at C))) | (go_at_call 142; ((with_reducible refine ((HSP.out b).at M 0 3 hbb rfl rfl rfl).mono ?_); rintro e w3 ⟨_, rfl, ⟨n, t, rfl, hn0, hn1, ht⟩, M9⟩; clear M; (try clear C); have M := M9; clear M9; have C := M.ruleAll; simp only [Go.Proofs.Ythdldlpflieeoaa.ruleAll] at C)) | ((fail_if_success have := h_b5); ((with_reducible apply wpM_alloc' M 37 (sqs 0 fun _ _ => 0)); rfl; exact ⟨rfl, _, zero_sqs _, rfl⟩; clear M; (try clear C); intro b5 w9 h_b5 M; have C := M.ruleAll; simp only [Go.Proofs.Ythdldlpflieeoaa.ruleAll] at C)) | ((with_reducible apply wpM_sta' M 0 37 (sqs n t)); rfl; rfl; rfl; rfl; (first | exact .inl (by assumption) | exact .inr rfl | exact .inr (by assumption)); exact ⟨rfl, inf_sqs.trans (congrArg some (sqs_size ..).symm), flat_sqs _ _⟩; (simp only [entCells, List.getElem?_cons_zero, List.getElem?_cons_succ, sqs_size, sqs_size]); clear M; (try clear C); intro w9 M; simp only [List.set_cons_zero, List.set_cons_succ, entBlk, entT, List.getElem?_cons_zero, List.getElem?_cons_succ] at M; have C := M.ruleAll; simp only [Go.Proofs.Ythdldlpflieeoaa.ruleAll] at C))
  have so := sqs_order n t
  refine wp_region_calm 7 (fun w' => Mm no w0 w' (Ent.box b5 (sqs n t) 37 :: Ent.sv b p l.length c :: Ent.box b3 (trs (fun _ => 0) (fun _ => 0) (fun _ => 0)) 46 :: Ent.box b2 (sqs 0 fun _ _ => 0) 37 :: Ent.cd l.length p (cdF l) :: X)) (fun j => ([fun v => v = Value.agg (sqs n t), fun v => v = Value.pointer (some ⟨b, 0, none⟩), fun v => v = Value.pointer (some ⟨b5, 0, none⟩), fun v => v = Value.int .i64 n, MnU, OrQ, TrQ] : List (Value → Prop)).getD j fun _ => True) (by kernel_rfl) (by kernel_rfl) (by kernel_rfl) (fun j hj => match j, hj with | 0, _ => ⟨_, rfl⟩ | 1, _ => ⟨_, rfl⟩ | 2, _ => ⟨_, rfl⟩ | 3, _ => ⟨_, rfl⟩ | 4, _ => ⟨_, 0, rfl, by omega⟩ | 5, _ => ⟨_, 1, rfl, by omega, by omega⟩ | 6, _ => ⟨_, _, _, _, rfl, BY0, BY0, BY0⟩ | j + 7, h => absurd h (by omega)) M.drew ?_; (simp only [List.take_succ_cons, List.take_zero, List.drop_succ_cons, List.drop_zero]); clear M; (try clear C); refine wpU_cons (by intro w2 M; have C := M.ruleAll; simp only [Go.Proofs.Ythdldlpflieeoaa.ruleAll] at C; refine yield_walk (ops := #[]) (by exact rfl) (by exact rfl) (by exact Nat.le_of_ble_eq_true rfl) ?_; go_wp2_with (first | ((with_reducible apply wpM_lda' M 0 37 0 (sqs n t)); rfl; rfl; rfl; exact ⟨rfl, inf_sqs.trans (congrArg some (sqs_size ..).symm), _, und_sqs, rfl⟩; exact whole_of rfl)); all_goals (first | done | exact ⟨rfl, M⟩ | exact M)) ?_; rintro _ rfl; (simp only [Act.put, List.setIfInBounds_toArray, List.set_cons_succ, List.set_cons_zero]); refine wpU_cons (by intro w2 M; have C := M.ruleAll; simp only [Go.Proofs.Ythdldlpflieeoaa.ruleAll] at C; refine yield_walk (ops := #[]) (by exact rfl) (by exact rfl) (by exact Nat.le_of_ble_eq_true rfl) ?_; go_wp2; all_goals (first | done | exact ⟨rfl, M⟩ | exact M)) ?_; rintro _ rfl; (simp only [Act.put, List.setIfInBounds_toArray, List.set_cons_succ, List.set_cons_zero]); refine wpU_cons (by intro w2 M; have C := M.ruleAll; simp only [Go.Proofs.Ythdldlpflieeoaa.ruleAll] at C; refine yield_walk (ops := #[]) (by exact rfl) (by exact rfl) (by exact Nat.le_of_ble_eq_true rfl) ?_; go_wp2; all_goals (first | done | exact ⟨rfl, M⟩ | exact M)) ?_; rintro _ rfl; (simp only [Act.put, List.setIfInBounds_toArray, List.set_cons_succ, List.set_cons_zero]); refine wpU_cons (by intro w2 M; have C := M.ruleAll; simp only [Go.Proofs.Ythdldlpflieeoaa.ruleAll] at C; refine yield_walk (ops := #[]) (by exact rfl) (by exact rfl) (by exact Nat.le_of_ble_eq_true rfl) ?_; go_wp2; all_goals (first | done | exact ⟨rfl, M⟩ | exact M)) ?_; rintro _ rfl; (simp only [Act.put, List.setIfInBounds_toArray, List.set_cons_succ, List.set_cons_zero]); refine wpU_cons (by intro w2 M; have C := M.ruleAll; simp only [Go.Proofs.Ythdldlpflieeoaa.ruleAll] at C; refine yield_walk (ops := #[]) (by exact rfl) (by exact rfl) (by exact Nat.le_of_ble_eq_true rfl) ?_; go_wp2; all_goals (first | done | exact ⟨_, rfl, by first | omega | (split <;> omega)⟩ | exact M)) ?_; rintro _ ⟨m, rfl, hm⟩; (simp only [Act.put, List.setIfInBounds_toArray, List.set_cons_succ, List.set_cons_zero]); refine wpU_cons (by intro w2 M; have C := M.ruleAll; simp only [Go.Proofs.Ythdldlpflieeoaa.ruleAll] at C; refine yield_walk (ops := #[]) (by exact rfl) (by exact rfl) (by exact Nat.le_of_ble_eq_true rfl) ?_; go_wp2; all_goals (first | done | exact ⟨(max 1 m).toNat, by first | (congr 1; omega) | (split <;> congr 1 <;> omega), by omega, by omega⟩ | exact M)) ?_; rintro _ ⟨K, rfl, hK0, hK1⟩; (simp only [Act.put, List.setIfInBounds_toArray, List.set_cons_succ, List.set_cons_zero]); refine wpU_cons (by intro w2 M; have C := M.ruleAll; simp only [Go.Proofs.Ythdldlpflieeoaa.ruleAll] at C; refine yield_walk (ops := #[]) (by exact rfl) (by exact rfl) (by exact Nat.le_of_ble_eq_true rfl) ?_; go_wp2_with (first | (go_at_call 156; ((with_reducible refine ((HTD.out b K hK0 hK1).at M 1 4 hbb rfl rfl rfl).mono ?_); rintro e w3 ⟨_, rfl, ⟨f, g, h, rfl, hf, hg, hh⟩, M9⟩; clear M; (try clear C); have M := M9; clear M9; have C := M.ruleAll; simp only [Go.Proofs.Ythdldlpflieeoaa.ruleAll] at C))); all_goals (first | done | exact ⟨_, _, _, rfl, hf, hg, hh⟩ | exact M)) ?_; rintro _ ⟨f, g, h, rfl, hf, hg, hh⟩; (simp only [Act.put, List.setIfInBounds_toArray, List.set_cons_succ, List.set_cons_zero]); refine wpU_nil ?_; intro w2 M; have C := M.ruleAll; simp only [Go.Proofs.Ythdldlpflieeoaa.ruleAll] at C
  go_wp2_with (first | ((with_reducible apply wpM_sta' M 3 37 (sqs n t)); rfl; rfl; rfl; rfl; (first | exact .inl (by assumption) | exact .inr rfl | exact .inr (by assumption)); exact ⟨rfl, inf_sqs.trans (congrArg some (sqs_size ..).symm), flat_sqs _ _⟩; (simp only [entCells, List.getElem?_cons_zero, List.getElem?_cons_succ, sqs_size, sqs_size]); clear M; (try clear C); intro w9 M; simp only [List.set_cons_zero, List.set_cons_succ, entBlk, entT, List.getElem?_cons_zero, List.getElem?_cons_succ] at M; have C := M.ruleAll; simp only [Go.Proofs.Ythdldlpflieeoaa.ruleAll] at C) | ((with_reducible apply wpM_sta' M 2 46 (trs f g h)); rfl; rfl; rfl; rfl; (first | exact .inl (by assumption) | exact .inr rfl | exact .inr (by assumption)); exact ⟨rfl, inf_trp.trans (congrArg some (trs_size ..).symm), flat_trs _ _ _⟩; (simp only [entCells, List.getElem?_cons_zero, List.getElem?_cons_succ, trs_size, trs_size]); clear M; (try clear C); intro w9 M; simp only [List.set_cons_zero, List.set_cons_succ, entBlk, entT, List.getElem?_cons_zero, List.getElem?_cons_succ] at M; have C := M.ruleAll; simp only [Go.Proofs.Ythdldlpflieeoaa.ruleAll] at C))
  refine bodyPost_ret (v := .tuple #[.agg (sqs n t), .agg (trs f g h)]) (by exact results_two rfl (by exact ResV.cell rfl und_sqs rfl inf_sqs (M.box 3 rfl)) (by exact ResV.cell rfl und_trp rfl inf_trp (M.box 2 rfl))) rfl ?_
  exact ⟨_, rfl, ⟨n, t, f, g, h, rfl, hn0, hn1, ht, hf, hg, hh⟩, (((M.drop 0).drop 0).drop 0).drop 0⟩

/-- Two triples and their order. -/
def TtQ (v : Value) : Prop := ∃ (N : Nat) (f g h p q r : Nat → Nat), v = .tuple #[.agg (trs f g h), .agg (trs p q r), .int .i64 (N : Int)] ∧ 1 ≤ N ∧ N ≤ 10 ∧ Byt f ∧ Byt g ∧ Byt h ∧ Byt p ∧ Byt q ∧ Byt r
/-- A triple and its order. -/
def TnQ (v : Value) : Prop := ∃ (n : Int) (f g h : Nat → Nat), v = .tuple #[.agg (trs f g h), .int .i64 n] ∧ 1 ≤ n ∧ n ≤ 11 ∧ Byt f ∧ Byt g ∧ Byt h

set_option maxRecDepth 100000 in
set_option maxHeartbeats 4000000 in
theorem drawThenTriples_tc (l : List Nat) (hb : Byts l) (hl : l.length ≤ 4096) (p : Option Addr) (c : Nat) : TopC 35 l p c TtQ := fun w0 w X M => by
  have HFR := Hid2.mk (l01From_any l hb hl p c)
  have HOD := Hid2.mk (fun b => l02Order_dc l hb hl b c p)
  have HTD := Hid2.mk (fun b N h0 h1 => l02Draw_dc l hb hl b c p N h0 h1)
  clear hb hl
  have C := M.ruleAll; simp only [Go.Proofs.Ythdldlpflieeoaa.ruleAll] at C
  go_enter Try.func35, Try.ntmps35
  go_wp2_with (first | ((fail_if_success have := h_b2); ((with_reducible apply wpM_alloc' M 46 (trs (fun _ => 0) (fun _ => 0) (fun _ => 0))); rfl; exact ⟨rfl, _, zero_trp _, rfl⟩; clear M; (try clear C); intro b2 w9 h_b2 M; have C := M.ruleAll; simp only [Go.Proofs.Ythdldlpflieeoaa.ruleAll] at C)) | ((with_reducible apply wpM_alloc' M 46 (trs (fun _ => 0) (fun _ => 0) (fun _ => 0))); rfl; exact ⟨rfl, _, zero_trp _, rfl⟩; clear M; (try clear C); intro b3 w9 h_b3 M; have C := M.ruleAll; simp only [Go.Proofs.Ythdldlpflieeoaa.ruleAll] at C) | (go_at_call 130; ((with_reducible refine (HFR.out.at M 2 rfl).mono ?_); rintro e w2 ⟨b, rfl, hbb, M9⟩; clear M; (try clear C); have M := M9; clear M9; have C := M.ruleAll; simp only [Go.Proofs.Ythdldlpflieeoaa.ruleAll] at C)) | (go_at_call 160; ((with_reducible refine ((HOD.out b).at M 0 3 hbb rfl rfl rfl).mono ?_); rintro e w3 ⟨_, rfl, ⟨N, rfl, h0, h1⟩, M9⟩; clear M; (try clear C); have M := M9; clear M9; have C := M.ruleAll; simp only [Go.Proofs.Ythdldlpflieeoaa.ruleAll] at C)) | ((fail_if_success have := hf); (go_at_call 156; ((with_reducible refine ((HTD.out b N h0 h1).at M 0 3 hbb rfl rfl rfl).mono ?_); rintro e w3 ⟨_, rfl, ⟨f, g, h, rfl, hf, hg, hh⟩, M9⟩; clear M; (try clear C); have M := M9; clear M9; have C := M.ruleAll; simp only [Go.Proofs.Ythdldlpflieeoaa.ruleAll] at C))) | (go_at_call 156; ((with_reducible refine ((HTD.out b N h0 h1).at M 0 3 hbb rfl rfl rfl).mono ?_); rintro e w3 ⟨_, rfl, ⟨p', q', r', rfl, hp', hq', hr'⟩, M9⟩; clear M; (try clear C); have M := M9; clear M9; have C := M.ruleAll; simp only [Go.Proofs.Ythdldlpflieeoaa.ruleAll] at C)) | ((with_reducible apply wpM_sta' M 2 46 (trs f g h)); rfl; rfl; rfl; rfl; (first | exact .inl (by assumption) | exact .inr rfl | exact .inr (by assumption)); exact ⟨rfl, inf_trp.trans (congrArg some (trs_size ..).symm), flat_trs _ _ _⟩; (simp only [entCells, List.getElem?_cons_zero, List.getElem?_cons_succ, trs_size, trs_size]); clear M; (try clear C); intro w9 M; simp only [List.set_cons_zero, List.set_cons_succ, entBlk, entT, List.getElem?_cons_zero, List.getElem?_cons_succ] at M; have C := M.ruleAll; simp only [Go.Proofs.Ythdldlpflieeoaa.ruleAll] at C) | ((with_reducible apply wpM_sta' M 1 46 (trs p' q' r')); rfl; rfl; rfl; rfl; (first | exact .inl (by assumption) | exact .inr rfl | exact .inr (by assumption)); exact ⟨rfl, inf_trp.trans (congrArg some (trs_size ..).symm), flat_trs _ _ _⟩; (simp only [entCells, List.getElem?_cons_zero, List.getElem?_cons_succ, trs_size, trs_size]); clear M; (try clear C); intro w9 M; simp only [List.set_cons_zero, List.set_cons_succ, entBlk, entT, List.getElem?_cons_zero, List.getElem?_cons_succ] at M; have C := M.ruleAll; simp only [Go.Proofs.Ythdldlpflieeoaa.ruleAll] at C))
  refine bodyPost_ret (v := .tuple #[.agg (trs f g h), .agg (trs p' q' r'), .int .i64 (N : Int)]) (by exact results_three rfl (by exact ResV.cell rfl und_trp rfl inf_trp (M.box 2 rfl)) (by exact ResV.cell rfl und_trp rfl inf_trp (M.box 1 rfl)) (by exact rfl)) rfl ?_
  exact ⟨_, rfl, ⟨N, f, g, h, p', q', r', rfl, h0, h1, hf, hg, hh, hp', hq', hr'⟩, ((M.drop 0).drop 0).drop 0⟩

set_option maxRecDepth 100000 in
set_option maxHeartbeats 4000000 in
theorem drawIsTriple_tc (l : List Nat) (hb : Byts l) (hl : l.length ≤ 4096) (p : Option Addr) (c : Nat) : TopC 164 l p c TnQ := fun w0 w X M => by
  have HFR := Hid2.mk (l01From_any l hb hl p c)
  have HX := Hid2.mk (fun b n => next_dc l hb hl b c p n)
  have HOD := Hid2.mk (fun b => l02Order_dc l hb hl b c p)
  have HTD := Hid2.mk (fun b N h0 h1 => l02Draw_dc l hb hl b c p N h0 h1)
  clear hb hl
  have C := M.ruleAll; simp only [Go.Proofs.Ythdldlpflieeoaa.ruleAll] at C
  go_enter Try.func164, Try.ntmps164
  go_wp2_with (first | ((with_reducible apply wpM_alloc' M 46 (trs (fun _ => 0) (fun _ => 0) (fun _ => 0))); rfl; exact ⟨rfl, _, zero_trp _, rfl⟩; clear M; (try clear C); intro b2 w9 h_b2 M; have C := M.ruleAll; simp only [Go.Proofs.Ythdldlpflieeoaa.ruleAll] at C) | (go_at_call 130; ((with_reducible refine (HFR.out.at M 1 rfl).mono ?_); rintro e w2 ⟨b, rfl, hbb, M9⟩; clear M; (try clear C); have M := M9; clear M9; have C := M.ruleAll; simp only [Go.Proofs.Ythdldlpflieeoaa.ruleAll] at C)) | (go_at_call 160; ((with_reducible refine ((HOD.out b).at M 0 2 hbb rfl rfl rfl).mono ?_); rintro e w3 ⟨_, rfl, ⟨N, rfl, h0, h1⟩, M9⟩; clear M; (try clear C); have M := M9; clear M9; have C := M.ruleAll; simp only [Go.Proofs.Ythdldlpflieeoaa.ruleAll] at C)) | (go_at_call 156; ((with_reducible refine ((HTD.out b N h0 h1).at M 0 2 hbb rfl rfl rfl).mono ?_); rintro e w3 ⟨_, rfl, ⟨f, g, h, rfl, hf, hg, hh⟩, M9⟩; clear M; (try clear C); have M := M9; clear M9; have C := M.ruleAll; simp only [Go.Proofs.Ythdldlpflieeoaa.ruleAll] at C)) | (go_at_call 132; ((with_reducible refine ((HX.out b _).at M 0 2 hbb rfl rfl rfl).mono ?_); rintro e w3 ⟨_, rfl, ⟨x, rfl, hx⟩, M9⟩; clear M; (try clear C); have M := M9; clear M9; have C := M.ruleAll; simp only [Go.Proofs.Ythdldlpflieeoaa.ruleAll] at C; have hq : (x : Int) / 15 ≤ 1 := (by omega); have hq0 : 0 ≤ (x : Int) / 15 := (by omega))) | ((with_reducible apply wpM_sta' M 1 46 (trs f g h)); rfl; rfl; rfl; rfl; (first | exact .inl (by assumption) | exact .inr rfl | exact .inr (by assumption)); exact ⟨rfl, inf_trp.trans (congrArg some (trs_size ..).symm), flat_trs _ _ _⟩; (simp only [entCells, List.getElem?_cons_zero, List.getElem?_cons_succ, trs_size, trs_size]); clear M; (try clear C); intro w9 M; simp only [List.set_cons_zero, List.set_cons_succ, entBlk, entT, List.getElem?_cons_zero, List.getElem?_cons_succ] at M; have C := M.ruleAll; simp only [Go.Proofs.Ythdldlpflieeoaa.ruleAll] at C))
  refine bodyPost_ret (v := .tuple #[.agg (trs f g h), .int .i64 ((N : Int) + (x : Int) / 15)]) (by exact results_two rfl (by exact ResV.cell rfl und_trp rfl inf_trp (M.box 1 rfl)) (by exact rfl)) rfl ?_
  exact ⟨_, rfl, ⟨_, f, g, h, rfl, by omega, by omega, hf, hg, hh⟩, (M.drop 0).drop 0⟩

set_option maxRecDepth 100000 in
set_option maxHeartbeats 4000000 in
theorem drawBackTriple_tc (l : List Nat) (hb : Byts l) (hl : l.length ≤ 4096) (p : Option Addr) (c : Nat) : TopC 38 l p c TnQ := fun w0 w X M => by
  have HFR := Hid2.mk (l01From_any l hb hl p c)
  have HD := Hid2.mk (drawIsTriple_tc l hb hl p c)
  clear hb hl
  have C := M.ruleAll; simp only [Go.Proofs.Ythdldlpflieeoaa.ruleAll] at C
  go_enter Try.func38, Try.ntmps38
  go_wp2_with (first | ((fail_if_success have := h_b2); ((with_reducible apply wpM_alloc' M 46 (trs (fun _ => 0) (fun _ => 0) (fun _ => 0))); rfl; exact ⟨rfl, _, zero_trp _, rfl⟩; clear M; (try clear C); intro b2 w9 h_b2 M; have C := M.ruleAll; simp only [Go.Proofs.Ythdldlpflieeoaa.ruleAll] at C)) | ((with_reducible apply wpM_alloc' M 46 (trs (fun _ => 0) (fun _ => 0) (fun _ => 0))); rfl; exact ⟨rfl, _, zero_trp _, rfl⟩; clear M; (try clear C); intro b4 w9 h_b4 M; have C := M.ruleAll; simp only [Go.Proofs.Ythdldlpflieeoaa.ruleAll] at C) | (go_at_call 164; ((with_reducible refine (HD.out.at M 1 rfl).mono ?_); rintro e w3 ⟨_, rfl, ⟨n, f, g, h, rfl, hn0, hn1, hf, hg, hh⟩, M9⟩; clear M; (try clear C); have M := M9; clear M9; have C := M.ruleAll; simp only [Go.Proofs.Ythdldlpflieeoaa.ruleAll] at C)) | ((fail_if_success have := h_b5); ((with_reducible apply wpM_sta' M 0 46 (trs f g h)); rfl; rfl; rfl; rfl; (first | exact .inl (by assumption) | exact .inr rfl | exact .inr (by assumption)); exact ⟨rfl, inf_trp.trans (congrArg some (trs_size ..).symm), flat_trs _ _ _⟩; (simp only [entCells, List.getElem?_cons_zero, List.getElem?_cons_succ, trs_size, trs_size]); clear M; (try clear C); intro w9 M; simp only [List.set_cons_zero, List.set_cons_succ, entBlk, entT, List.getElem?_cons_zero, List.getElem?_cons_succ] at M; have C := M.ruleAll; simp only [Go.Proofs.Ythdldlpflieeoaa.ruleAll] at C); have h_b5 := hn0) | ((with_reducible apply wpM_lda' M 0 46 0 (trs f g h)); rfl; rfl; rfl; exact ⟨rfl, inf_trp.trans (congrArg some (trs_size ..).symm), _, und_trp, rfl⟩; exact whole_of rfl) | ((with_reducible apply wpM_sta' M 1 46 (trs f g h)); rfl; rfl; rfl; rfl; (first | exact .inl (by assumption) | exact .inr rfl | exact .inr (by assumption)); exact ⟨rfl, inf_trp.trans (congrArg some (trs_size ..).symm), flat_trs _ _ _⟩; (simp only [entCells, List.getElem?_cons_zero, List.getElem?_cons_succ, trs_size, trs_size]); clear M; (try clear C); intro w9 M; simp only [List.set_cons_zero, List.set_cons_succ, entBlk, entT, List.getElem?_cons_zero, List.getElem?_cons_succ] at M; have C := M.ruleAll; simp only [Go.Proofs.Ythdldlpflieeoaa.ruleAll] at C))
  refine bodyPost_ret (v := .tuple #[.agg (trs f g h), .int .i64 n]) (by exact results_two rfl (by exact ResV.cell rfl und_trp rfl inf_trp (M.box 1 rfl)) (by exact rfl)) rfl ?_
  exact ⟨_, rfl, ⟨_, f, g, h, rfl, hn0, hn1, hf, hg, hh⟩, (M.drop 0).drop 0⟩

/-- A square, perhaps, and two bytes. -/
def SbQ (v : Value) : Prop := ∃ (n : Int) (t : Nat → Nat → Nat) (x y : Nat), v = .tuple #[.agg (sqs n t), .int .u8 (x : Int), .int .u8 (y : Int)] ∧ -1 ≤ n ∧ n ≤ 11 ∧ Byt2 t ∧ x < 256 ∧ y < 256
/-- A number in a range. -/
def IvU (a b : Int) (v : Value) : Prop := ∃ q : Int, v = .int .i64 q ∧ a ≤ q ∧ q ≤ b

set_option maxRecDepth 100000 in
set_option maxHeartbeats 4000000 in
theorem drawLoopAt_tc (l : List Nat) (hb : Byts l) (hl : l.length ≤ 4096) (p : Option Addr) (c : Nat) : TopC 46 l p c SbQ := fun w0 w X M => by
  have HFR := Hid2.mk (l01From_any l hb hl p c)
  have HX := Hid2.mk (fun b n => next_dc l hb hl b c p n)
  have HSP := Hid2.mk (fun b => spoil_dc l hb hl b c p)
  clear hb hl
  have C := M.ruleAll; simp only [Go.Proofs.Ythdldlpflieeoaa.ruleAll] at C
  go_enter Try.func46, Try.ntmps46
  go_wp2_with (first | ((fail_if_success have := h_b2); ((with_reducible apply wpM_alloc' M 37 (sqs 0 fun _ _ => 0)); rfl; exact ⟨rfl, _, zero_sqs _, rfl⟩; clear M; (try clear C); intro b2 w9 h_b2 M; have C := M.ruleAll; simp only [Go.Proofs.Ythdldlpflieeoaa.ruleAll] at C)) | ((fail_if_success have := hbb); (go_at_call 130; ((with_reducible refine (HFR.out.at M 1 rfl).mono ?_); rintro e w2 ⟨b, rfl, hbb, M9⟩; clear M; (try clear C); have M := M9; clear M9; have C := M.ruleAll; simp only [Go.Proofs.Ythdldlpflieeoaa.ruleAll] at C))) | (go_at_call 142; ((with_reducible refine ((HSP.out b).at M 0 2 hbb rfl rfl rfl).mono ?_); rintro e w3 ⟨_, rfl, ⟨n, t, rfl, hn0, hn1, ht⟩, M9⟩; clear M; (try clear C); have M := M9; clear M9; have C := M.ruleAll; simp only [Go.Proofs.Ythdldlpflieeoaa.ruleAll] at C; have so := sqs_order n t)) | ((with_reducible apply wpM_alloc' M 37 (sqs 0 fun _ _ => 0)); rfl; exact ⟨rfl, _, zero_sqs _, rfl⟩; clear M; (try clear C); intro b6 w9 h_b6 M; have C := M.ruleAll; simp only [Go.Proofs.Ythdldlpflieeoaa.ruleAll] at C) | ((with_reducible apply wpM_sta' M 0 37 (sqs n t)); rfl; rfl; rfl; rfl; (first | exact .inl (by assumption) | exact .inr rfl | exact .inr (by assumption)); exact ⟨rfl, inf_sqs.trans (congrArg some (sqs_size ..).symm), flat_sqs _ _⟩; (simp only [entCells, List.getElem?_cons_zero, List.getElem?_cons_succ, sqs_size, sqs_size]); clear M; (try clear C); intro w9 M; simp only [List.set_cons_zero, List.set_cons_succ, entBlk, entT, List.getElem?_cons_zero, List.getElem?_cons_succ] at M; have C := M.ruleAll; simp only [Go.Proofs.Ythdldlpflieeoaa.ruleAll] at C))
  · refine wp_region_calmD 15 (fun D w' => Mm no w0 w' (Ent.box b6 (sqs n t) 37 :: Ent.sv b p l.length c :: Ent.box b2 (bif D 13 then sqs n t else sqs 0 fun _ _ => 0) 37 :: Ent.cd l.length p (cdF l) :: X)) (fun j => ([fun v => v = Value.agg (sqs n t), fun v => v = Value.pointer (some ⟨b, 0, none⟩), fun v => v = Value.int .i64 n, fun v => v = Value.pointer (some ⟨b, 0, none⟩), NxU 30, IvU 0 1, IvU 1 12, NxU 13, BxU 13, fun v => v = Value.pointer (some ⟨b, 0, none⟩), fun v => v = Value.int .i64 n, NxU 12, BxU 12, fun _ => True, BxU 13] : List (Value → Prop)).getD j fun _ => True) (by kernel_rfl) (by kernel_rfl) (by kernel_rfl) (fun j hj => match j, hj with | 0, _ => ⟨_, rfl⟩ | 1, _ => ⟨_, rfl⟩ | 2, _ => ⟨_, rfl⟩ | 3, _ => ⟨_, rfl⟩ | 4, _ => ⟨_, 0, rfl, by omega⟩ | 5, _ => ⟨_, 0, rfl, by omega, by omega⟩ | 6, _ => ⟨_, 1, rfl, by omega, by omega⟩ | 7, _ => ⟨_, 0, rfl, by omega⟩ | 8, _ => ⟨_, 0, rfl, by omega⟩ | 9, _ => ⟨_, rfl⟩ | 10, _ => ⟨_, rfl⟩ | 11, _ => ⟨_, 0, rfl, by omega⟩ | 12, _ => ⟨_, 0, rfl, by omega⟩ | 13, _ => ⟨undef, trivial⟩ | 14, _ => ⟨_, 0, rfl, by omega⟩ | j + 15, h => absurd h (by omega)) (by exact M.drew) ?_; (simp only [List.take_succ_cons, List.take_zero, List.drop_succ_cons, List.drop_zero]); clear M; (try clear C); refine wpUD_cons (by intro D w2 hD M; have eD : updD D 0 13 = D 13 := updD_ne (by decide); simp only [eD]; clear hD eD; have C := M.ruleAll; simp only [Go.Proofs.Ythdldlpflieeoaa.ruleAll] at C; refine yield_walk (ops := #[]) (by exact rfl) (by exact rfl) (by exact Nat.le_of_ble_eq_true rfl) ?_; go_wp2_with (first | ((with_reducible apply wpM_lda' M 0 37 0 (sqs n t)); rfl; rfl; rfl; exact ⟨rfl, inf_sqs.trans (congrArg some (sqs_size ..).symm), _, und_sqs, rfl⟩; exact whole_of rfl)); all_goals (first | done | exact ⟨rfl, M⟩ | exact M)) ?_; rintro _ rfl; (simp only [Act.put, List.setIfInBounds_toArray, List.set_cons_succ, List.set_cons_zero]); refine wpUD_cons (by intro D w2 hD M; have eD : updD D 1 13 = D 13 := updD_ne (by decide); simp only [eD]; clear hD eD; have C := M.ruleAll; simp only [Go.Proofs.Ythdldlpflieeoaa.ruleAll] at C; refine yield_walk (ops := #[]) (by exact rfl) (by exact rfl) (by exact Nat.le_of_ble_eq_true rfl) ?_; go_wp2; all_goals (first | done | exact ⟨rfl, M⟩ | exact M)) ?_; rintro _ rfl; (simp only [Act.put, List.setIfInBounds_toArray, List.set_cons_succ, List.set_cons_zero]); refine wpUD_cons (by intro D w2 hD M; have eD : updD D 2 13 = D 13 := updD_ne (by decide); simp only [eD]; clear hD eD; have C := M.ruleAll; simp only [Go.Proofs.Ythdldlpflieeoaa.ruleAll] at C; refine yield_walk (ops := #[]) (by exact rfl) (by exact rfl) (by exact Nat.le_of_ble_eq_true rfl) ?_; go_wp2; all_goals (first | done | exact ⟨rfl, M⟩ | exact M)) ?_; rintro _ rfl; (simp only [Act.put, List.setIfInBounds_toArray, List.set_cons_succ, List.set_cons_zero]); refine wpUD_cons (by intro D w2 hD M; have eD : updD D 3 13 = D 13 := updD_ne (by decide); simp only [eD]; clear hD eD; have C := M.ruleAll; simp only [Go.Proofs.Ythdldlpflieeoaa.ruleAll] at C; refine yield_walk (ops := #[]) (by exact rfl) (by exact rfl) (by exact Nat.le_of_ble_eq_true rfl) ?_; go_wp2; all_goals (first | done | exact ⟨rfl, M⟩ | exact M)) ?_; rintro _ rfl; (simp only [Act.put, List.setIfInBounds_toArray, List.set_cons_succ, List.set_cons_zero]); refine wpUD_cons (by intro D w2 hD M; have eD : updD D 4 13 = D 13 := updD_ne (by decide); simp only [eD]; clear hD eD; have C := M.ruleAll; simp only [Go.Proofs.Ythdldlpflieeoaa.ruleAll] at C; refine yield_walk (ops := #[]) (by exact rfl) (by exact rfl) (by exact Nat.le_of_ble_eq_true rfl) ?_; go_wp2_with (first | (go_at_call 132; ((with_reducible refine ((HX.out b _).at M 1 3 hbb rfl rfl rfl).mono ?_); rintro e w3 ⟨_, rfl, ⟨x, rfl, hx⟩, M9⟩; clear M; (try clear C); have M := M9; clear M9; have C := M.ruleAll; simp only [Go.Proofs.Ythdldlpflieeoaa.ruleAll] at C))); all_goals (first | done | exact ⟨_, rfl, by omega⟩ | exact M)) ?_; rintro _ ⟨x1, rfl, hx1⟩; (simp only [Act.put, List.setIfInBounds_toArray, List.set_cons_succ, List.set_cons_zero]); refine wpUD_cons (by intro D w2 hD M; have eD : updD D 5 13 = D 13 := updD_ne (by decide); simp only [eD]; clear hD eD; have C := M.ruleAll; simp only [Go.Proofs.Ythdldlpflieeoaa.ruleAll] at C; refine yield_walk (ops := #[]) (by exact rfl) (by exact rfl) (by exact Nat.le_of_ble_eq_true rfl) ?_; go_wp2; all_goals (first | done | exact ⟨_, rfl, by omega, by omega⟩ | exact M)) ?_; rintro _ ⟨q1, rfl, hq1, hq2⟩; (simp only [Act.put, List.setIfInBounds_toArray, List.set_cons_succ, List.set_cons_zero]); refine wpUD_cons (by intro D w2 hD M; have eD : updD D 6 13 = D 13 := updD_ne (by decide); simp only [eD]; clear hD eD; have C := M.ruleAll; simp only [Go.Proofs.Ythdldlpflieeoaa.ruleAll] at C; refine yield_walk (ops := #[]) (by exact rfl) (by exact rfl) (by exact Nat.le_of_ble_eq_true rfl) ?_; go_wp2; all_goals (first | done | exact ⟨_, rfl, by omega, by omega⟩ | exact M)) ?_; rintro _ ⟨q2, rfl, hq3, hq4⟩; (simp only [Act.put, List.setIfInBounds_toArray, List.set_cons_succ, List.set_cons_zero]); refine wpUD_cons (by intro D w2 hD M; have eD : updD D 7 13 = D 13 := updD_ne (by decide); simp only [eD]; clear hD eD; have C := M.ruleAll; simp only [Go.Proofs.Ythdldlpflieeoaa.ruleAll] at C; refine yield_walk (ops := #[]) (by exact rfl) (by exact rfl) (by exact Nat.le_of_ble_eq_true rfl) ?_; go_wp2_with (first | (go_at_call 132; ((with_reducible refine ((HX.out b _).at M 1 3 hbb rfl rfl rfl).mono ?_); rintro e w3 ⟨_, rfl, ⟨x, rfl, hx⟩, M9⟩; clear M; (try clear C); have M := M9; clear M9; have C := M.ruleAll; simp only [Go.Proofs.Ythdldlpflieeoaa.ruleAll] at C))); all_goals (first | done | exact ⟨_, rfl, by omega⟩ | exact M)) ?_; rintro _ ⟨x2, rfl, hx2⟩; (simp only [Act.put, List.setIfInBounds_toArray, List.set_cons_succ, List.set_cons_zero]); refine wpUD_cons (by intro D w2 hD M; have eD : updD D 8 13 = D 13 := updD_ne (by decide); simp only [eD]; clear hD eD; have C := M.ruleAll; simp only [Go.Proofs.Ythdldlpflieeoaa.ruleAll] at C; refine yield_walk (ops := #[]) (by exact rfl) (by exact rfl) (by exact Nat.le_of_ble_eq_true rfl) ?_; go_wp2; all_goals (first | done | exact ⟨_, rfl, by omega⟩ | exact M)) ?_; rintro _ ⟨y2, rfl, hy2⟩; (simp only [Act.put, List.setIfInBounds_toArray, List.set_cons_succ, List.set_cons_zero]); refine wpUD_cons (by intro D w2 hD M; have eD : updD D 9 13 = D 13 := updD_ne (by decide); simp only [eD]; clear hD eD; have C := M.ruleAll; simp only [Go.Proofs.Ythdldlpflieeoaa.ruleAll] at C; refine yield_walk (ops := #[]) (by exact rfl) (by exact rfl) (by exact Nat.le_of_ble_eq_true rfl) ?_; go_wp2; all_goals (first | done | exact ⟨rfl, M⟩ | exact M)) ?_; rintro _ rfl; (simp only [Act.put, List.setIfInBounds_toArray, List.set_cons_succ, List.set_cons_zero]); refine wpUD_cons (by intro D w2 hD M; have eD : updD D 10 13 = D 13 := updD_ne (by decide); simp only [eD]; clear hD eD; have C := M.ruleAll; simp only [Go.Proofs.Ythdldlpflieeoaa.ruleAll] at C; refine yield_walk (ops := #[]) (by exact rfl) (by exact rfl) (by exact Nat.le_of_ble_eq_true rfl) ?_; go_wp2; all_goals (first | done | exact ⟨rfl, M⟩ | exact M)) ?_; rintro _ rfl; (simp only [Act.put, List.setIfInBounds_toArray, List.set_cons_succ, List.set_cons_zero]); refine wpUD_cons (by intro D w2 hD M; have eD : updD D 11 13 = D 13 := updD_ne (by decide); simp only [eD]; clear hD eD; have C := M.ruleAll; simp only [Go.Proofs.Ythdldlpflieeoaa.ruleAll] at C; refine yield_walk (ops := #[]) (by exact rfl) (by exact rfl) (by exact Nat.le_of_ble_eq_true rfl) ?_; go_wp2_with (first | (go_at_call 132; ((with_reducible refine ((HX.out b _).at M 1 3 hbb rfl rfl rfl).mono ?_); rintro e w3 ⟨_, rfl, ⟨x, rfl, hx⟩, M9⟩; clear M; (try clear C); have M := M9; clear M9; have C := M.ruleAll; simp only [Go.Proofs.Ythdldlpflieeoaa.ruleAll] at C))); all_goals (first | done | exact ⟨_, rfl, by omega⟩ | exact M)) ?_; rintro _ ⟨x3, rfl, hx3⟩; (simp only [Act.put, List.setIfInBounds_toArray, List.set_cons_succ, List.set_cons_zero]); refine wpUD_cons (by intro D w2 hD M; have eD : updD D 12 13 = D 13 := updD_ne (by decide); simp only [eD]; clear hD eD; have C := M.ruleAll; simp only [Go.Proofs.Ythdldlpflieeoaa.ruleAll] at C; refine yield_walk (ops := #[]) (by exact rfl) (by exact rfl) (by exact Nat.le_of_ble_eq_true rfl) ?_; go_wp2; all_goals (first | done | exact ⟨_, rfl, by omega⟩ | exact M)) ?_; rintro _ ⟨y3, rfl, hy3⟩; (simp only [Act.put, List.setIfInBounds_toArray, List.set_cons_succ, List.set_cons_zero]); refine wpUD_cons (by intro D w2 hD M; simp only [hD, cond_false] at M; simp only [updD_at, cond_true]; clear hD; have C := M.ruleAll; simp only [Go.Proofs.Ythdldlpflieeoaa.ruleAll] at C; refine yield_store (ops := #[]) (by exact rfl) (by exact rfl) ?_; go_wp2_with (first |  ((with_reducible apply wpM_sta' M 2 37 (sqs n t)); rfl; rfl; rfl; rfl; (first | exact .inl (by assumption) | exact .inr rfl | exact .inr (by assumption)); exact ⟨rfl, inf_sqs.trans (congrArg some (sqs_size ..).symm), flat_sqs _ _⟩; (simp only [entCells, List.getElem?_cons_zero, List.getElem?_cons_succ, sqs_size, sqs_size]); clear M; (try clear C); intro w9 M; simp only [List.set_cons_zero, List.set_cons_succ, entBlk, entT, List.getElem?_cons_zero, List.getElem?_cons_succ] at M; have C := M.ruleAll; simp only [Go.Proofs.Ythdldlpflieeoaa.ruleAll] at C)); all_goals (first | exact ⟨trivial, M⟩ | exact M | exact trivial)) ?_; rintro _ _; (simp only [Act.put, List.setIfInBounds_toArray, List.set_cons_succ, List.set_cons_zero]); refine wpUD_cons (by intro D w2 hD M; have eD : updD D 14 13 = D 13 := updD_ne (by decide); simp only [eD]; clear hD eD; have C := M.ruleAll; simp only [Go.Proofs.Ythdldlpflieeoaa.ruleAll] at C; refine yield_walk (ops := #[]) (by exact rfl) (by exact rfl) (by exact Nat.le_of_ble_eq_true rfl) ?_; go_wp2; all_goals (first | done | exact ⟨_, rfl, by omega⟩ | exact M)) ?_; rintro _ ⟨y4, rfl, hy4⟩; (simp only [Act.put, List.setIfInBounds_toArray, List.set_cons_succ, List.set_cons_zero]); refine wpUD_nil ?_; intro D w2 hall M; have eD := hall 13 (by decide); simp only [eD, cond_true] at M; clear eD hall; have C := M.ruleAll; simp only [Go.Proofs.Ythdldlpflieeoaa.ruleAll] at C
    go_wp2
    refine bodyPost_ret (v := .tuple #[.agg (sqs n t), .int .u8 (y4 : Int), .int .u8 (y3 : Int)]) (by exact results_three rfl (by exact ResV.cell rfl und_sqs rfl inf_sqs (M.box 2 rfl)) (by exact rfl) (by exact rfl)) rfl ?_
    exact ⟨_, rfl, ⟨n, t, y4, y3, rfl, hn0, hn1, ht, by omega, by omega⟩, ((M.drop 0).drop 0).drop 0⟩
  · refine wp_region_calmD 15 (fun D w' => Mm no w0 w' (Ent.box b6 (sqs n t) 37 :: Ent.sv b p l.length c :: Ent.box b2 (bif D 13 then sqs n t else sqs 0 fun _ _ => 0) 37 :: Ent.cd l.length p (cdF l) :: X)) (fun j => ([fun v => v = Value.agg (sqs n t), fun v => v = Value.pointer (some ⟨b, 0, none⟩), fun v => v = Value.int .i64 1, fun v => v = Value.pointer (some ⟨b, 0, none⟩), NxU 30, IvU 0 1, IvU 1 12, NxU 13, BxU 13, fun v => v = Value.pointer (some ⟨b, 0, none⟩), fun v => v = Value.int .i64 1, NxU 12, BxU 12, fun _ => True, BxU 13] : List (Value → Prop)).getD j fun _ => True) (by kernel_rfl) (by kernel_rfl) (by kernel_rfl) (fun j hj => match j, hj with | 0, _ => ⟨_, rfl⟩ | 1, _ => ⟨_, rfl⟩ | 2, _ => ⟨_, rfl⟩ | 3, _ => ⟨_, rfl⟩ | 4, _ => ⟨_, 0, rfl, by omega⟩ | 5, _ => ⟨_, 0, rfl, by omega, by omega⟩ | 6, _ => ⟨_, 1, rfl, by omega, by omega⟩ | 7, _ => ⟨_, 0, rfl, by omega⟩ | 8, _ => ⟨_, 0, rfl, by omega⟩ | 9, _ => ⟨_, rfl⟩ | 10, _ => ⟨_, rfl⟩ | 11, _ => ⟨_, 0, rfl, by omega⟩ | 12, _ => ⟨_, 0, rfl, by omega⟩ | 13, _ => ⟨undef, trivial⟩ | 14, _ => ⟨_, 0, rfl, by omega⟩ | j + 15, h => absurd h (by omega)) (by exact M.drew) ?_; (simp only [List.take_succ_cons, List.take_zero, List.drop_succ_cons, List.drop_zero]); clear M; (try clear C); refine wpUD_cons (by intro D w2 hD M; have eD : updD D 0 13 = D 13 := updD_ne (by decide); simp only [eD]; clear hD eD; have C := M.ruleAll; simp only [Go.Proofs.Ythdldlpflieeoaa.ruleAll] at C; refine yield_walk (ops := #[]) (by exact rfl) (by exact rfl) (by exact Nat.le_of_ble_eq_true rfl) ?_; go_wp2_with (first | ((with_reducible apply wpM_lda' M 0 37 0 (sqs n t)); rfl; rfl; rfl; exact ⟨rfl, inf_sqs.trans (congrArg some (sqs_size ..).symm), _, und_sqs, rfl⟩; exact whole_of rfl)); all_goals (first | done | exact ⟨rfl, M⟩ | exact M)) ?_; rintro _ rfl; (simp only [Act.put, List.setIfInBounds_toArray, List.set_cons_succ, List.set_cons_zero]); refine wpUD_cons (by intro D w2 hD M; have eD : updD D 1 13 = D 13 := updD_ne (by decide); simp only [eD]; clear hD eD; have C := M.ruleAll; simp only [Go.Proofs.Ythdldlpflieeoaa.ruleAll] at C; refine yield_walk (ops := #[]) (by exact rfl) (by exact rfl) (by exact Nat.le_of_ble_eq_true rfl) ?_; go_wp2; all_goals (first | done | exact ⟨rfl, M⟩ | exact M)) ?_; rintro _ rfl; (simp only [Act.put, List.setIfInBounds_toArray, List.set_cons_succ, List.set_cons_zero]); refine wpUD_cons (by intro D w2 hD M; have eD : updD D 2 13 = D 13 := updD_ne (by decide); simp only [eD]; clear hD eD; have C := M.ruleAll; simp only [Go.Proofs.Ythdldlpflieeoaa.ruleAll] at C; refine yield_walk (ops := #[]) (by exact rfl) (by exact rfl) (by exact Nat.le_of_ble_eq_true rfl) ?_; go_wp2; all_goals (first | done | exact ⟨rfl, M⟩ | exact M)) ?_; rintro _ rfl; (simp only [Act.put, List.setIfInBounds_toArray, List.set_cons_succ, List.set_cons_zero]); refine wpUD_cons (by intro D w2 hD M; have eD : updD D 3 13 = D 13 := updD_ne (by decide); simp only [eD]; clear hD eD; have C := M.ruleAll; simp only [Go.Proofs.Ythdldlpflieeoaa.ruleAll] at C; refine yield_walk (ops := #[]) (by exact rfl) (by exact rfl) (by exact Nat.le_of_ble_eq_true rfl) ?_; go_wp2; all_goals (first | done | exact ⟨rfl, M⟩ | exact M)) ?_; rintro _ rfl; (simp only [Act.put, List.setIfInBounds_toArray, List.set_cons_succ, List.set_cons_zero]); refine wpUD_cons (by intro D w2 hD M; have eD : updD D 4 13 = D 13 := updD_ne (by decide); simp only [eD]; clear hD eD; have C := M.ruleAll; simp only [Go.Proofs.Ythdldlpflieeoaa.ruleAll] at C; refine yield_walk (ops := #[]) (by exact rfl) (by exact rfl) (by exact Nat.le_of_ble_eq_true rfl) ?_; go_wp2_with (first | (go_at_call 132; ((with_reducible refine ((HX.out b _).at M 1 3 hbb rfl rfl rfl).mono ?_); rintro e w3 ⟨_, rfl, ⟨x, rfl, hx⟩, M9⟩; clear M; (try clear C); have M := M9; clear M9; have C := M.ruleAll; simp only [Go.Proofs.Ythdldlpflieeoaa.ruleAll] at C))); all_goals (first | done | exact ⟨_, rfl, by omega⟩ | exact M)) ?_; rintro _ ⟨x1, rfl, hx1⟩; (simp only [Act.put, List.setIfInBounds_toArray, List.set_cons_succ, List.set_cons_zero]); refine wpUD_cons (by intro D w2 hD M; have eD : updD D 5 13 = D 13 := updD_ne (by decide); simp only [eD]; clear hD eD; have C := M.ruleAll; simp only [Go.Proofs.Ythdldlpflieeoaa.ruleAll] at C; refine yield_walk (ops := #[]) (by exact rfl) (by exact rfl) (by exact Nat.le_of_ble_eq_true rfl) ?_; go_wp2; all_goals (first | done | exact ⟨_, rfl, by omega, by omega⟩ | exact M)) ?_; rintro _ ⟨q1, rfl, hq1, hq2⟩; (simp only [Act.put, List.setIfInBounds_toArray, List.set_cons_succ, List.set_cons_zero]); refine wpUD_cons (by intro D w2 hD M; have eD : updD D 6 13 = D 13 := updD_ne (by decide); simp only [eD]; clear hD eD; have C := M.ruleAll; simp only [Go.Proofs.Ythdldlpflieeoaa.ruleAll] at C; refine yield_walk (ops := #[]) (by exact rfl) (by exact rfl) (by exact Nat.le_of_ble_eq_true rfl) ?_; go_wp2; all_goals (first | done | exact ⟨_, rfl, by omega, by omega⟩ | exact M)) ?_; rintro _ ⟨q2, rfl, hq3, hq4⟩; (simp only [Act.put, List.setIfInBounds_toArray, List.set_cons_succ, List.set_cons_zero]); refine wpUD_cons (by intro D w2 hD M; have eD : updD D 7 13 = D 13 := updD_ne (by decide); simp only [eD]; clear hD eD; have C := M.ruleAll; simp only [Go.Proofs.Ythdldlpflieeoaa.ruleAll] at C; refine yield_walk (ops := #[]) (by exact rfl) (by exact rfl) (by exact Nat.le_of_ble_eq_true rfl) ?_; go_wp2_with (first | (go_at_call 132; ((with_reducible refine ((HX.out b _).at M 1 3 hbb rfl rfl rfl).mono ?_); rintro e w3 ⟨_, rfl, ⟨x, rfl, hx⟩, M9⟩; clear M; (try clear C); have M := M9; clear M9; have C := M.ruleAll; simp only [Go.Proofs.Ythdldlpflieeoaa.ruleAll] at C))); all_goals (first | done | exact ⟨_, rfl, by omega⟩ | exact M)) ?_; rintro _ ⟨x2, rfl, hx2⟩; (simp only [Act.put, List.setIfInBounds_toArray, List.set_cons_succ, List.set_cons_zero]); refine wpUD_cons (by intro D w2 hD M; have eD : updD D 8 13 = D 13 := updD_ne (by decide); simp only [eD]; clear hD eD; have C := M.ruleAll; simp only [Go.Proofs.Ythdldlpflieeoaa.ruleAll] at C; refine yield_walk (ops := #[]) (by exact rfl) (by exact rfl) (by exact Nat.le_of_ble_eq_true rfl) ?_; go_wp2; all_goals (first | done | exact ⟨_, rfl, by omega⟩ | exact M)) ?_; rintro _ ⟨y2, rfl, hy2⟩; (simp only [Act.put, List.setIfInBounds_toArray, List.set_cons_succ, List.set_cons_zero]); refine wpUD_cons (by intro D w2 hD M; have eD : updD D 9 13 = D 13 := updD_ne (by decide); simp only [eD]; clear hD eD; have C := M.ruleAll; simp only [Go.Proofs.Ythdldlpflieeoaa.ruleAll] at C; refine yield_walk (ops := #[]) (by exact rfl) (by exact rfl) (by exact Nat.le_of_ble_eq_true rfl) ?_; go_wp2; all_goals (first | done | exact ⟨rfl, M⟩ | exact M)) ?_; rintro _ rfl; (simp only [Act.put, List.setIfInBounds_toArray, List.set_cons_succ, List.set_cons_zero]); refine wpUD_cons (by intro D w2 hD M; have eD : updD D 10 13 = D 13 := updD_ne (by decide); simp only [eD]; clear hD eD; have C := M.ruleAll; simp only [Go.Proofs.Ythdldlpflieeoaa.ruleAll] at C; refine yield_walk (ops := #[]) (by exact rfl) (by exact rfl) (by exact Nat.le_of_ble_eq_true rfl) ?_; go_wp2; all_goals (first | done | exact ⟨rfl, M⟩ | exact M)) ?_; rintro _ rfl; (simp only [Act.put, List.setIfInBounds_toArray, List.set_cons_succ, List.set_cons_zero]); refine wpUD_cons (by intro D w2 hD M; have eD : updD D 11 13 = D 13 := updD_ne (by decide); simp only [eD]; clear hD eD; have C := M.ruleAll; simp only [Go.Proofs.Ythdldlpflieeoaa.ruleAll] at C; refine yield_walk (ops := #[]) (by exact rfl) (by exact rfl) (by exact Nat.le_of_ble_eq_true rfl) ?_; go_wp2_with (first | (go_at_call 132; ((with_reducible refine ((HX.out b _).at M 1 3 hbb rfl rfl rfl).mono ?_); rintro e w3 ⟨_, rfl, ⟨x, rfl, hx⟩, M9⟩; clear M; (try clear C); have M := M9; clear M9; have C := M.ruleAll; simp only [Go.Proofs.Ythdldlpflieeoaa.ruleAll] at C))); all_goals (first | done | exact ⟨_, rfl, by omega⟩ | exact M)) ?_; rintro _ ⟨x3, rfl, hx3⟩; (simp only [Act.put, List.setIfInBounds_toArray, List.set_cons_succ, List.set_cons_zero]); refine wpUD_cons (by intro D w2 hD M; have eD : updD D 12 13 = D 13 := updD_ne (by decide); simp only [eD]; clear hD eD; have C := M.ruleAll; simp only [Go.Proofs.Ythdldlpflieeoaa.ruleAll] at C; refine yield_walk (ops := #[]) (by exact rfl) (by exact rfl) (by exact Nat.le_of_ble_eq_true rfl) ?_; go_wp2; all_goals (first | done | exact ⟨_, rfl, by omega⟩ | exact M)) ?_; rintro _ ⟨y3, rfl, hy3⟩; (simp only [Act.put, List.setIfInBounds_toArray, List.set_cons_succ, List.set_cons_zero]); refine wpUD_cons (by intro D w2 hD M; simp only [hD, cond_false] at M; simp only [updD_at, cond_true]; clear hD; have C := M.ruleAll; simp only [Go.Proofs.Ythdldlpflieeoaa.ruleAll] at C; refine yield_store (ops := #[]) (by exact rfl) (by exact rfl) ?_; go_wp2_with (first |  ((with_reducible apply wpM_sta' M 2 37 (sqs n t)); rfl; rfl; rfl; rfl; (first | exact .inl (by assumption) | exact .inr rfl | exact .inr (by assumption)); exact ⟨rfl, inf_sqs.trans (congrArg some (sqs_size ..).symm), flat_sqs _ _⟩; (simp only [entCells, List.getElem?_cons_zero, List.getElem?_cons_succ, sqs_size, sqs_size]); clear M; (try clear C); intro w9 M; simp only [List.set_cons_zero, List.set_cons_succ, entBlk, entT, List.getElem?_cons_zero, List.getElem?_cons_succ] at M; have C := M.ruleAll; simp only [Go.Proofs.Ythdldlpflieeoaa.ruleAll] at C)); all_goals (first | exact ⟨trivial, M⟩ | exact M | exact trivial)) ?_; rintro _ _; (simp only [Act.put, List.setIfInBounds_toArray, List.set_cons_succ, List.set_cons_zero]); refine wpUD_cons (by intro D w2 hD M; have eD : updD D 14 13 = D 13 := updD_ne (by decide); simp only [eD]; clear hD eD; have C := M.ruleAll; simp only [Go.Proofs.Ythdldlpflieeoaa.ruleAll] at C; refine yield_walk (ops := #[]) (by exact rfl) (by exact rfl) (by exact Nat.le_of_ble_eq_true rfl) ?_; go_wp2; all_goals (first | done | exact ⟨_, rfl, by omega⟩ | exact M)) ?_; rintro _ ⟨y4, rfl, hy4⟩; (simp only [Act.put, List.setIfInBounds_toArray, List.set_cons_succ, List.set_cons_zero]); refine wpUD_nil ?_; intro D w2 hall M; have eD := hall 13 (by decide); simp only [eD, cond_true] at M; clear eD hall; have C := M.ruleAll; simp only [Go.Proofs.Ythdldlpflieeoaa.ruleAll] at C
    go_wp2
    refine bodyPost_ret (v := .tuple #[.agg (sqs n t), .int .u8 (y4 : Int), .int .u8 (y3 : Int)]) (by exact results_three rfl (by exact ResV.cell rfl und_sqs rfl inf_sqs (M.box 2 rfl)) (by exact rfl) (by exact rfl)) rfl ?_
    exact ⟨_, rfl, ⟨n, t, y4, y3, rfl, hn0, hn1, ht, by omega, by omega⟩, ((M.drop 0).drop 0).drop 0⟩

theorem iso_byt {N : Nat} (h10 : N ≤ 10) {t u : Nat → Nat → Nat} {p : List Nat} (h : p ∈ (isos N t u fun _ => none).take 20) : Byt (wf p) := ⟨fun i _ => by
  have h1 := (mem_isos.1 (List.mem_of_mem_take h)).1.2
  show p.getD i 0 < 256
  rw [List.getD_eq_getElem?_getD]
  cases e : p[i]? with
  | none => decide
  | some v => have := h1 v (List.mem_of_getElem? e); simp; omega⟩

set_option maxRecDepth 100000 in
set_option maxHeartbeats 4000000 in
theorem drawIsAutotopism_tc (l : List Nat) (hb : Byts l) (hl : l.length ≤ 4096) (p : Option Addr) (c : Nat) : TopC 43 l p c StQ := fun w0 w X M => by
  have HFR := Hid2.mk (l01From_any l hb hl p c)
  have HX := Hid2.mk (fun b n => next_dc l hb hl b c p n)
  have HSP := Hid2.mk (fun b => spoil_dc l hb hl b c p)
  have HTD := Hid2.mk (fun b N h0 h1 => l02Draw_dc l hb hl b c p N h0 h1)
  have htd3 : ∀ b, DrawC 156 #[.pointer (some ⟨b, 0, none⟩), .int .i64 3] l b p c TrQ := fun b => l02Draw_dc l hb hl b c p 3 (by decide) (by decide)
  have HT3 := Hid2.mk htd3
  clear htd3
  clear hb hl
  have C := M.ruleAll; simp only [Go.Proofs.Ythdldlpflieeoaa.ruleAll] at C
  go_enter Try.func43, Try.ntmps43
  have BY0 : Byt (fun _ => 0) := ⟨fun _ _ => by decide⟩
  have HIS := Hid2.mk (fun n t (ht : Byt2 t) w1 => l01Is_any n t w1 ht)
  go_wp2_with (first | ((fail_if_success have := h_b2); ((with_reducible apply wpM_alloc' M 37 (sqs 0 fun _ _ => 0)); rfl; exact ⟨rfl, _, zero_sqs _, rfl⟩; clear M; (try clear C); intro b2 w9 h_b2 M; have C := M.ruleAll; simp only [Go.Proofs.Ythdldlpflieeoaa.ruleAll] at C)) | ((with_reducible apply wpM_alloc' M 46 (trs (fun _ => 0) (fun _ => 0) (fun _ => 0))); rfl; exact ⟨rfl, _, zero_trp _, rfl⟩; clear M; (try clear C); intro b3 w9 h_b3 M; have C := M.ruleAll; simp only [Go.Proofs.Ythdldlpflieeoaa.ruleAll] at C) | ((fail_if_success have := hbb); (go_at_call 130; ((with_reducible refine (HFR.out.at M 2 rfl).mono ?_); rintro e w2 ⟨b, rfl, hbb, M9⟩; clear M; (try clear C); have M := M9; clear M9; have C := M.ruleAll; simp only [Go.Proofs.Ythdldlpflieeoaa.ruleAll] at C))) | (go_at_call 142; ((with_reducible refine ((HSP.out b).at M 0 3 hbb rfl rfl rfl).mono ?_); rintro e w3 ⟨_, rfl, ⟨n, t, rfl, hn0, hn1, ht⟩, M9⟩; clear M; (try clear C); have M := M9; clear M9; have C := M.ruleAll; simp only [Go.Proofs.Ythdldlpflieeoaa.ruleAll] at C; have so := sqs_order n t)) | ((with_reducible apply wpM_alloc' M 37 (sqs 0 fun _ _ => 0)); rfl; exact ⟨rfl, _, zero_sqs _, rfl⟩; clear M; (try clear C); intro b5 w9 h_b5 M; have C := M.ruleAll; simp only [Go.Proofs.Ythdldlpflieeoaa.ruleAll] at C) | ((with_reducible apply wpM_sta' M 0 37 (sqs n t)); rfl; rfl; rfl; rfl; (first | exact .inl (by assumption) | exact .inr rfl | exact .inr (by assumption)); exact ⟨rfl, inf_sqs.trans (congrArg some (sqs_size ..).symm), flat_sqs _ _⟩; (simp only [entCells, List.getElem?_cons_zero, List.getElem?_cons_succ, sqs_size, sqs_size]); clear M; (try clear C); intro w9 M; simp only [List.set_cons_zero, List.set_cons_succ, entBlk, entT, List.getElem?_cons_zero, List.getElem?_cons_succ] at M; have C := M.ruleAll; simp only [Go.Proofs.Ythdldlpflieeoaa.ruleAll] at C) | ((with_reducible apply wpM_lda' M 0 37 0 (sqs n t)); rfl; rfl; rfl; exact ⟨rfl, inf_sqs.trans (congrArg some (sqs_size ..).symm), _, und_sqs, rfl⟩; exact whole_of rfl) | (go_at_call 147; fail))
  have HI := Hid2.mk (HIS.out n t ht)
  cases hs : isSq n t with
  | false =>
    rw [hs] at HI
    clear hs
    go_wp2_with (first | (go_at_call 147; ((with_reducible refine (HI.out _).mono ?_); rintro e w1 ⟨rfl, hb⟩; have hsz := M.size; (try (have G9 := G.later hb; clear G; have G := G9; clear G9)); have M9 := M.later hb; clear M; (try clear C); have M := M9; clear M9; have C := M.ruleAll; simp only [Go.Proofs.Ythdldlpflieeoaa.ruleAll] at C)))
    refine wp_region_calm 3 (fun w' => Mm no w0 w' (Ent.box b5 (sqs n t) 37 :: Ent.sv b p l.length c :: Ent.box b3 (trs (fun _ => 0) (fun _ => 0) (fun _ => 0)) 46 :: Ent.box b2 (sqs 0 fun _ _ => 0) 37 :: Ent.cd l.length p (cdF l) :: X)) (fun j => ([fun v => v = Value.agg (sqs n t), fun v => v = Value.pointer (some ⟨b, 0, none⟩), TrQ] : List (Value → Prop)).getD j fun _ => True) (by kernel_rfl) (by kernel_rfl) (by kernel_rfl) (fun j hj => match j, hj with | 0, _ => ⟨_, rfl⟩ | 1, _ => ⟨_, rfl⟩ | 2, _ => ⟨_, _, _, _, rfl, BY0, BY0, BY0⟩ | j + 3, h => absurd h (by omega)) M.drew ?_; (simp only [List.take_succ_cons, List.take_zero, List.drop_succ_cons, List.drop_zero]); clear M; (try clear C); refine wpU_cons (by intro w2 M; have C := M.ruleAll; simp only [Go.Proofs.Ythdldlpflieeoaa.ruleAll] at C; refine yield_walk (ops := #[]) (by exact rfl) (by exact rfl) (by exact Nat.le_of_ble_eq_true rfl) ?_; go_wp2_with (first | ((with_reducible apply wpM_lda' M 0 37 0 (sqs n t)); rfl; rfl; rfl; exact ⟨rfl, inf_sqs.trans (congrArg some (sqs_size ..).symm), _, und_sqs, rfl⟩; exact whole_of rfl)); all_goals (first | done | exact ⟨rfl, M⟩ | exact M)) ?_; rintro _ rfl; (simp only [Act.put, List.setIfInBounds_toArray, List.set_cons_succ, List.set_cons_zero]); refine wpU_cons (by intro w2 M; have C := M.ruleAll; simp only [Go.Proofs.Ythdldlpflieeoaa.ruleAll] at C; refine yield_walk (ops := #[]) (by exact rfl) (by exact rfl) (by exact Nat.le_of_ble_eq_true rfl) ?_; go_wp2; all_goals (first | done | exact ⟨rfl, M⟩ | exact M)) ?_; rintro _ rfl; (simp only [Act.put, List.setIfInBounds_toArray, List.set_cons_succ, List.set_cons_zero]); refine wpU_cons (by intro w2 M; have C := M.ruleAll; simp only [Go.Proofs.Ythdldlpflieeoaa.ruleAll] at C; refine yield_walk (ops := #[]) (by exact rfl) (by exact rfl) (by exact Nat.le_of_ble_eq_true rfl) ?_; go_wp2_with (first | (go_at_call 156; ((with_reducible refine ((HT3.out b).at M 1 4 hbb rfl rfl rfl).mono ?_); rintro e w3 ⟨_, rfl, ⟨f, g, h, rfl, hf, hg, hh⟩, M9⟩; clear M; (try clear C); have M := M9; clear M9; have C := M.ruleAll; simp only [Go.Proofs.Ythdldlpflieeoaa.ruleAll] at C))); all_goals (first | done | exact ⟨_, _, _, rfl, hf, hg, hh⟩ | exact M)) ?_; rintro _ ⟨f, g, h, rfl, hf, hg, hh⟩; (simp only [Act.put, List.setIfInBounds_toArray, List.set_cons_succ, List.set_cons_zero]); refine wpU_nil ?_; intro w2 M; have C := M.ruleAll; simp only [Go.Proofs.Ythdldlpflieeoaa.ruleAll] at C
    go_wp2_with (first | ((with_reducible apply wpM_sta' M 3 37 (sqs n t)); rfl; rfl; rfl; rfl; (first | exact .inl (by assumption) | exact .inr rfl | exact .inr (by assumption)); exact ⟨rfl, inf_sqs.trans (congrArg some (sqs_size ..).symm), flat_sqs _ _⟩; (simp only [entCells, List.getElem?_cons_zero, List.getElem?_cons_succ, sqs_size, sqs_size]); clear M; (try clear C); intro w9 M; simp only [List.set_cons_zero, List.set_cons_succ, entBlk, entT, List.getElem?_cons_zero, List.getElem?_cons_succ] at M; have C := M.ruleAll; simp only [Go.Proofs.Ythdldlpflieeoaa.ruleAll] at C) | ((with_reducible apply wpM_sta' M 2 46 (trs f g h)); rfl; rfl; rfl; rfl; (first | exact .inl (by assumption) | exact .inr rfl | exact .inr (by assumption)); exact ⟨rfl, inf_trp.trans (congrArg some (trs_size ..).symm), flat_trs _ _ _⟩; (simp only [entCells, List.getElem?_cons_zero, List.getElem?_cons_succ, trs_size, trs_size]); clear M; (try clear C); intro w9 M; simp only [List.set_cons_zero, List.set_cons_succ, entBlk, entT, List.getElem?_cons_zero, List.getElem?_cons_succ] at M; have C := M.ruleAll; simp only [Go.Proofs.Ythdldlpflieeoaa.ruleAll] at C))
    refine bodyPost_ret (v := .tuple #[.agg (sqs n t), .agg (trs f g h)]) (by exact results_two rfl (by exact ResV.cell rfl und_sqs rfl inf_sqs (M.box 3 rfl)) (by exact ResV.cell rfl und_trp rfl inf_trp (M.box 2 rfl))) rfl ?_
    exact ⟨_, rfl, ⟨n, t, f, g, h, rfl, hn0, hn1, ht, hf, hg, hh⟩, (((M.drop 0).drop 0).drop 0).drop 0⟩
  | true =>
    rw [hs] at HI
    have hsq := isSq_true.1 hs
    clear hs
    obtain ⟨N, rfl⟩ : ∃ N : Nat, n = N := ⟨n.toNat, by have := hsq.lo; omega⟩
    have hN0 : 1 ≤ N := by have := hsq.lo; omega
    have hN1 : N ≤ 10 := by have := hsq.hi; omega
    have hal : ∀ w1, Calls Try.prog 167 #[.agg (sqs (N : Int) t), .agg (sqs (N : Int) t), .int .i64 20] w1 fun e w' => ∃ v', e = .returned v' ∧ w'.ownsRow w1.heap.size 25 10 v' ((isos N t t fun _ => none).take 20).length (plCells ((isos N t t fun _ => none).take 20)) ∧ Below w1.heap.size w1 w' := fun w1 => l02All_any N t t 20 w1 hN0 hN1 (Lat.of_sq hsq).lt (Lat.of_sq hsq).lt (by decide) (by decide)
    have hpl : ((isos N t t fun _ => none).take 20).length ≤ 20 := by rw [List.length_take]; omega
    have hpb := Hid2.mk (fun q (hq : q ∈ (isos N t t fun _ => none).take 20) => iso_byt hN1 hq)
    have HAL := Hid2.mk hal
    clear hal hsq
    generalize (isos N t t fun _ => none).take 20 = P at HAL hpl hpb
    go_wp2_with (first | (go_at_call 147; ((with_reducible refine (HI.out _).mono ?_); rintro e w1 ⟨rfl, hb⟩; have hsz := M.size; (try (have G9 := G.later hb; clear G; have G := G9; clear G9)); have M9 := M.later hb; clear M; (try clear C); have M := M9; clear M9; have C := M.ruleAll; simp only [Go.Proofs.Ythdldlpflieeoaa.ruleAll] at C)) | ((with_reducible apply wpM_lda' M 0 37 0 (sqs (N : Int) t)); rfl; rfl; rfl; exact ⟨rfl, inf_sqs.trans (congrArg some (sqs_size ..).symm), _, und_sqs, rfl⟩; exact whole_of rfl) | (go_at_call 167; ((with_reducible refine (HAL.out _).mono ?_); rintro e w1 ⟨vP, rfl, hO, hb⟩; have hsz := M.size; have M9 := M.gain hb (x := .row w0.heap.size vP P.length (plCells P) 25 10) (own_mono hO M.size) fun k hk => (hO.lt k hk).1; clear M; (try clear C); have M := M9; clear M9; (try simp only [List.set_cons_zero, List.set_cons_succ] at M); have C := M.ruleAll; simp only [Go.Proofs.Ythdldlpflieeoaa.ruleAll] at C; clear hb hO; obtain ⟨pp3, cap3, rfl⟩ := own_form (M.row 0 rfl))) | (go_at_call 132; fail))
    (with_reducible refine ((HX.out b 2).at M 2 5 hbb rfl rfl rfl).mono ?_); rintro e w4 ⟨_, rfl, ⟨x, rfl, hx⟩, M9⟩; clear M; (try clear C); have M := M9; clear M9; have C := M.ruleAll; simp only [Go.Proofs.Ythdldlpflieeoaa.ruleAll] at C
    by_cases hc : x = 0 ∧ 0 < P.length
    · obtain ⟨hx0, hP⟩ := hc
      have hx0' : ((x : Int) == 0) = true := by rw [hx0]; rfl
      have hP' : (0 : Int) < (P.length : Int) := by omega
      clear hx0
      obtain ⟨g, cap4, hv4, _, M8⟩ := M.rowRdX 0 rfl (by omega)
      obtain ⟨rfl, rfl⟩ : pp3 = some ⟨g, 0, none⟩ ∧ cap3 = cap4 := by simpa using hv4
      clear hv4
      simp only [List.set_cons_zero] at M8
      clear M; (try clear C)
      have M := M8
      clear M8
      have C := M.ruleAll; simp only [Go.Proofs.Ythdldlpflieeoaa.ruleAll] at C
      go_wp2_with (first | (go_at_call 132; fail))
      (with_reducible refine ((HX.out b (P.length : Int)).at M 2 5 hbb rfl rfl rfl).mono ?_); rintro e w4 ⟨_, rfl, ⟨k, rfl, hk⟩, M9⟩; clear M; (try clear C); have M := M9; clear M9; have C := M.ruleAll; simp only [Go.Proofs.Ythdldlpflieeoaa.ruleAll] at C
      have hkP : k < P.length := by omega
      have hkP' : (k : Int) < (P.length : Int) := by omega
      obtain ⟨r, hr⟩ : ∃ r, r = P[k] := ⟨_, rfl⟩
      have hcells : ∀ {w3}, rds w3 g (P.length * 10) (fun j => (plCells P).getD j undef) → ∀ j v, (bys (wf r))[j]? = some v → w3.cell? ⟨g, k * 10 + j, none⟩ = some v := fun h => by rw [hr]; exact plc_cells h hkP
      have hrb := Hid2.mk (hpb.out r (by rw [hr]; exact List.getElem_mem hkP))
      have HCE := Hid2.mk @hcells
      clear hr hcells
      go_wp2_with (first | (refine wpList_load_part rfl 25 _ rfl (g) (k * 10) rfl (bys (wf r)) _ und_plc rfl inf_plc (HCE.out (M.rd 0 rfl)) ?_) | ((with_reducible apply wpM_alloc' M 25 (bys fun _ => 0)); rfl; exact ⟨rfl, _, zero_plc _, rfl⟩; clear M; (try clear C); intro b7 w9 h_b7 M; have C := M.ruleAll; simp only [Go.Proofs.Ythdldlpflieeoaa.ruleAll] at C) | ((with_reducible apply wpM_sta' M 0 25 (bys (wf r))); rfl; rfl; rfl; rfl; (first | exact .inl (by assumption) | exact .inr rfl | exact .inr (by assumption)); exact ⟨rfl, inf_plc.trans (congrArg some (bys_size ..).symm), flat_bys _⟩; (simp only [entCells, List.getElem?_cons_zero, List.getElem?_cons_succ, bys_size, bys_size]); clear M; (try clear C); intro w9 M; simp only [List.set_cons_zero, List.set_cons_succ, entBlk, entT, List.getElem?_cons_zero, List.getElem?_cons_succ] at M; have C := M.ruleAll; simp only [Go.Proofs.Ythdldlpflieeoaa.ruleAll] at C))
      refine wp_region_calmD 6 (fun D w' => Mm no w0 w' (Ent.box b7 (bys (wf r)) 25 :: Ent.rd g (P.length * 10) (fun j => (plCells P).getD j undef) :: Ent.box b5 (sqs (N : Int) t) 37 :: Ent.sv b p l.length c :: Ent.box b3 (trs (fun _ => 0) (fun _ => 0) (fun _ => 0)) 46 :: Ent.box b2 (bif D 5 then sqs (N : Int) t else sqs 0 fun _ _ => 0) 37 :: Ent.cd l.length p (cdF l) :: X)) (fun j => ([fun v => v = Value.agg (sqs (N : Int) t), fun v => v = Value.agg (bys (wf r)), fun v => v = Value.agg (bys (wf r)), fun v => v = Value.agg (bys (wf r)), fun v => v = Value.agg (trs (wf r) (wf r) (wf r)), fun _ => True] : List (Value → Prop)).getD j fun _ => True) (by kernel_rfl) (by kernel_rfl) (by kernel_rfl) (fun j hj => match j, hj with | 0, _ => ⟨_, rfl⟩ | 1, _ => ⟨_, rfl⟩ | 2, _ => ⟨_, rfl⟩ | 3, _ => ⟨_, rfl⟩ | 4, _ => ⟨_, rfl⟩ | 5, _ => ⟨undef, trivial⟩ | j + 6, h => absurd h (by omega)) (by exact M.drew) ?_; (simp only [List.take_succ_cons, List.take_zero, List.drop_succ_cons, List.drop_zero]); clear M; (try clear C); refine wpUD_cons (by intro D w2 hD M; have eD : updD D 0 5 = D 5 := updD_ne (by decide); simp only [eD]; clear hD eD; have C := M.ruleAll; simp only [Go.Proofs.Ythdldlpflieeoaa.ruleAll] at C; refine yield_walk (ops := #[]) (by exact rfl) (by exact rfl) (by exact Nat.le_of_ble_eq_true rfl) ?_; go_wp2_with (first | ((with_reducible apply wpM_lda' M 2 37 0 (sqs (N : Int) t)); rfl; rfl; rfl; exact ⟨rfl, inf_sqs.trans (congrArg some (sqs_size ..).symm), _, und_sqs, rfl⟩; exact whole_of rfl)); all_goals (first | done | exact ⟨rfl, M⟩ | exact M)) ?_; rintro _ rfl; (simp only [Act.put, List.setIfInBounds_toArray, List.set_cons_succ, List.set_cons_zero]); refine wpUD_cons (by intro D w2 hD M; have eD : updD D 1 5 = D 5 := updD_ne (by decide); simp only [eD]; clear hD eD; have C := M.ruleAll; simp only [Go.Proofs.Ythdldlpflieeoaa.ruleAll] at C; refine yield_walk (ops := #[]) (by exact rfl) (by exact rfl) (by exact Nat.le_of_ble_eq_true rfl) ?_; go_wp2_with (first | ((with_reducible apply wpM_lda' M 0 25 0 (bys (wf r))); rfl; rfl; rfl; exact ⟨rfl, inf_plc.trans (congrArg some (bys_size ..).symm), _, und_plc, rfl⟩; exact whole_of rfl)); all_goals (first | done | exact ⟨rfl, M⟩ | exact M)) ?_; rintro _ rfl; (simp only [Act.put, List.setIfInBounds_toArray, List.set_cons_succ, List.set_cons_zero]); refine wpUD_cons (by intro D w2 hD M; have eD : updD D 2 5 = D 5 := updD_ne (by decide); simp only [eD]; clear hD eD; have C := M.ruleAll; simp only [Go.Proofs.Ythdldlpflieeoaa.ruleAll] at C; refine yield_walk (ops := #[]) (by exact rfl) (by exact rfl) (by exact Nat.le_of_ble_eq_true rfl) ?_; go_wp2_with (first | ((with_reducible apply wpM_lda' M 0 25 0 (bys (wf r))); rfl; rfl; rfl; exact ⟨rfl, inf_plc.trans (congrArg some (bys_size ..).symm), _, und_plc, rfl⟩; exact whole_of rfl)); all_goals (first | done | exact ⟨rfl, M⟩ | exact M)) ?_; rintro _ rfl; (simp only [Act.put, List.setIfInBounds_toArray, List.set_cons_succ, List.set_cons_zero]); refine wpUD_cons (by intro D w2 hD M; have eD : updD D 3 5 = D 5 := updD_ne (by decide); simp only [eD]; clear hD eD; have C := M.ruleAll; simp only [Go.Proofs.Ythdldlpflieeoaa.ruleAll] at C; refine yield_walk (ops := #[]) (by exact rfl) (by exact rfl) (by exact Nat.le_of_ble_eq_true rfl) ?_; go_wp2_with (first | ((with_reducible apply wpM_lda' M 0 25 0 (bys (wf r))); rfl; rfl; rfl; exact ⟨rfl, inf_plc.trans (congrArg some (bys_size ..).symm), _, und_plc, rfl⟩; exact whole_of rfl)); all_goals (first | done | exact ⟨rfl, M⟩ | exact M)) ?_; rintro _ rfl; (simp only [Act.put, List.setIfInBounds_toArray, List.set_cons_succ, List.set_cons_zero]); refine wpUD_cons (by intro D w2 hD M; have eD : updD D 4 5 = D 5 := updD_ne (by decide); simp only [eD]; clear hD eD; have C := M.ruleAll; simp only [Go.Proofs.Ythdldlpflieeoaa.ruleAll] at C; refine yield_walk (ops := #[]) (by exact rfl) (by exact rfl) (by exact Nat.le_of_ble_eq_true rfl) ?_; go_wp2_with (first | (refine wpList_build 46 _ rfl rfl [(0, .agg (bys (wf r))), (1, .agg (bys (wf r))), (2, .agg (bys (wf r)))] rfl _ (build_trpX _ _ _ _) ?_)); all_goals (first | done | exact ⟨rfl, M⟩ | exact M)) ?_; rintro _ rfl; (simp only [Act.put, List.setIfInBounds_toArray, List.set_cons_succ, List.set_cons_zero]); refine wpUD_cons (by intro D w2 hD M; simp only [hD, cond_false] at M; simp only [updD_at, cond_true]; clear hD; have C := M.ruleAll; simp only [Go.Proofs.Ythdldlpflieeoaa.ruleAll] at C; refine yield_store (ops := #[]) (by exact rfl) (by exact rfl) ?_; go_wp2_with (first |  ((with_reducible apply wpM_sta' M 5 37 (sqs (N : Int) t)); rfl; rfl; rfl; rfl; (first | exact .inl (by assumption) | exact .inr rfl | exact .inr (by assumption)); exact ⟨rfl, inf_sqs.trans (congrArg some (sqs_size ..).symm), flat_sqs _ _⟩; (simp only [entCells, List.getElem?_cons_zero, List.getElem?_cons_succ, sqs_size, sqs_size]); clear M; (try clear C); intro w9 M; simp only [List.set_cons_zero, List.set_cons_succ, entBlk, entT, List.getElem?_cons_zero, List.getElem?_cons_succ] at M; have C := M.ruleAll; simp only [Go.Proofs.Ythdldlpflieeoaa.ruleAll] at C)); all_goals (first | exact ⟨trivial, M⟩ | exact M | exact trivial)) ?_; rintro _ _; (simp only [Act.put, List.setIfInBounds_toArray, List.set_cons_succ, List.set_cons_zero]); refine wpUD_nil ?_; intro D w2 hall M; have eD := hall 5 (by decide); simp only [eD, cond_true] at M; clear eD hall; have C := M.ruleAll; simp only [Go.Proofs.Ythdldlpflieeoaa.ruleAll] at C
      go_wp2_with (first | ((with_reducible apply wpM_sta' M 4 46 (trs (wf r) (wf r) (wf r))); rfl; rfl; rfl; rfl; (first | exact .inl (by assumption) | exact .inr rfl | exact .inr (by assumption)); exact ⟨rfl, inf_trp.trans (congrArg some (trs_size ..).symm), flat_trs _ _ _⟩; (simp only [entCells, List.getElem?_cons_zero, List.getElem?_cons_succ, trs_size, trs_size]); clear M; (try clear C); intro w9 M; simp only [List.set_cons_zero, List.set_cons_succ, entBlk, entT, List.getElem?_cons_zero, List.getElem?_cons_succ] at M; have C := M.ruleAll; simp only [Go.Proofs.Ythdldlpflieeoaa.ruleAll] at C))
      refine bodyPost_ret (v := .tuple #[.agg (sqs (N : Int) t), .agg (trs (wf r) (wf r) (wf r))]) (by exact results_two rfl (by exact ResV.cell rfl und_sqs rfl inf_sqs (M.box 5 rfl)) (by exact ResV.cell rfl und_trp rfl inf_trp (M.box 4 rfl))) rfl ?_
      exact ⟨_, rfl, ⟨_, t, _, _, _, rfl, hn0, hn1, ht, hrb.out, hrb.out, hrb.out⟩, (((((M.drop 0).drop 0).drop 0).drop 0).drop 0).drop 0⟩
    · have hcc : (((x : Int) == 0) && decide ((0 : Int) < (P.length : Int))) = false := by
        rw [Bool.and_eq_false_iff]
        by_cases h0 : x = 0
        · exact .inr (by rw [decide_eq_false_iff_not]; omega)
        · exact .inl (by simp; omega)
      by_cases h0 : x = 0
      · have h0' : ((x : Int) == 0) = true := by rw [h0]; rfl
        have hP' : ¬ (0 : Int) < (P.length : Int) := by omega
        clear hc hcc h0
        go_wp2
        refine wp_region_calm 5 (fun w' => Mm no w0 w' (Ent.row w0.heap.size (.slice pp3 P.length cap3) P.length (plCells P) 25 10 :: Ent.box b5 (sqs (N : Int) t) 37 :: Ent.sv b p l.length c :: Ent.box b3 (trs (fun _ => 0) (fun _ => 0) (fun _ => 0)) 46 :: Ent.box b2 (sqs 0 fun _ _ => 0) 37 :: Ent.cd l.length p (cdF l) :: X)) (fun j => ([fun v => v = Value.agg (sqs (N : Int) t), fun v => v = Value.pointer (some ⟨b, 0, none⟩), fun v => v = Value.pointer (some ⟨b5, 0, none⟩), fun v => v = Value.int .i64 (N : Int), TrQ] : List (Value → Prop)).getD j fun _ => True) (by kernel_rfl) (by kernel_rfl) (by kernel_rfl) (fun j hj => match j, hj with | 0, _ => ⟨_, rfl⟩ | 1, _ => ⟨_, rfl⟩ | 2, _ => ⟨_, rfl⟩ | 3, _ => ⟨_, rfl⟩ | 4, _ => ⟨_, _, _, _, rfl, BY0, BY0, BY0⟩ | j + 5, h => absurd h (by omega)) M.drew ?_; (simp only [List.take_succ_cons, List.take_zero, List.drop_succ_cons, List.drop_zero]); clear M; (try clear C); refine wpU_cons (by intro w2 M; have C := M.ruleAll; simp only [Go.Proofs.Ythdldlpflieeoaa.ruleAll] at C; refine yield_walk (ops := #[]) (by exact rfl) (by exact rfl) (by exact Nat.le_of_ble_eq_true rfl) ?_; go_wp2_with (first | ((with_reducible apply wpM_lda' M 1 37 0 (sqs (N : Int) t)); rfl; rfl; rfl; exact ⟨rfl, inf_sqs.trans (congrArg some (sqs_size ..).symm), _, und_sqs, rfl⟩; exact whole_of rfl)); all_goals (first | done | exact ⟨rfl, M⟩ | exact M)) ?_; rintro _ rfl; (simp only [Act.put, List.setIfInBounds_toArray, List.set_cons_succ, List.set_cons_zero]); refine wpU_cons (by intro w2 M; have C := M.ruleAll; simp only [Go.Proofs.Ythdldlpflieeoaa.ruleAll] at C; refine yield_walk (ops := #[]) (by exact rfl) (by exact rfl) (by exact Nat.le_of_ble_eq_true rfl) ?_; go_wp2; all_goals (first | done | exact ⟨rfl, M⟩ | exact M)) ?_; rintro _ rfl; (simp only [Act.put, List.setIfInBounds_toArray, List.set_cons_succ, List.set_cons_zero]); refine wpU_cons (by intro w2 M; have C := M.ruleAll; simp only [Go.Proofs.Ythdldlpflieeoaa.ruleAll] at C; refine yield_walk (ops := #[]) (by exact rfl) (by exact rfl) (by exact Nat.le_of_ble_eq_true rfl) ?_; go_wp2; all_goals (first | done | exact ⟨rfl, M⟩ | exact M)) ?_; rintro _ rfl; (simp only [Act.put, List.setIfInBounds_toArray, List.set_cons_succ, List.set_cons_zero]); refine wpU_cons (by intro w2 M; have C := M.ruleAll; simp only [Go.Proofs.Ythdldlpflieeoaa.ruleAll] at C; refine yield_walk (ops := #[]) (by exact rfl) (by exact rfl) (by exact Nat.le_of_ble_eq_true rfl) ?_; go_wp2; all_goals (first | done | exact ⟨rfl, M⟩ | exact M)) ?_; rintro _ rfl; (simp only [Act.put, List.setIfInBounds_toArray, List.set_cons_succ, List.set_cons_zero]); refine wpU_cons (by intro w2 M; have C := M.ruleAll; simp only [Go.Proofs.Ythdldlpflieeoaa.ruleAll] at C; refine yield_walk (ops := #[]) (by exact rfl) (by exact rfl) (by exact Nat.le_of_ble_eq_true rfl) ?_; go_wp2_with (first | (go_at_call 156; ((with_reducible refine ((HTD.out b N hN0 hN1).at M 2 5 hbb rfl rfl rfl).mono ?_); rintro e w3 ⟨_, rfl, ⟨f, g, h, rfl, hf, hg, hh⟩, M9⟩; clear M; (try clear C); have M := M9; clear M9; have C := M.ruleAll; simp only [Go.Proofs.Ythdldlpflieeoaa.ruleAll] at C))); all_goals (first | done | exact ⟨_, _, _, rfl, hf, hg, hh⟩ | exact M)) ?_; rintro _ ⟨f, g, h, rfl, hf, hg, hh⟩; (simp only [Act.put, List.setIfInBounds_toArray, List.set_cons_succ, List.set_cons_zero]); refine wpU_nil ?_; intro w2 M; have C := M.ruleAll; simp only [Go.Proofs.Ythdldlpflieeoaa.ruleAll] at C
        go_wp2_with (first | ((with_reducible apply wpM_sta' M 4 37 (sqs (N : Int) t)); rfl; rfl; rfl; rfl; (first | exact .inl (by assumption) | exact .inr rfl | exact .inr (by assumption)); exact ⟨rfl, inf_sqs.trans (congrArg some (sqs_size ..).symm), flat_sqs _ _⟩; (simp only [entCells, List.getElem?_cons_zero, List.getElem?_cons_succ, sqs_size, sqs_size]); clear M; (try clear C); intro w9 M; simp only [List.set_cons_zero, List.set_cons_succ, entBlk, entT, List.getElem?_cons_zero, List.getElem?_cons_succ] at M; have C := M.ruleAll; simp only [Go.Proofs.Ythdldlpflieeoaa.ruleAll] at C) | ((with_reducible apply wpM_sta' M 3 46 (trs f g h)); rfl; rfl; rfl; rfl; (first | exact .inl (by assumption) | exact .inr rfl | exact .inr (by assumption)); exact ⟨rfl, inf_trp.trans (congrArg some (trs_size ..).symm), flat_trs _ _ _⟩; (simp only [entCells, List.getElem?_cons_zero, List.getElem?_cons_succ, trs_size, trs_size]); clear M; (try clear C); intro w9 M; simp only [List.set_cons_zero, List.set_cons_succ, entBlk, entT, List.getElem?_cons_zero, List.getElem?_cons_succ] at M; have C := M.ruleAll; simp only [Go.Proofs.Ythdldlpflieeoaa.ruleAll] at C))
        refine bodyPost_ret (v := .tuple #[.agg (sqs (N : Int) t), .agg (trs f g h)]) (by exact results_two rfl (by exact ResV.cell rfl und_sqs rfl inf_sqs (M.box 4 rfl)) (by exact ResV.cell rfl und_trp rfl inf_trp (M.box 3 rfl))) rfl ?_
        exact ⟨_, rfl, ⟨_, t, f, g, h, rfl, hn0, hn1, ht, hf, hg, hh⟩, ((((M.drop 0).drop 0).drop 0).drop 0).drop 0⟩
      · have h0' : ((x : Int) == 0) = false := by simp; omega
        clear hc hcc h0
        go_wp2
        refine wp_region_calm 5 (fun w' => Mm no w0 w' (Ent.row w0.heap.size (.slice pp3 P.length cap3) P.length (plCells P) 25 10 :: Ent.box b5 (sqs (N : Int) t) 37 :: Ent.sv b p l.length c :: Ent.box b3 (trs (fun _ => 0) (fun _ => 0) (fun _ => 0)) 46 :: Ent.box b2 (sqs 0 fun _ _ => 0) 37 :: Ent.cd l.length p (cdF l) :: X)) (fun j => ([fun v => v = Value.agg (sqs (N : Int) t), fun v => v = Value.pointer (some ⟨b, 0, none⟩), fun v => v = Value.pointer (some ⟨b5, 0, none⟩), fun v => v = Value.int .i64 (N : Int), TrQ] : List (Value → Prop)).getD j fun _ => True) (by kernel_rfl) (by kernel_rfl) (by kernel_rfl) (fun j hj => match j, hj with | 0, _ => ⟨_, rfl⟩ | 1, _ => ⟨_, rfl⟩ | 2, _ => ⟨_, rfl⟩ | 3, _ => ⟨_, rfl⟩ | 4, _ => ⟨_, _, _, _, rfl, BY0, BY0, BY0⟩ | j + 5, h => absurd h (by omega)) M.drew ?_; (simp only [List.take_succ_cons, List.take_zero, List.drop_succ_cons, List.drop_zero]); clear M; (try clear C); refine wpU_cons (by intro w2 M; have C := M.ruleAll; simp only [Go.Proofs.Ythdldlpflieeoaa.ruleAll] at C; refine yield_walk (ops := #[]) (by exact rfl) (by exact rfl) (by exact Nat.le_of_ble_eq_true rfl) ?_; go_wp2_with (first | ((with_reducible apply wpM_lda' M 1 37 0 (sqs (N : Int) t)); rfl; rfl; rfl; exact ⟨rfl, inf_sqs.trans (congrArg some (sqs_size ..).symm), _, und_sqs, rfl⟩; exact whole_of rfl)); all_goals (first | done | exact ⟨rfl, M⟩ | exact M)) ?_; rintro _ rfl; (simp only [Act.put, List.setIfInBounds_toArray, List.set_cons_succ, List.set_cons_zero]); refine wpU_cons (by intro w2 M; have C := M.ruleAll; simp only [Go.Proofs.Ythdldlpflieeoaa.ruleAll] at C; refine yield_walk (ops := #[]) (by exact rfl) (by exact rfl) (by exact Nat.le_of_ble_eq_true rfl) ?_; go_wp2; all_goals (first | done | exact ⟨rfl, M⟩ | exact M)) ?_; rintro _ rfl; (simp only [Act.put, List.setIfInBounds_toArray, List.set_cons_succ, List.set_cons_zero]); refine wpU_cons (by intro w2 M; have C := M.ruleAll; simp only [Go.Proofs.Ythdldlpflieeoaa.ruleAll] at C; refine yield_walk (ops := #[]) (by exact rfl) (by exact rfl) (by exact Nat.le_of_ble_eq_true rfl) ?_; go_wp2; all_goals (first | done | exact ⟨rfl, M⟩ | exact M)) ?_; rintro _ rfl; (simp only [Act.put, List.setIfInBounds_toArray, List.set_cons_succ, List.set_cons_zero]); refine wpU_cons (by intro w2 M; have C := M.ruleAll; simp only [Go.Proofs.Ythdldlpflieeoaa.ruleAll] at C; refine yield_walk (ops := #[]) (by exact rfl) (by exact rfl) (by exact Nat.le_of_ble_eq_true rfl) ?_; go_wp2; all_goals (first | done | exact ⟨rfl, M⟩ | exact M)) ?_; rintro _ rfl; (simp only [Act.put, List.setIfInBounds_toArray, List.set_cons_succ, List.set_cons_zero]); refine wpU_cons (by intro w2 M; have C := M.ruleAll; simp only [Go.Proofs.Ythdldlpflieeoaa.ruleAll] at C; refine yield_walk (ops := #[]) (by exact rfl) (by exact rfl) (by exact Nat.le_of_ble_eq_true rfl) ?_; go_wp2_with (first | (go_at_call 156; ((with_reducible refine ((HTD.out b N hN0 hN1).at M 2 5 hbb rfl rfl rfl).mono ?_); rintro e w3 ⟨_, rfl, ⟨f, g, h, rfl, hf, hg, hh⟩, M9⟩; clear M; (try clear C); have M := M9; clear M9; have C := M.ruleAll; simp only [Go.Proofs.Ythdldlpflieeoaa.ruleAll] at C))); all_goals (first | done | exact ⟨_, _, _, rfl, hf, hg, hh⟩ | exact M)) ?_; rintro _ ⟨f, g, h, rfl, hf, hg, hh⟩; (simp only [Act.put, List.setIfInBounds_toArray, List.set_cons_succ, List.set_cons_zero]); refine wpU_nil ?_; intro w2 M; have C := M.ruleAll; simp only [Go.Proofs.Ythdldlpflieeoaa.ruleAll] at C
        go_wp2_with (first | ((with_reducible apply wpM_sta' M 4 37 (sqs (N : Int) t)); rfl; rfl; rfl; rfl; (first | exact .inl (by assumption) | exact .inr rfl | exact .inr (by assumption)); exact ⟨rfl, inf_sqs.trans (congrArg some (sqs_size ..).symm), flat_sqs _ _⟩; (simp only [entCells, List.getElem?_cons_zero, List.getElem?_cons_succ, sqs_size, sqs_size]); clear M; (try clear C); intro w9 M; simp only [List.set_cons_zero, List.set_cons_succ, entBlk, entT, List.getElem?_cons_zero, List.getElem?_cons_succ] at M; have C := M.ruleAll; simp only [Go.Proofs.Ythdldlpflieeoaa.ruleAll] at C) | ((with_reducible apply wpM_sta' M 3 46 (trs f g h)); rfl; rfl; rfl; rfl; (first | exact .inl (by assumption) | exact .inr rfl | exact .inr (by assumption)); exact ⟨rfl, inf_trp.trans (congrArg some (trs_size ..).symm), flat_trs _ _ _⟩; (simp only [entCells, List.getElem?_cons_zero, List.getElem?_cons_succ, trs_size, trs_size]); clear M; (try clear C); intro w9 M; simp only [List.set_cons_zero, List.set_cons_succ, entBlk, entT, List.getElem?_cons_zero, List.getElem?_cons_succ] at M; have C := M.ruleAll; simp only [Go.Proofs.Ythdldlpflieeoaa.ruleAll] at C))
        refine bodyPost_ret (v := .tuple #[.agg (sqs (N : Int) t), .agg (trs f g h)]) (by exact results_two rfl (by exact ResV.cell rfl und_sqs rfl inf_sqs (M.box 4 rfl)) (by exact ResV.cell rfl und_trp rfl inf_trp (M.box 3 rfl))) rfl ?_
        exact ⟨_, rfl, ⟨_, t, f, g, h, rfl, hn0, hn1, ht, hf, hg, hh⟩, ((((M.drop 0).drop 0).drop 0).drop 0).drop 0⟩
end Go.Proofs.Ythdldlpflieeoaa

/- The program's check of squares: a contract. -/
namespace Go.Proofs.Ythdldlpflieeoaa
set_option linter.unusedSimpArgs false
set_option linter.unusedVariables false
open Go.RowKit

theorem within_b (n lo hi : Int) (b : Bool) (hb : b = true ↔ lo ≤ n ∧ n ≤ hi) (w : World) :
    Calls Try.prog 141 #[.int .i64 n, .int .i64 lo, .int .i64 hi] w fun e w' => e = .returned (.bool b) ∧ w = w' := by
  by_cases h1 : lo ≤ n <;> by_cases h2 : n ≤ hi
  all_goals
    have hb' : b = (decide (lo ≤ n) && decide (n ≤ hi)) := by cases b <;> simp_all
    subst hb'
    clear hb
    go_enter Try.func141, Try.ntmps141
    go_wp2
    go_ret
    exact ⟨by simp [h1, h2], rfl⟩

/-- The rows and columns as far as k are those of a square. -/
structure SqAt (n : Int) (t : Nat → Nat → Nat) (x : Nat) : Prop where
  zero : ∀ y : Nat, y < 10 → (n ≤ (x : Int) ∨ n ≤ (y : Int)) → t x y = 0
  lt : (x : Int) < n → ∀ y : Nat, (y : Int) < n → (t x y : Int) < n ∧ (t y x : Int) < n
  row : (x : Int) < n → ∀ i j : Nat, (i : Int) < n → (j : Int) < n → t x i = t x j → i = j
  col : (x : Int) < n → ∀ i j : Nat, (i : Int) < n → (j : Int) < n → t i x = t j x → i = j
theorem SqAt.all {n : Int} {t : Nat → Nat → Nat} (h1 : 1 ≤ n) (h2 : n ≤ 10) (h : ∀ x, x < 10 → SqAt n t x) : isSq n t = true :=
  isSq_true.2 ⟨h1, h2,
    ⟨fun x hx hxn => ⟨h1, h2, fun y hy hyn => (h x hx).zero y hy (.inr hyn), fun y hy hyn => ((h x hx).lt hxn y hyn).1, fun i j hi hj hin e => by have := (h x hx).row hxn i j hin (by omega) e; omega⟩,
     fun x y hx hy hxn => (h x hx).zero y hy (.inl hxn)⟩,
    ⟨fun x hx hxn => ⟨h1, h2, fun y hy hyn => (h y hy).zero x hx (.inl hyn), fun y hy hyn => ((h x hx).lt hxn y hyn).2, fun i j hi hj hin e => by have := (h x hx).col hxn i j hin (by omega) e; omega⟩,
     fun x y hx hy hxn => (h y hy).zero x hx (.inr hxn)⟩⟩
theorem SqAt.of {n : Int} {t : Nat → Nat → Nat} (h : IsSq n t) {x : Nat} (hx : x < 10) : SqAt n t x where
  zero y hy hxy := by
    rcases Int.lt_or_le (x : Int) n with h1 | h1
    · exact (h.rows.row x hx h1).zero y hy (by omega)
    · exact h.rows.zero x y hx hy h1
  lt hxn y hyn := ⟨(h.rows.row x hx hxn).lt y (by have := h.hi; omega) hyn, (h.cols.row x hx hxn).lt y (by have := h.hi; omega) hyn⟩
  row hxn i j hi hj e := by
    have h1 := (h.rows.row x hx hxn).inj
    have := h.hi
    rcases Nat.lt_trichotomy i j with h2 | h2 | h2
    · exact absurd e.symm (h1 j i (by omega) h2 hj)
    · exact h2
    · exact absurd e (h1 i j (by omega) h2 hi)
  col hxn i j hi hj e := by
    have h1 := (h.cols.row x hx hxn).inj
    have := h.hi
    rcases Nat.lt_trichotomy i j with h2 | h2 | h2
    · exact absurd e.symm (h1 j i (by omega) h2 hj)
    · exact h2
    · exact absurd e (h1 i j (by omega) h2 hi)

set_option maxRecDepth 100000 in
set_option maxHeartbeats 2000000 in
theorem isSquare_any (n : Int) (t : Nat → Nat → Nat) (w : World) (hby : Byt2 t) :
    Calls Try.prog 24 #[.agg (sqs n t)] w fun e w' => e = .returned (.bool (isSq n t)) ∧ Below w.heap.size w w' := by
  have b1 := blk_new w (sqs n t) 37 w.heap.size rfl
  have hB : Below w.heap.size w (w.alloc (.cells (sqs n t) 37)) := (Below.refl _ _).alloc (by simp) _
  have so := sqs_order n t
  by_cases hn : 1 ≤ n ∧ n ≤ 10
  · obtain ⟨hn1, hn2⟩ := hn
    go_enter Try.func24, Try.ntmps24
    go_wp2_with (first | (go_at_call 141; ((with_reducible refine (within_b _ _ _ true (by simp; omega) _).mono ?_); rintro e w1 ⟨rfl, rfl⟩)))
    clear so
    go_loopw [2, 4, 5, 6, 7, 14] (fun _ _ _ _ _ i wr => ∃ k : Nat, k ≤ 10 ∧ i = .int .i64 k ∧ Below w.heap.size w wr ∧ blk wr w.heap.size (sqs n t) 37 ∧ ∀ x : Nat, x < k → SqAt n t x) (fun _ _ _ _ _ i _ => (10 - intOf i).toNat)
    case atStart => exact ⟨0, by omega, rfl, hB, b1, fun _ h => absurd h (by omega)⟩
    case round =>
      obtain ⟨k, hk, rfl, hB2, b2, hx⟩ := hrel
      have HR := Hid2.mk hx
      clear hx b1 hB
      by_cases hlt : k < 10
      · have hd : decide ((k : Int) < 10) = true := by simp; omega
        go_wp2
        obtain ⟨wo, rfl⟩ : ∃ wo : World, wo = wr := ⟨_, rfl⟩
        go_loopw [2, 5, 6, 7, 17] (fun _ r c _ j wr => ∃ l : Nat, l ≤ 10 ∧ j = .int .i64 l ∧ Below w.heap.size w wr ∧ blk wr w.heap.size (sqs n t) 37 ∧
          (∀ y : Nat, y < l → (n ≤ (k : Int) ∨ n ≤ (y : Int)) → t k y = 0) ∧ (∀ y : Nat, y < l → (k : Int) < n → (y : Int) < n → (t k y : Int) < n ∧ (t y k : Int) < n) ∧
          r = .int .i64 (if (k : Int) < n then msk (t k) (min l n.toNat) else 0 : Nat) ∧ c = .int .i64 (if (k : Int) < n then msk (fun x => t x k) (min l n.toNat) else 0 : Nat)) (fun _ _ _ _ j _ => (10 - intOf j).toNat)
        case atStart => exact ⟨0, by omega, rfl, hB2, b2, fun _ h => absurd h (by omega), fun _ h => absurd h (by omega), by simp [msk], by simp [msk]⟩
        case round =>
          obtain ⟨l, hl, rfl, hB3, b3, hz, hr, rfl, rfl⟩ := hrel
          have HZ := Hid2.mk hz
          have HL := Hid2.mk hr
          clear hz hr b2 hB2
          by_cases hlt2 : l < 10
          · have c1 := b3.cell _ _ (sqs_get (n := n) (t := t) (x := k) (y := l) hlt hlt2)
            have c2 := b3.cell _ _ (sqs_get (n := n) (t := t) (x := l) (y := k) hlt2 hlt)
            have h256 := hby.at_ k l hlt hlt2
            have h256' := hby.at_ l k hlt2 hlt
            by_cases hkn : (k : Int) < n
            · by_cases hln : (l : Int) < n
              · by_cases h1 : (t k l : Int) < n
                · by_cases h2 : (t l k : Int) < n
                  · as_aux_lemma =>
                      go_wp2
                      go_roundw
                      case rel =>
                        refine ⟨l + 1, by omega, by go_num, hB3, b3, fun y hy hyn => ?_, fun y hy hkn' hyn => ?_, ?_, ?_⟩
                        · exact absurd hyn (by omega)
                        · by_cases e : y = l
                          · subst e; exact ⟨h1, h2⟩
                          · exact HL.out y (by omega) hkn' hyn
                        · rw [if_pos hkn, msk_step (N := n.toNat) (by omega) (by omega) (fun i hi => ?_)]
                          by_cases e : i = l
                          · subst e; omega
                          · have := (HL.out i (by omega) hkn (by omega)).1; omega
                        · rw [if_pos hkn, msk_step (f := fun x => t x k) (N := n.toNat) (by omega) (by omega) (fun i hi => ?_)]
                          by_cases e : i = l
                          · subst e; omega
                          · have := (HL.out i (by omega) hkn (by omega)).2; omega
                      case measure => simp [intOf]; omega
                  · have hF : isSq n t = false := isSq_false.2 fun h => h2 ((SqAt.of h hlt).lt hkn l hln).2
                    as_aux_lemma =>
                      go_wp2
                      go_ret
                      exact ⟨by first | rfl | exact ret_b hF, hB3⟩
                · have hF : isSq n t = false := isSq_false.2 fun h => h1 ((SqAt.of h hlt).lt hkn l hln).1
                  as_aux_lemma =>
                    go_wp2
                    go_ret
                    exact ⟨by first | rfl | exact ret_b hF, hB3⟩
              · have g1 : decide (n ≤ (k : Int)) = false := by simp; omega
                have g2 : decide (n ≤ (l : Int)) = true := by simp; omega
                by_cases hz : t k l = 0
                · as_aux_lemma =>
                    go_wp2
                    go_roundw
                    case rel =>
                      refine ⟨l + 1, by omega, by go_num, hB3, b3, fun y hy hyn => ?_, fun y hy hkn' hyn => ?_, ?_, ?_⟩
                      · by_cases e : y = l
                        · subst e; exact hz
                        · exact HZ.out y (by omega) hyn
                      · exact HL.out y (by omega) hkn' hyn
                      · rw [show min (l + 1) n.toNat = min l n.toNat by omega, if_pos hkn]
                      · rw [show min (l + 1) n.toNat = min l n.toNat by omega, if_pos hkn]
                    case measure => simp [intOf]; omega
                · have hF : isSq n t = false := isSq_false.2 fun h => hz ((SqAt.of h hlt).zero l hlt2 (.inr (by omega)))
                  as_aux_lemma =>
                    go_wp2
                    go_ret
                    exact ⟨by first | rfl | exact ret_b hF, hB3⟩
            · have g1 : decide (n ≤ (k : Int)) = true := by simp; omega
              by_cases hz : t k l = 0
              · as_aux_lemma =>
                  go_wp2
                  go_roundw
                  case rel =>
                    refine ⟨l + 1, by omega, by go_num, hB3, b3, fun y hy hyn => ?_, fun y hy hkn' hyn => ?_, ?_, ?_⟩
                    · by_cases e : y = l
                      · subst e; exact hz
                      · exact HZ.out y (by omega) hyn
                    · exact absurd hkn' hkn
                    · simp [hkn]
                    · simp [hkn]
                  case measure => simp [intOf]; omega
              · have hF : isSq n t = false := isSq_false.2 fun h => hz ((SqAt.of h hlt).zero l hlt2 (.inl (by omega)))
                as_aux_lemma =>
                  go_wp2
                  go_ret
                  exact ⟨by first | rfl | exact ret_b hF, hB3⟩
          · obtain rfl : l = 10 := by omega
            rw [show min 10 n.toNat = n.toNat by omega]
            by_cases hkn : (k : Int) < n
            · rw [if_pos hkn, if_pos hkn]
              have hm1 := msk_full (t k) n.toNat (fun i hi => by have := (HL.out i (by omega) hkn (by omega)).1; omega)
              have hm2 := msk_full (fun x => t x k) n.toNat (fun i hi => by have := (HL.out i (by omega) hkn (by omega)).2; omega)
              have M1 := Hid2.mk hm1
              have M2 := Hid2.mk hm2
              clear hm1 hm2
              generalize msk (t k) n.toNat = m1 at M1 ⊢
              generalize msk (fun x => t x k) n.toNat = m2 at M2 ⊢
              have f64 := full64 (N := n.toNat) (by omega)
              obtain ⟨X, hX⟩ : ∃ X : Int, wrap64 (wrap64 (2 ^ n.toNat) - 1) = X := ⟨_, rfl⟩
              rw [hX] at f64
              have F64 := Hid2.mk f64
              clear f64
              by_cases e1 : (m1 : Int) = X
              · by_cases e2 : (m2 : Int) = X
                · as_aux_lemma =>
                    go_wp2
                    go_roundw
                    case rel =>
                      refine ⟨k + 1, by omega, by go_num, hB3, b3, fun x hx => ?_⟩
                      by_cases e : x = k
                      · subst e
                        have i1 := M1.out.1 (by have := F64.out; omega)
                        have i2 := M2.out.1 (by have := F64.out; omega)
                        exact ⟨fun y hy => HZ.out y hy, fun _ y hy => HL.out y (by omega) hkn hy, fun _ i j hi hj h => i1 i j (by omega) (by omega) h, fun _ i j hi hj h => i2 i j (by omega) (by omega) h⟩
                      · exact HR.out x (by omega)
                    case measure => simp [intOf]; omega
                · have hF : isSq n t = false := isSq_false.2 fun h => e2 (by
                    have := M2.out.2 fun i j hi hj h' => (SqAt.of h hlt).col hkn i j (by omega) (by omega) h'
                    rw [F64.out, this])
                  as_aux_lemma =>
                    go_wp2
                    go_ret
                    exact ⟨by first | rfl | exact ret_b hF, hB3⟩
              · have hF : isSq n t = false := isSq_false.2 fun h => e1 (by
                  have := M1.out.2 fun i j hi hj h' => (SqAt.of h hlt).row hkn i j (by omega) (by omega) h'
                  rw [F64.out, this])
                go_wp2
                go_ret
                exact ⟨by first | rfl | exact ret_b hF, hB3⟩
            · rw [if_neg hkn, if_neg hkn]
              as_aux_lemma =>
                go_wp2
                go_roundw
                case rel =>
                  refine ⟨k + 1, by omega, by go_num, hB3, b3, fun x hx => ?_⟩
                  by_cases e : x = k
                  · subst e
                    exact ⟨fun y hy => HZ.out y hy, fun h => absurd h hkn, fun h => absurd h hkn, fun h => absurd h hkn⟩
                  · exact HR.out x (by omega)
                case measure => simp [intOf]; omega
      · have hT := SqAt.all hn1 hn2 fun x hx => HR.out x (by omega)
        as_aux_lemma =>
          go_wp2
          go_ret
          exact ⟨by first | rfl | exact ret_b hT, hB2⟩
  · have hF : isSq n t = false := isSq_false.2 fun h => hn ⟨h.lo, h.hi⟩
    go_enter Try.func24, Try.ntmps24
    as_aux_lemma =>
      go_wp2_with (first | (go_at_call 141; ((with_reducible refine (within_b _ _ _ false (by simp; omega) _).mono ?_); rintro e w1 ⟨rfl, rfl⟩)))
      go_ret
      exact ⟨by first | rfl | exact ret_b hF, hB⟩
end Go.Proofs.Ythdldlpflieeoaa

/- Permutations and triples, for the program: contracts. -/
namespace Go.Proofs.Ythdldlpflieeoaa
set_option linter.unusedSimpArgs false
set_option linter.unusedVariables false
open Go Go.RowKit

theorem within_any (n lo hi : Int) (b : Bool) (hb : b = true ↔ lo ≤ n ∧ n ≤ hi) (w : World) : Calls Try.prog 141 #[.int .i64 n, .int .i64 lo, .int .i64 hi] w fun e w' => e = .returned (.bool b) ∧ Below w.heap.size w w' :=
  (within_b n lo hi b hb w).mono fun e w' ⟨h1, h2⟩ => ⟨h1, by rw [← h2]; exact Below.refl _ _⟩
theorem ix_bys (p : Nat → Nat) {k : Nat} (hk : k < 10) (w : World) : (Instr.index 25 (.agg (bys p)) (.int .i64 (k : Int))).run Try.prog w = .ok (.int .u8 (p k : Nat)) w :=
  match k, hk with
  | 0, _ => by kernel_rfl
  | 1, _ => by kernel_rfl
  | 2, _ => by kernel_rfl
  | 3, _ => by kernel_rfl
  | 4, _ => by kernel_rfl
  | 5, _ => by kernel_rfl
  | 6, _ => by kernel_rfl
  | 7, _ => by kernel_rfl
  | 8, _ => by kernel_rfl
  | 9, _ => by kernel_rfl
  | k + 10, h => absurd h (by omega)
theorem pm_mask {n : Int} {p : Nat → Nat} (h0 : 1 ≤ n) (h1 : n ≤ 10) (hz : ∀ i : Nat, i < 10 → n ≤ (i : Int) → p i = 0) (hl : ∀ i : Nat, i < 10 → (i : Int) < n → (p i : Int) < n) : (msk p n.toNat = 2 ^ n.toNat - 1) ↔ IsPm n p := by
  rw [msk_full p n.toNat fun i hi => by have := hl i (by omega) (by omega); omega]
  refine ⟨fun h => ⟨h0, h1, hz, hl, fun i j hi hj hn e => ?_⟩, fun h i j hi hj e => ?_⟩
  · have := h i j (by omega) (by omega) e; omega
  · exact pm_inj h (by omega) (by omega) e
set_option maxRecDepth 100000 in
set_option maxHeartbeats 4000000 in
theorem isPermutation_any (n : Int) (p : Nat → Nat) (w : World) (hby : Byt p) :
    Calls Try.prog 19 #[.agg (bys p), .int .i64 n] w fun e w' => e = .returned (.bool (isPm n p)) ∧ Below w.heap.size w w' := by
  have M := Mm.start no w
  have HW := Hid2.mk (fun b hb w1 => within_any n 1 10 b hb w1)
  by_cases hin : 1 ≤ n ∧ n ≤ 10
  · have HWT := Hid2.mk (fun w1 => HW.out true (by simp [hin]) w1)
    have h1 := hin.1
    have h2 := hin.2
    clear HW hin
    go_enter Try.func19, Try.ntmps19
    go_wp2_with (first | ((with_reducible apply wpM_box' M 25 (bys p)); rfl; exact ⟨rfl, rfl⟩; clear M; (try clear C); intro b2 w9 h_b2 M; have C := M.ruleAll; simp only [Go.Proofs.Ythdldlpflieeoaa.ruleAll] at C) | (go_at_call 141; ((with_reducible refine (HWT.out _).mono ?_); rintro e w1 ⟨rfl, hb⟩; have hsz := M.size; (try (have G9 := G.later hb; clear G; have G := G9; clear G9)); have M9 := M.later hb; clear M; (try clear C); have M := M9; clear M9; have C := M.ruleAll; simp only [Go.Proofs.Ythdldlpflieeoaa.ruleAll] at C)) | ((with_reducible apply wpM_lda' M 0 25 0 (bys p)); rfl; rfl; rfl; exact ⟨rfl, inf_plc.trans (congrArg some (bys_size ..).symm), _, und_plc, rfl⟩; exact whole_of rfl))
    go_loopw [5, 12] (fun s v wr => ∃ k : Nat, k ≤ 10 ∧ v = .int .i64 (k : Int) ∧ s = .int .i64 ((msk p (min k n.toNat) : Nat) : Int) ∧ (∀ i : Nat, i < k → n ≤ (i : Int) → p i = 0) ∧ (∀ i : Nat, i < k → (i : Int) < n → (p i : Int) < n) ∧ Mm no w wr [.box b2 (bys p) 25]) (fun _ v _ => 10 - (intOf v).toNat)
    case atStart => exact ⟨0, by omega, rfl, by rw [Nat.zero_min]; rfl, fun _ h => by omega, fun _ h => by omega, M⟩
    case round =>
      obtain ⟨k, hk, rfl, rfl, hz, hl, M9⟩ := hrel
      have HZ := Hid2.mk hz
      have HL := Hid2.mk hl
      clear hz hl
      clear M; (try clear C)
      have M := M9
      clear M9
      have C := M.ruleAll; simp only [Go.Proofs.Ythdldlpflieeoaa.ruleAll] at C
      by_cases hlt : k < 10
      · have e1 := bys_get (f := p) hlt
        have h256 := hby.at_ k hlt
        have hix := fun w1 => ix_bys p hlt w1
        have hk10 : (k : Int) < 10 := by omega
        by_cases hkn : n ≤ (k : Int)
        · by_cases h0 : p k = 0
          · have hpk : (p k : Int) = 0 := by omega
            go_wp2
            go_roundw
            case rel => exact ⟨k + 1, by omega, by go_num, by rw [show min (k + 1) n.toNat = min k n.toNat by omega], fun i hi hn => (by
              rcases Nat.lt_or_ge i k with h | h
              · exact HZ.out i h hn
              · rw [show i = k by omega]; exact h0), fun i hi hn => HL.out i (by omega) hn, M⟩
            case measure => simp [intOf]; omega
          · have hF : isPm n p = false := isPm_false.2 fun h => h0 (h.zero k hlt hkn)
            have hpk : ¬ (p k : Int) = 0 := by omega
            go_wp2
            go_ret
            exact ⟨by first | rfl | (rw [hF]; rfl) | (rw [hF]), M.below⟩
        · by_cases h0 : (p k : Int) < n
          · have hms := msk_step (f := p) (l := k) (N := n.toNat) (by omega) (by omega) (fun i hi => by
              rcases Nat.lt_or_eq_of_le hi with h | h
              · have := HL.out i h (by omega); omega
              · rw [h]; omega)
            have hp10 : (p k : Int) < 10 := by omega
            go_wp2
            go_roundw
            case rel => exact ⟨k + 1, by omega, by go_num, by first | rw [hms] | rfl, fun i hi hn => (by
              rcases Nat.lt_or_ge i k with h | h
              · exact HZ.out i h hn
              · omega), fun i hi hn => (by
              rcases Nat.lt_or_ge i k with h | h
              · exact HL.out i h hn
              · rw [show i = k by omega]; exact h0), M⟩
            case measure => simp [intOf]; omega
          · have hF : isPm n p = false := isPm_false.2 fun h => h0 (h.lt k hlt (by omega))
            have hpk : n ≤ (p k : Int) := by omega
            go_wp2
            go_ret
            exact ⟨by first | rfl | (rw [hF]; rfl) | (rw [hF]), M.below⟩
      · obtain rfl : k = 10 := by omega
        rw [show min 10 n.toNat = n.toNat by omega]
        have hiff := pm_mask h1 h2 (fun i hi hn => HZ.out i hi hn) (fun i hi hn => HL.out i hi hn)
        have hN : wrap64 (2 ^ n.toNat) = ((2 ^ n.toNat : Nat) : Int) := by
          have := Nat.pow_le_pow_right (n := 2) (by decide) (show n.toNat ≤ 10 by omega)
          rw [show ((2 : Int) ^ n.toNat) = ((2 ^ n.toNat : Nat) : Int) by norm_cast]
          generalize 2 ^ n.toNat = m at this ⊢
          unfold wrap64; omega
        have hpos : 1 ≤ 2 ^ n.toNat := Nat.one_le_two_pow
        have hB : (((msk p n.toNat : Nat) : Int) == ((2 ^ n.toNat : Nat) : Int) - 1) = isPm n p := by
          rw [Bool.eq_iff_iff, isPm_true, ← hiff, beq_iff_eq]
          omega
        have hp11 : 2 ^ n.toNat ≤ 1024 := Nat.pow_le_pow_right (n := 2) (by decide) (show n.toNat ≤ 10 by omega)
        clear hiff
        generalize 2 ^ n.toNat = E at *
        generalize msk p n.toNat = S at *
        go_wp2
        go_ret
        exact ⟨rfl, M.below⟩
  · have HWF := Hid2.mk (fun w1 => HW.out false (by simp [hin]) w1)
    have hF : isPm n p = false := isPm_false.2 fun h => hin ⟨h.lo, h.hi⟩
    clear HW hin
    go_enter Try.func19, Try.ntmps19
    go_wp2_with (first | ((with_reducible apply wpM_box' M 25 (bys p)); rfl; exact ⟨rfl, rfl⟩; clear M; (try clear C); intro b2 w9 h_b2 M; have C := M.ruleAll; simp only [Go.Proofs.Ythdldlpflieeoaa.ruleAll] at C) | (go_at_call 141; ((with_reducible refine (HWF.out _).mono ?_); rintro e w1 ⟨rfl, hb⟩; have hsz := M.size; (try (have G9 := G.later hb; clear G; have G := G9; clear G9)); have M9 := M.later hb; clear M; (try clear C); have M := M9; clear M9; have C := M.ruleAll; simp only [Go.Proofs.Ythdldlpflieeoaa.ruleAll] at C)))
    go_ret
    exact ⟨by first | rfl | (rw [hF]; rfl) | (rw [hF]), M.below⟩
/-- Whether all of m are permutations. -/
noncomputable def arB (n : Int) (L : Nat → Nat → Nat) (m : Nat) : Bool := (List.range m).all (fun i => isPm n (L i)) && decide (1 ≤ n ∧ n ≤ 10)
theorem arB_no {n : Int} {L : Nat → Nat → Nat} {m k : Nat} (hk : k < m) (h : isPm n (L k) = false) : arB n L m = false := by
  unfold arB
  rw [Bool.and_eq_false_iff]
  refine .inl ?_
  rw [List.all_eq_false]
  exact ⟨k, List.mem_range.2 hk, by rw [h]; decide⟩
theorem arB_yes {n : Int} {L : Nat → Nat → Nat} {m : Nat} (h : ∀ k, k < m → isPm n (L k) = true) : arB n L m = decide (1 ≤ n ∧ n ≤ 10) := by
  unfold arB
  rw [List.all_eq_true.2 fun k hk => h k (List.mem_range.1 hk), Bool.true_and]
set_option maxRecDepth 100000 in
set_option maxHeartbeats 4000000 in
theorem arePermutations_any (n : Int) (L : Nat → Nat → Nat) (m cap g ty : Nat) (cs : Array Value) (w : World) (hm : m ≤ 1000) (hby : ∀ i, i < m → Byt (L i)) (hb : blk w g cs ty) (hcs : ∀ i, i < m → ∀ j v, (bys (L i))[j]? = some v → cs[i * 10 + j]? = some v) :
    Calls Try.prog 134 #[.int .i64 n, .slice (some ⟨g, 0, none⟩) m cap] w fun e w' => e = .returned (.bool (arB n L m)) ∧ Below w.heap.size w w' := by
  have M := (Mm.start no w).add (x := .box g cs ty) hb fun _ h => by cases h
  have HW := Hid2.mk (within_any n 1 10 (decide (1 ≤ n ∧ n ≤ 10)) (by simp))
  have HP := Hid2.mk (fun i hi w1 => isPermutation_any n (L i) w1 (hby i hi))
  have HC := Hid2.mk hcs
  have HNO := Hid2.mk (fun k hk h => @arB_no n L m k hk h)
  have HYES := Hid2.mk (fun h => @arB_yes n L m h)
  clear hby hb hcs
  go_enter Try.func134, Try.ntmps134
  go_wp2
  go_loopw [9] (fun v wr => ∃ k : Nat, k ≤ m ∧ v = .int .i64 (k : Int) ∧ (∀ i, i < k → isPm n (L i) = true) ∧ Mm no w wr [.box g cs ty]) (fun v _ => m - (intOf v).toNat)
  case atStart => exact ⟨0, by omega, rfl, fun _ h => by omega, M⟩
  case round =>
    obtain ⟨k, hk, rfl, hall, M9⟩ := hrel
    have HA := Hid2.mk hall
    clear hall
    clear M; (try clear C)
    have M := M9
    clear M9
    have C := M.ruleAll; simp only [Go.Proofs.Ythdldlpflieeoaa.ruleAll] at C
    by_cases hlt : k < m
    · have hlt' : (k : Int) < (m : Int) := by omega
      have dlt : decide ((k : Int) < (m : Int)) = true := decide_eq_true hlt'
      have hpart := HC.out k hlt
      cases hp : isPm n (L k) with
      | true =>
        have HPK := Hid2.mk (fun w1 => HP.out k hlt w1)
        rw [hp] at HPK
        go_wp2_with (first | ((with_reducible apply wpM_alloc' M 25 (bys fun _ => 0)); rfl; exact ⟨rfl, _, zero_plc _, rfl⟩; clear M; (try clear C); intro b6 w9 h_b6 M; have C := M.ruleAll; simp only [Go.Proofs.Ythdldlpflieeoaa.ruleAll] at C) | ((with_reducible apply wpM_lda' M 0 25 (k * 10) (bys (L k))); rfl; rfl; rfl; exact ⟨rfl, inf_plc.trans (congrArg some (bys_size ..).symm), _, und_plc, rfl⟩; exact hpart) | ((with_reducible apply wpM_sta' M 0 25 (bys (L k))); rfl; rfl; rfl; rfl; (first | exact .inl (by assumption) | exact .inr rfl | exact .inr (by assumption)); exact ⟨rfl, inf_plc.trans (congrArg some (bys_size ..).symm), flat_bys _⟩; (simp only [entCells, List.getElem?_cons_zero, List.getElem?_cons_succ, bys_size, bys_size]); clear M; (try clear C); intro w9 M; simp only [List.set_cons_zero, List.set_cons_succ, entBlk, entT, List.getElem?_cons_zero, List.getElem?_cons_succ] at M; have C := M.ruleAll; simp only [Go.Proofs.Ythdldlpflieeoaa.ruleAll] at C) | ((with_reducible apply wpM_lda' M 0 25 0 (bys (L k))); rfl; rfl; rfl; exact ⟨rfl, inf_plc.trans (congrArg some (bys_size ..).symm), _, und_plc, rfl⟩; exact whole_of rfl) | (go_at_call 19; ((with_reducible refine (HPK.out _).mono ?_); rintro e w1 ⟨rfl, hb⟩; have hsz := M.size; (try (have G9 := G.later hb; clear G; have G := G9; clear G9)); have M9 := M.later hb; clear M; (try clear C); have M := M9; clear M9; have C := M.ruleAll; simp only [Go.Proofs.Ythdldlpflieeoaa.ruleAll] at C)))
        go_roundw
        case rel => exact ⟨k + 1, by omega, by go_num, fun i hi => (by
          rcases Nat.lt_or_ge i k with h | h
          · exact HA.out i h
          · rw [show i = k by omega]; exact hp), M.drop 0⟩
        case measure => simp [intOf]; omega
      | false =>
        have HPK := Hid2.mk (fun w1 => HP.out k hlt w1)
        rw [hp] at HPK
        have HF := Hid2.mk (HNO.out k hlt hp)
        go_wp2_with (first | ((with_reducible apply wpM_alloc' M 25 (bys fun _ => 0)); rfl; exact ⟨rfl, _, zero_plc _, rfl⟩; clear M; (try clear C); intro b6 w9 h_b6 M; have C := M.ruleAll; simp only [Go.Proofs.Ythdldlpflieeoaa.ruleAll] at C) | ((with_reducible apply wpM_lda' M 0 25 (k * 10) (bys (L k))); rfl; rfl; rfl; exact ⟨rfl, inf_plc.trans (congrArg some (bys_size ..).symm), _, und_plc, rfl⟩; exact hpart) | ((with_reducible apply wpM_sta' M 0 25 (bys (L k))); rfl; rfl; rfl; rfl; (first | exact .inl (by assumption) | exact .inr rfl | exact .inr (by assumption)); exact ⟨rfl, inf_plc.trans (congrArg some (bys_size ..).symm), flat_bys _⟩; (simp only [entCells, List.getElem?_cons_zero, List.getElem?_cons_succ, bys_size, bys_size]); clear M; (try clear C); intro w9 M; simp only [List.set_cons_zero, List.set_cons_succ, entBlk, entT, List.getElem?_cons_zero, List.getElem?_cons_succ] at M; have C := M.ruleAll; simp only [Go.Proofs.Ythdldlpflieeoaa.ruleAll] at C) | ((with_reducible apply wpM_lda' M 0 25 0 (bys (L k))); rfl; rfl; rfl; exact ⟨rfl, inf_plc.trans (congrArg some (bys_size ..).symm), _, und_plc, rfl⟩; exact whole_of rfl) | (go_at_call 19; ((with_reducible refine (HPK.out _).mono ?_); rintro e w1 ⟨rfl, hb⟩; have hsz := M.size; (try (have G9 := G.later hb; clear G; have G := G9; clear G9)); have M9 := M.later hb; clear M; (try clear C); have M := M9; clear M9; have C := M.ruleAll; simp only [Go.Proofs.Ythdldlpflieeoaa.ruleAll] at C)))
        go_ret
        exact ⟨by rw [HF.out]; rfl, M.below⟩
    · have hlt' : ¬ (k : Int) < (m : Int) := by omega
      have dlt : decide ((k : Int) < (m : Int)) = false := decide_eq_false hlt'
      have HY := Hid2.mk (HYES.out fun i hi => HA.out i (by omega))
      go_wp2_with (first | (go_at_call 141; ((with_reducible refine (HW.out _).mono ?_); rintro e w1 ⟨rfl, hb⟩; have hsz := M.size; (try (have G9 := G.later hb; clear G; have G := G9; clear G9)); have M9 := M.later hb; clear M; (try clear C); have M := M9; clear M9; have C := M.ruleAll; simp only [Go.Proofs.Ythdldlpflieeoaa.ruleAll] at C)))
      go_ret
      exact ⟨by rw [HY.out, Bool.decide_and]; rfl, M.below⟩
/-- Whether there is a triple. -/
noncomputable def triB (n : Int) (f g h : Nat → Nat) : Bool := isPm n f && (isPm n g && isPm n h)
theorem triB_true {n : Int} {f g h : Nat → Nat} : triB n f g h = true ↔ IsPm n f ∧ IsPm n g ∧ IsPm n h := by
  unfold triB; rw [Bool.and_eq_true, Bool.and_eq_true, isPm_true, isPm_true, isPm_true]
def tri3 (f g h : Nat → Nat) (i : Nat) : Nat → Nat := if i = 0 then f else if i = 1 then g else h
theorem arB_tri (n : Int) (f g h : Nat → Nat) : arB n (tri3 f g h) 3 = triB n f g h := by
  rw [Bool.eq_iff_iff, triB_true]
  unfold arB
  rw [Bool.and_eq_true, List.all_eq_true, decide_eq_true_eq]
  refine ⟨fun ⟨h1, _⟩ => ⟨isPm_true.1 (h1 0 (by decide)), isPm_true.1 (h1 1 (by decide)), isPm_true.1 (h1 2 (by decide))⟩, fun ⟨h1, h2, h3⟩ => ⟨fun k hk => ?_, h1.lo, h1.hi⟩⟩
  have := List.mem_range.1 hk
  have : k = 0 ∨ k = 1 ∨ k = 2 := by omega
  rcases this with rfl | rfl | rfl
  · exact isPm_true.2 h1
  · exact isPm_true.2 h2
  · exact isPm_true.2 h3
theorem tri3_part {f g h : Nat → Nat} {i : Nat} (hi : i < 3) : ∀ j v, (bys (tri3 f g h i))[j]? = some v → (trs f g h)[i * 10 + j]? = some v := fun j v hj => by
  have h10 : j < 10 := by have := (Array.getElem?_eq_some_iff.1 hj).1; rw [bys_size] at this; exact this
  rw [bys_get h10] at hj
  have : i = 0 ∨ i = 1 ∨ i = 2 := by omega
  rcases this with rfl | rfl | rfl
  · rw [← hj, show 0 * 10 + j = j by omega]; exact trs_get1 h10
  · rw [← hj, show 1 * 10 + j = 10 + j by omega]; exact trs_get2 h10
  · rw [← hj, show 2 * 10 + j = 20 + j by omega]; exact trs_get3 h10
theorem bsl_pl3 (f g h : Nat → Nat) (w : World) : (Instr.buildSlice 64 3 [(0, Value.agg (bys f)), (1, Value.agg (bys g)), (2, Value.agg (bys h))].toArray).run Try.prog w = .ok (.slice (some ⟨w.heap.size, 0, none⟩) 3 3) (w.alloc (.cells (trs f g h) 25)) := by kernel_rfl
set_option maxRecDepth 100000 in
set_option maxHeartbeats 4000000 in
theorem isTriple_any (n : Int) (f g h : Nat → Nat) (hf : Byt f) (hg : Byt g) (hh : Byt h) (w : World) :
    Calls Try.prog 41 #[.agg (trs f g h), .int .i64 n] w fun e w' => e = .returned (.bool (triB n f g h)) ∧ Below w.heap.size w w' := by
  have M := Mm.start no w
  have HA := Hid2.mk (fun b cap w1 (hb : blk w1 b (trs f g h) 25) => arePermutations_any n (tri3 f g h) 3 cap b _ _ w1 (by decide) (fun i hi => (by
    have : i = 0 ∨ i = 1 ∨ i = 2 := by omega
    rcases this with rfl | rfl | rfl
    · exact hf
    · exact hg
    · exact hh)) hb fun i hi => tri3_part hi)
  clear hf hg hh
  rw [← arB_tri]
  go_enter Try.func41, Try.ntmps41
  go_wp2_with (first | ((with_reducible apply wpM_box' M 46 (trs f g h)); rfl; exact ⟨rfl, rfl⟩; clear M; (try clear C); intro b2 w9 h_b2 M; have C := M.ruleAll; simp only [Go.Proofs.Ythdldlpflieeoaa.ruleAll] at C) | ((with_reducible apply wpM_lda' M 0 25 (0) (bys f)); rfl; rfl; rfl; exact ⟨rfl, inf_plc.trans (congrArg some (bys_size ..).symm), _, und_plc, rfl⟩; exact trs_first) | ((with_reducible apply wpM_lda' M 0 25 (10) (bys g)); rfl; rfl; rfl; exact ⟨rfl, inf_plc.trans (congrArg some (bys_size ..).symm), _, und_plc, rfl⟩; exact trs_second) | ((with_reducible apply wpM_lda' M 0 25 (20) (bys h)); rfl; rfl; rfl; exact ⟨rfl, inf_plc.trans (congrArg some (bys_size ..).symm), _, und_plc, rfl⟩; exact trs_third) | ((with_reducible apply wpM_bsl' M 64 3 25 ([(0, Value.agg (bys f)), (1, Value.agg (bys g)), (2, Value.agg (bys h))]) (trs f g h)); rfl; rfl; rfl; exact bsl_pl3 f g h; clear M; (try clear C); intro bs w9 h_bs M; have C := M.ruleAll; simp only [Go.Proofs.Ythdldlpflieeoaa.ruleAll] at C) | (go_at_call 134; ((with_reducible refine (HA.out _ _ _ (M.box 0 rfl)).mono ?_); rintro e w1 ⟨rfl, hb⟩; have hsz := M.size; (try (have G9 := G.later hb; clear G; have G := G9; clear G9)); have M9 := M.later hb; clear M; (try clear C); have M := M9; clear M9; have C := M.ruleAll; simp only [Go.Proofs.Ythdldlpflieeoaa.ruleAll] at C)))
  go_ret
  exact ⟨rfl, M.below⟩
end Go.Proofs.Ythdldlpflieeoaa

/- All isotopisms, as plain lists. -/
namespace Go.Proofs.Ythdldlpflieeoaa
set_option linter.unusedSimpArgs false
set_option linter.unusedVariables false

structure Tri where
  f : Nat → Nat
  g : Nat → Nat
  h : Nat → Nat
def trC (x : Tri) : Array Value := trs x.f x.g x.h
def tlCells (l : List Tri) : List Value := l.flatMap fun x => (trC x).toList
theorem tlCells_snoc (l : List Tri) (x : Tri) : tlCells (l ++ [x]) = tlCells l ++ (trC x).toList := by simp [tlCells]
/-- The isotopism that an isomorphism of loops gives. -/
def ownT (N : Nat) (t u : Nat → Nat → Nat) (a b : Nat) (p : List Nat) : Tri :=
  ⟨thTo (thTo (toF N t 0 0) (fun i => p.getD i 0) N) (bkTo (toF N u a b) N) N, thTo (thTo (toG N t 0 0) (fun i => p.getD i 0) N) (bkTo (toG N u a b) N) N, thTo (thTo (toH N t 0 0) (fun i => p.getD i 0) N) (bkTo (toH N u a b) N) N⟩
noncomputable def istP (N : Nat) (t u : Nat → Nat → Nat) (a b : Nat) : List (List Nat) := isos N (loopAt N t 0 0) (loopAt N u a b) fun _ => none
noncomputable def istB (N : Nat) (t u : Nat → Nat → Nat) (a b : Nat) : List Tri := (istP N t u a b).map (ownT N t u a b)
noncomputable def istA (N : Nat) (t u : Nat → Nat → Nat) (a : Nat) : List Tri := (List.range N).flatMap fun b => istB N t u a b
noncomputable def ists (N : Nat) (t u : Nat → Nat → Nat) : List Tri := (List.range N).flatMap fun a => istA N t u a
theorem istP_len {N : Nat} {t u : Nat → Nat → Nat} (h0 : 1 ≤ N) (h1 : N ≤ 10) (ht : Lat N t) (hu : Lat N u) {a b : Nat} (ha : a < N) (hb : b < N) : (istP N t u a b).length ≤ 1000000 :=
  iso_most h1 (lat_loopAt ht (by omega) (by omega)) (lat_loopAt hu ha hb).lt
theorem istP_lt {N : Nat} {t u : Nat → Nat → Nat} {a b : Nat} {p : List Nat} (hp : p ∈ istP N t u a b) : ∀ i, p.getD i 0 < N ∨ p.getD i 0 = 0 := fun i => by
  obtain ⟨⟨h1, h2⟩, _⟩ := mem_isos.1 hp
  rcases Nat.lt_or_ge i p.length with h | h
  · exact .inl (h2 _ (by rw [List.getD_eq_getElem?_getD, List.getElem?_eq_getElem h]; exact List.getElem_mem h))
  · exact .inr (by rw [List.getD_eq_getElem?_getD, List.getElem?_eq_none h]; rfl)
theorem sq_lt10 {N : Nat} {t : Nat → Nat → Nat} (h : IsSq (N : Int) t) : ∀ x y : Nat, x < 10 → y < 10 → t x y < 10 := fun x y hx hy => by
  have hi := h.hi
  have lo := h.lo
  rcases Int.lt_or_le (x : Int) N with h1 | h1
  · have hr := h.rows.row x hx h1
    rcases Int.lt_or_le (y : Int) N with h2 | h2
    · have := hr.lt y hy h2; omega
    · have := hr.zero y hy h2; omega
  · have := h.rows.zero x y hx hy h1; omega
end Go.Proofs.Ythdldlpflieeoaa

/- The order of triples, for the reference: contracts. -/
namespace Go.Proofs.Ythdldlpflieeoaa
set_option linter.unusedSimpArgs false
set_option linter.unusedVariables false
open Go Go.RowKit

/-- Lexicographically less, from place i on, for n places. -/
def lexB (f g : Nat → Nat) : Nat → Nat → Bool
  | 0, _ => false
  | n + 1, i => if f i = g i then lexB f g n (i + 1) else decide (f i < g i)
theorem lexB_succ (f g : Nat → Nat) (n i : Nat) : lexB f g (n + 1) i = if f i = g i then lexB f g n (i + 1) else decide (f i < g i) := rfl
def beforeT (x y : Tri) : Bool := if eqb x.f y.f = false then lexB x.f y.f 10 0 else if eqb x.g y.g = false then lexB x.g y.g 10 0 else lexB x.h y.h 10 0
theorem egt_plc : Try.prog.eqGuardType Try.prog.depth 25 = false := by kernel_rfl
theorem neq_plc (f g : Nat → Nat) (w : World) : (binOp .neq 25 (.agg (bys f)) (.agg (bys g))).run Try.prog w = .ok (.bool (!eqb f g)) w := by
  rw [run_neq_struct, equal_bys 9998 _ und_plc f g w]; rfl

set_option maxRecDepth 100000 in
set_option maxHeartbeats 1000000 in
theorem l02Less_any (f g : Nat → Nat) (w : World) : Calls Try.prog 268 #[.agg (bys f), .agg (bys g)] w fun e w' => e = .returned (.bool (lexB f g 10 0)) ∧ Below w.heap.size w w' := by
  have M := Mm.start no w
  go_enter Try.func268, Try.ntmps268
  go_wp2_with (first | ((with_reducible apply wpM_box' M 25 (bys f)); rfl; exact ⟨rfl, rfl⟩; clear M; (try clear C); intro bf w9 h_bf M; have C := M.ruleAll; simp only [Go.Proofs.Ythdldlpflieeoaa.ruleAll] at C) | ((with_reducible apply wpM_box' M 25 (bys g)); rfl; exact ⟨rfl, rfl⟩; clear M; (try clear C); intro bg w9 h_bg M; have C := M.ruleAll; simp only [Go.Proofs.Ythdldlpflieeoaa.ruleAll] at C))
  go_loopw [5] (fun i wr => ∃ k : Nat, k ≤ 10 ∧ i = .int .i64 (k : Int) ∧ lexB f g (10 - k) k = lexB f g 10 0 ∧ Mm no w wr [.box bg (bys g) 25, .box bf (bys f) 25]) (fun i _ => 10 - (intOf i).toNat)
  case atStart => exact ⟨0, by omega, rfl, rfl, M⟩
  case round =>
    obtain ⟨k, hk, rfl, hl, M9⟩ := hrel
    clear M; (try clear C)
    have M := M9
    clear M9
    have C := M.ruleAll; simp only [Go.Proofs.Ythdldlpflieeoaa.ruleAll] at C
    by_cases hlt : k < 10
    · have hlt' : (k : Int) < 10 := by omega
      have c1 := bys_get (f := f) hlt
      have c2 := bys_get (f := g) hlt
      rw [show 10 - k = (10 - (k + 1)) + 1 by omega, lexB_succ] at hl
      by_cases he : f k = g k
      · rw [if_pos he] at hl
        have HL := Hid2.mk hl
        clear hl
        have he' : ((f k : Int) == (g k : Int)) = true := by simp [he]
        have he2 : (f k : Int) = (g k : Int) := by omega
        have HE := Hid2.mk he
        clear he
        go_wp2
        apply wp_region_mm M 6 (by kernel_rfl) (by kernel_rfl); (simp only [List.take_succ_cons, List.take_zero]; repeat (first | exact wpText_nil | (apply wpText_cons; (intro w2 M; have C := M.ruleAll; simp only [Go.Proofs.Ythdldlpflieeoaa.ruleAll] at C; go_wp2; exact ⟨rfl, rfl, M⟩); rfl))); (clear M; (try clear C); intro w2 M; simp only [List.drop_succ_cons, List.drop_zero]; have C := M.ruleAll; simp only [Go.Proofs.Ythdldlpflieeoaa.ruleAll] at C)
        go_wp2
        go_roundw
        case rel => exact ⟨k + 1, by omega, by go_num, HL.out, M⟩
        case measure => simp [intOf]; omega
      · rw [if_neg he] at hl
        have HL := Hid2.mk hl
        clear hl
        have he' : ((f k : Int) == (g k : Int)) = false := by simp; omega
        have he2 : ¬ ((f k : Int) = (g k : Int)) := by omega
        go_wp2
        apply wp_region_mm M 6 (by kernel_rfl) (by kernel_rfl); (simp only [List.take_succ_cons, List.take_zero]; repeat (first | exact wpText_nil | (apply wpText_cons; (intro w2 M; have C := M.ruleAll; simp only [Go.Proofs.Ythdldlpflieeoaa.ruleAll] at C; go_wp2; exact ⟨rfl, rfl, M⟩); rfl))); (clear M; (try clear C); intro w2 M; simp only [List.drop_succ_cons, List.drop_zero]; have C := M.ruleAll; simp only [Go.Proofs.Ythdldlpflieeoaa.ruleAll] at C)
        go_wp2
        apply wp_region_mm M 6 (by kernel_rfl) (by kernel_rfl); (simp only [List.take_succ_cons, List.take_zero]; repeat (first | exact wpText_nil | (apply wpText_cons; (intro w2 M; have C := M.ruleAll; simp only [Go.Proofs.Ythdldlpflieeoaa.ruleAll] at C; go_wp2; exact ⟨rfl, rfl, M⟩); rfl))); (clear M; (try clear C); intro w2 M; simp only [List.drop_succ_cons, List.drop_zero]; have C := M.ruleAll; simp only [Go.Proofs.Ythdldlpflieeoaa.ruleAll] at C)
        go_wp2
        go_ret
        exact ⟨by rw [← HL.out]; simp, M.below⟩
    · obtain rfl : k = 10 := by omega
      have HL := Hid2.mk hl
      clear hl
      go_wp2
      go_ret
      exact ⟨by rw [← HL.out]; rfl, M.below⟩

set_option maxRecDepth 100000 in
set_option maxHeartbeats 1000000 in
theorem l02Before_any (f g h p q r : Nat → Nat) (w : World) : Calls Try.prog 264 #[.agg (trs f g h), .agg (trs p q r)] w fun e w' => e = .returned (.bool (beforeT ⟨f, g, h⟩ ⟨p, q, r⟩)) ∧ Below w.heap.size w w' := by
  have M := Mm.start no w
  cases e1 : eqb f p with
  | false =>
    have hB : beforeT ⟨f, g, h⟩ ⟨p, q, r⟩ = lexB f p 10 0 := by unfold beforeT; rw [if_pos e1]
    rw [hB]
    go_enter Try.func264, Try.ntmps264
    go_wp2_with (first | ((with_reducible apply wpM_box' M 46 (trs f g h)); rfl; exact ⟨rfl, rfl⟩; clear M; (try clear C); intro bf w9 h_bf M; have C := M.ruleAll; simp only [Go.Proofs.Ythdldlpflieeoaa.ruleAll] at C) | ((with_reducible apply wpM_box' M 46 (trs p q r)); rfl; exact ⟨rfl, rfl⟩; clear M; (try clear C); intro bg w9 h_bg M; have C := M.ruleAll; simp only [Go.Proofs.Ythdldlpflieeoaa.ruleAll] at C) | ((with_reducible apply wpM_lda' M 1 25 (0) (bys f)); rfl; rfl; rfl; exact ⟨rfl, inf_plc.trans (congrArg some (bys_size ..).symm), _, und_plc, rfl⟩; exact trs_first) | ((with_reducible apply wpM_lda' M 0 25 (0) (bys p)); rfl; rfl; rfl; exact ⟨rfl, inf_plc.trans (congrArg some (bys_size ..).symm), _, und_plc, rfl⟩; exact trs_first) | (refine wpList_agg_g .neq 25 _ _ _ rfl rfl (bys f) (bys p) rfl rfl egt_plc _ ((neq_plc _ _ _).trans (by rw [e1])) ?_) | (go_at_call 268; ((with_reducible refine (l02Less_any f p _).mono ?_); rintro e w1 ⟨rfl, hb⟩; have hsz := M.size; (try (have G9 := G.later hb; clear G; have G := G9; clear G9)); have M9 := M.later hb; clear M; (try clear C); have M := M9; clear M9; have C := M.ruleAll; simp only [Go.Proofs.Ythdldlpflieeoaa.ruleAll] at C)))
    go_ret
    exact ⟨rfl, M.below⟩
  | true =>
    cases e2 : eqb g q with
    | false =>
      have hB : beforeT ⟨f, g, h⟩ ⟨p, q, r⟩ = lexB g q 10 0 := by unfold beforeT; rw [if_neg (by rw [e1]; simp), if_pos e2]
      rw [hB]
      go_enter Try.func264, Try.ntmps264
      go_wp2_with (first | ((with_reducible apply wpM_box' M 46 (trs f g h)); rfl; exact ⟨rfl, rfl⟩; clear M; (try clear C); intro bf w9 h_bf M; have C := M.ruleAll; simp only [Go.Proofs.Ythdldlpflieeoaa.ruleAll] at C) | ((with_reducible apply wpM_box' M 46 (trs p q r)); rfl; exact ⟨rfl, rfl⟩; clear M; (try clear C); intro bg w9 h_bg M; have C := M.ruleAll; simp only [Go.Proofs.Ythdldlpflieeoaa.ruleAll] at C) | ((with_reducible apply wpM_lda' M 1 25 (0) (bys f)); rfl; rfl; rfl; exact ⟨rfl, inf_plc.trans (congrArg some (bys_size ..).symm), _, und_plc, rfl⟩; exact trs_first) | ((with_reducible apply wpM_lda' M 0 25 (0) (bys p)); rfl; rfl; rfl; exact ⟨rfl, inf_plc.trans (congrArg some (bys_size ..).symm), _, und_plc, rfl⟩; exact trs_first) | (refine wpList_agg_g .neq 25 _ _ _ rfl rfl (bys f) (bys p) rfl rfl egt_plc _ ((neq_plc _ _ _).trans (by rw [e1])) ?_) | ((with_reducible apply wpM_lda' M 1 25 (10) (bys g)); rfl; rfl; rfl; exact ⟨rfl, inf_plc.trans (congrArg some (bys_size ..).symm), _, und_plc, rfl⟩; exact trs_second) | ((with_reducible apply wpM_lda' M 0 25 (10) (bys q)); rfl; rfl; rfl; exact ⟨rfl, inf_plc.trans (congrArg some (bys_size ..).symm), _, und_plc, rfl⟩; exact trs_second) | (refine wpList_agg_g .neq 25 _ _ _ rfl rfl (bys g) (bys q) rfl rfl egt_plc _ ((neq_plc _ _ _).trans (by rw [e2])) ?_) | (go_at_call 268; ((with_reducible refine (l02Less_any g q _).mono ?_); rintro e w1 ⟨rfl, hb⟩; have hsz := M.size; (try (have G9 := G.later hb; clear G; have G := G9; clear G9)); have M9 := M.later hb; clear M; (try clear C); have M := M9; clear M9; have C := M.ruleAll; simp only [Go.Proofs.Ythdldlpflieeoaa.ruleAll] at C)))
      go_ret
      exact ⟨rfl, M.below⟩
    | true =>
      have hB : beforeT ⟨f, g, h⟩ ⟨p, q, r⟩ = lexB h r 10 0 := by unfold beforeT; rw [if_neg (by rw [e1]; simp), if_neg (by rw [e2]; simp)]
      rw [hB]
      go_enter Try.func264, Try.ntmps264
      go_wp2_with (first | ((with_reducible apply wpM_box' M 46 (trs f g h)); rfl; exact ⟨rfl, rfl⟩; clear M; (try clear C); intro bf w9 h_bf M; have C := M.ruleAll; simp only [Go.Proofs.Ythdldlpflieeoaa.ruleAll] at C) | ((with_reducible apply wpM_box' M 46 (trs p q r)); rfl; exact ⟨rfl, rfl⟩; clear M; (try clear C); intro bg w9 h_bg M; have C := M.ruleAll; simp only [Go.Proofs.Ythdldlpflieeoaa.ruleAll] at C) | ((with_reducible apply wpM_lda' M 1 25 (0) (bys f)); rfl; rfl; rfl; exact ⟨rfl, inf_plc.trans (congrArg some (bys_size ..).symm), _, und_plc, rfl⟩; exact trs_first) | ((with_reducible apply wpM_lda' M 0 25 (0) (bys p)); rfl; rfl; rfl; exact ⟨rfl, inf_plc.trans (congrArg some (bys_size ..).symm), _, und_plc, rfl⟩; exact trs_first) | (refine wpList_agg_g .neq 25 _ _ _ rfl rfl (bys f) (bys p) rfl rfl egt_plc _ ((neq_plc _ _ _).trans (by rw [e1])) ?_) | ((with_reducible apply wpM_lda' M 1 25 (10) (bys g)); rfl; rfl; rfl; exact ⟨rfl, inf_plc.trans (congrArg some (bys_size ..).symm), _, und_plc, rfl⟩; exact trs_second) | ((with_reducible apply wpM_lda' M 0 25 (10) (bys q)); rfl; rfl; rfl; exact ⟨rfl, inf_plc.trans (congrArg some (bys_size ..).symm), _, und_plc, rfl⟩; exact trs_second) | (refine wpList_agg_g .neq 25 _ _ _ rfl rfl (bys g) (bys q) rfl rfl egt_plc _ ((neq_plc _ _ _).trans (by rw [e2])) ?_) | ((with_reducible apply wpM_lda' M 1 25 (20) (bys h)); rfl; rfl; rfl; exact ⟨rfl, inf_plc.trans (congrArg some (bys_size ..).symm), _, und_plc, rfl⟩; exact trs_third) | ((with_reducible apply wpM_lda' M 0 25 (20) (bys r)); rfl; rfl; rfl; exact ⟨rfl, inf_plc.trans (congrArg some (bys_size ..).symm), _, und_plc, rfl⟩; exact trs_third) | (go_at_call 268; ((with_reducible refine (l02Less_any h r _).mono ?_); rintro e w1 ⟨rfl, hb⟩; have hsz := M.size; (try (have G9 := G.later hb; clear G; have G := G9; clear G9)); have M9 := M.later hb; clear M; (try clear C); have M := M9; clear M9; have C := M.ruleAll; simp only [Go.Proofs.Ythdldlpflieeoaa.ruleAll] at C)))
      go_ret
      exact ⟨rfl, M.below⟩

end Go.Proofs.Ythdldlpflieeoaa

/- Canonical loops and isotopes, plain: two squares are isotopic exactly if the least tables of their loops are equal. -/
namespace Go.Proofs.Ythdldlpflieeoaa
set_option linter.unusedSimpArgs false
set_option linter.unusedVariables false
open Go Go.RowKit

/-! ### The order of tables -/
def LexP (f g : Nat → Nat) : Prop := ∃ j, j < 10 ∧ (∀ m, m < j → f m = g m) ∧ f j < g j
theorem lexB_iff (f g : Nat → Nat) : ∀ n i, lexB f g n i = true ↔ ∃ j, i ≤ j ∧ j < i + n ∧ (∀ m, i ≤ m → m < j → f m = g m) ∧ f j < g j
  | 0, i => by
    constructor
    · intro h; simp [lexB] at h
    · rintro ⟨j, h1, h2, _⟩; omega
  | n + 1, i => by
    rw [lexB_succ]
    by_cases e : f i = g i
    · rw [if_pos e, lexB_iff f g n (i + 1)]
      constructor
      · rintro ⟨j, h1, h2, h3, h4⟩
        refine ⟨j, by omega, by omega, fun m hm hj => ?_, h4⟩
        rcases Nat.eq_or_lt_of_le hm with rfl | h
        · exact e
        · exact h3 m h hj
      · rintro ⟨j, h1, h2, h3, h4⟩
        refine ⟨j, ?_, by omega, fun m hm hj => h3 m (by omega) hj, h4⟩
        rcases Nat.eq_or_lt_of_le h1 with rfl | h
        · omega
        · exact h
    · rw [if_neg e]
      constructor
      · intro h
        exact ⟨i, by omega, by omega, fun m hm hj => absurd hm (by omega), of_decide_eq_true h⟩
      · rintro ⟨j, h1, h2, h3, h4⟩
        rcases Nat.eq_or_lt_of_le h1 with rfl | h
        · exact decide_eq_true h4
        · exact absurd (h3 i (Nat.le_refl _) h) e
theorem lexB_P {f g : Nat → Nat} : lexB f g 10 0 = true ↔ LexP f g := by
  rw [lexB_iff]
  constructor
  · rintro ⟨j, _, h2, h3, h4⟩; exact ⟨j, by omega, fun m hm => h3 m (Nat.zero_le _) hm, h4⟩
  · rintro ⟨j, h2, h3, h4⟩; exact ⟨j, Nat.zero_le _, by omega, fun m _ hm => h3 m hm, h4⟩
theorem LexP.irr {f : Nat → Nat} : ¬ LexP f f := fun ⟨_, _, _, h⟩ => by omega
theorem LexP.trans {f g h : Nat → Nat} : LexP f g → LexP g h → LexP f h := by
  rintro ⟨j, h1, h2, h3⟩ ⟨k, k1, k2, k3⟩
  rcases Nat.lt_trichotomy j k with e | e | e
  · exact ⟨j, h1, fun m hm => (h2 m hm).trans (k2 m (by omega)), by rw [← k2 j e]; exact h3⟩
  · subst e; exact ⟨j, h1, fun m hm => (h2 m hm).trans (k2 m hm), by omega⟩
  · exact ⟨k, k1, fun m hm => (h2 m (by omega)).trans (k2 m hm), by rw [h2 k e]; exact k3⟩
theorem LexP.tri {f g : Nat → Nat} (h1 : ¬ LexP f g) (h2 : ¬ LexP g f) : ∀ i, i < 10 → f i = g i := by
  have : ∀ k i, i < k → i < 10 → f i = g i := by
    intro k
    induction k with
    | zero => intro i h; omega
    | succ k ih =>
      intro i hi hi10
      rcases Nat.lt_trichotomy (f i) (g i) with e | e | e
      · exact absurd ⟨i, hi10, fun m hm => ih m (by omega) (by omega), e⟩ h1
      · exact e
      · exact absurd ⟨i, hi10, fun m hm => (ih m (by omega) (by omega)).symm, e⟩ h2
  exact fun i hi => this 10 i hi hi
theorem LexP.congr {f g f' g' : Nat → Nat} (hf : ∀ i, i < 10 → f i = f' i) (hg : ∀ i, i < 10 → g i = g' i) : LexP f g → LexP f' g' := by
  rintro ⟨j, h1, h2, h3⟩
  exact ⟨j, h1, fun m hm => by rw [← hf m (by omega), ← hg m (by omega)]; exact h2 m hm, by rw [← hf j h1, ← hg j h1]; exact h3⟩
/-- The reference's comparison of tables: row by row, from row i on, for n rows. -/
def lowB (s t : Nat → Nat → Nat) : Nat → Nat → Bool
  | 0, _ => false
  | n + 1, i => if eqb (s i) (t i) = true then lowB s t n (i + 1) else lexB (s i) (t i) 10 0
theorem lowB_succ (s t : Nat → Nat → Nat) (n i : Nat) : lowB s t (n + 1) i = if eqb (s i) (t i) = true then lowB s t n (i + 1) else lexB (s i) (t i) 10 0 := rfl
def LowP (s t : Nat → Nat → Nat) : Prop := ∃ x, x < 10 ∧ (∀ m, m < x → ∀ i, i < 10 → s m i = t m i) ∧ LexP (s x) (t x)
theorem eqb_iff {f g : Nat → Nat} : eqb f g = true ↔ ∀ i, i < 10 → f i = g i := by
  unfold eqb
  rw [decide_eq_true_iff]
  exact ⟨fun h i hi => h i (List.mem_range.2 hi), fun h i hi => h i (List.mem_range.1 hi)⟩
theorem lowB_iff (s t : Nat → Nat → Nat) : ∀ n i, lowB s t n i = true ↔ ∃ j, i ≤ j ∧ j < i + n ∧ (∀ m, i ≤ m → m < j → ∀ c, c < 10 → s m c = t m c) ∧ LexP (s j) (t j)
  | 0, i => by
    constructor
    · intro h; simp [lowB] at h
    · rintro ⟨j, h1, h2, _⟩; omega
  | n + 1, i => by
    rw [lowB_succ]
    by_cases e : eqb (s i) (t i) = true
    · rw [if_pos e, lowB_iff s t n (i + 1)]
      constructor
      · rintro ⟨j, h1, h2, h3, h4⟩
        refine ⟨j, by omega, by omega, fun m hm hj => ?_, h4⟩
        rcases Nat.eq_or_lt_of_le hm with rfl | h
        · exact eqb_iff.1 e
        · exact h3 m h hj
      · rintro ⟨j, h1, h2, h3, h4⟩
        refine ⟨j, ?_, by omega, fun m hm hj => h3 m (by omega) hj, h4⟩
        rcases Nat.eq_or_lt_of_le h1 with rfl | h
        · exact absurd (h4.congr (eqb_iff.1 e) fun _ _ => rfl) LexP.irr
        · exact h
    · rw [if_neg e, lexB_P]
      constructor
      · intro h
        exact ⟨i, by omega, by omega, fun m hm hj => absurd hm (by omega), h⟩
      · rintro ⟨j, h1, h2, h3, h4⟩
        rcases Nat.eq_or_lt_of_le h1 with rfl | h
        · exact h4
        · exact absurd (eqb_iff.2 (h3 i (Nat.le_refl _) h)) e
theorem lowB_P {s t : Nat → Nat → Nat} : lowB s t 10 0 = true ↔ LowP s t := by
  rw [lowB_iff]
  constructor
  · rintro ⟨j, _, h2, h3, h4⟩; exact ⟨j, by omega, fun m hm => h3 m (Nat.zero_le _) hm, h4⟩
  · rintro ⟨j, h2, h3, h4⟩; exact ⟨j, Nat.zero_le _, by omega, fun m _ hm => h3 m hm, h4⟩
/-- Equal tables. -/
def EqT (s t : Nat → Nat → Nat) : Prop := ∀ x, x < 10 → ∀ y, y < 10 → s x y = t x y
theorem EqT.symm {s t : Nat → Nat → Nat} (h : EqT s t) : EqT t s := fun x hx y hy => (h x hx y hy).symm
theorem EqT.trans {s t u : Nat → Nat → Nat} (h : EqT s t) (k : EqT t u) : EqT s u := fun x hx y hy => (h x hx y hy).trans (k x hx y hy)
theorem LowP.irr {s : Nat → Nat → Nat} : ¬ LowP s s := fun ⟨_, _, _, h⟩ => LexP.irr h
theorem LowP.trans {s t u : Nat → Nat → Nat} : LowP s t → LowP t u → LowP s u := by
  rintro ⟨j, h1, h2, h3⟩ ⟨k, k1, k2, k3⟩
  rcases Nat.lt_trichotomy j k with e | e | e
  · exact ⟨j, h1, fun m hm i hi => (h2 m hm i hi).trans (k2 m (by omega) i hi), h3.congr (fun _ _ => rfl) (k2 j e)⟩
  · subst e; exact ⟨j, h1, fun m hm i hi => (h2 m hm i hi).trans (k2 m hm i hi), h3.trans k3⟩
  · exact ⟨k, k1, fun m hm i hi => (h2 m (by omega) i hi).trans (k2 m hm i hi), k3.congr (fun i hi => (h2 k e i hi).symm) fun _ _ => rfl⟩
theorem LowP.tri {s t : Nat → Nat → Nat} (h1 : ¬ LowP s t) (h2 : ¬ LowP t s) : EqT s t := by
  have : ∀ k x, x < k → x < 10 → ∀ y, y < 10 → s x y = t x y := by
    intro k
    induction k with
    | zero => intro i h; omega
    | succ k ih =>
      intro x hx hx10
      exact LexP.tri (fun h => h1 ⟨x, hx10, fun m hm => ih m (by omega) (by omega), h⟩) (fun h => h2 ⟨x, hx10, fun m hm i hi => (ih m (by omega) (by omega) i hi).symm, h⟩)
  exact fun x hx => this 10 x hx hx
theorem LowP.congr {s t s' t' : Nat → Nat → Nat} (hs : EqT s s') (ht : EqT t t') : LowP s t → LowP s' t' := by
  rintro ⟨j, h1, h2, h3⟩
  exact ⟨j, h1, fun m hm i hi => by rw [← hs m (by omega) i hi, ← ht m (by omega) i hi]; exact h2 m hm i hi, h3.congr (hs j h1) (ht j h1)⟩
theorem LowP.not {s c m : Nat → Nat → Nat} (h1 : ¬ LowP s c) (h2 : ¬ LowP c m) : ¬ LowP s m := fun h => by
  by_cases e : LowP m c
  · exact h1 (h.trans e)
  · exact h1 (h.congr (fun _ _ _ _ => rfl) (LowP.tri h2 e).symm)
/-- The least of a table and of those of a list. -/
def lowStep (b x : Nat → Nat → Nat) : Nat → Nat → Nat := if lowB x b 10 0 = true then x else b
def lowest (b : Nat → Nat → Nat) (l : List (Nat → Nat → Nat)) : Nat → Nat → Nat := l.foldl lowStep b
theorem lowStep_of (b x : Nat → Nat → Nat) : (lowStep b x = b ∨ lowStep b x = x) ∧ ¬ LowP b (lowStep b x) ∧ ¬ LowP x (lowStep b x) := by
  unfold lowStep
  by_cases h : lowB x b 10 0 = true
  · rw [if_pos h]
    exact ⟨.inr rfl, fun h2 => LowP.irr (h2.trans (lowB_P.1 h)), LowP.irr⟩
  · rw [if_neg h]
    exact ⟨.inl rfl, LowP.irr, fun h2 => h (lowB_P.2 h2)⟩
theorem lowest_of : ∀ (l : List (Nat → Nat → Nat)) (b : Nat → Nat → Nat), (lowest b l = b ∨ lowest b l ∈ l) ∧ ¬ LowP b (lowest b l) ∧ ∀ x ∈ l, ¬ LowP x (lowest b l)
  | [], b => ⟨.inl rfl, LowP.irr, fun x hx => by cases hx⟩
  | y :: l, b => by
    have hs := lowStep_of b y
    have ih := lowest_of l (lowStep b y)
    have e : lowest b (y :: l) = lowest (lowStep b y) l := rfl
    rw [e]
    refine ⟨?_, LowP.not hs.2.1 ih.2.1, fun x hx => ?_⟩
    · rcases ih.1 with h | h
      · rw [h]
        rcases hs.1 with h2 | h2
        · exact .inl h2
        · rw [h2]; exact .inr (List.mem_cons_self ..)
      · exact .inr (List.mem_cons_of_mem _ h)
    · rcases List.mem_cons.1 hx with rfl | hx
      · exact LowP.not hs.2.2 ih.2.1
      · exact ih.2.2 x hx

/-! ### All permutations that keep what comes first -/
/-- p with the numbers at k and at i exchanged. -/
def swp (p : Nat → Nat) (k i : Nat) : Nat → Nat := fun j => if j = i then p k else if j = k then p i else p j
def lvs : Nat → Nat → (Nat → Nat) → List (Nat → Nat)
  | 0, _, p => [p]
  | d + 1, k, p => (List.range (d + 1)).flatMap fun i => lvs d (k + 1) (swp p k (k + i))
theorem swp_pm {N k i : Nat} {p : Nat → Nat} (hp : Pm N p) (hk : k < N) (hi : i < N) : Pm N (swp p k i) where
  lt j hj := by
    unfold swp
    split
    · exact hp.lt _ hk
    · split
      · exact hp.lt _ hi
      · exact hp.lt _ hj
  inj a b ha hb h := by
    unfold swp at h
    repeat' split at h
    all_goals first | omega | (have := hp.inj _ _ ‹_› ‹_› h; omega) | (have := hp.inj _ _ hk hi h; omega) | (have := hp.inj _ _ hi hk h; omega) | (have := hp.inj _ _ hk hb h; omega) | (have := hp.inj _ _ ha hk h; omega) | (have := hp.inj _ _ hi hb h; omega) | (have := hp.inj _ _ ha hi h; omega) | (have := hp.inj _ _ ha hb h; omega)
theorem lvs_pm {N : Nat} : ∀ (d k : Nat) (p : Nat → Nat), k + d = N → Pm N p → ∀ r ∈ lvs d k p, Pm N r ∧ ∀ j, j < k → r j = p j
  | 0, k, p, _, hp, r, hr => by
    rw [lvs, List.mem_singleton] at hr
    subst hr
    exact ⟨hp, fun _ _ => rfl⟩
  | d + 1, k, p, hN, hp, r, hr => by
    obtain ⟨i, hi, hr⟩ := List.mem_flatMap.1 hr
    have hi := List.mem_range.1 hi
    obtain ⟨h1, h2⟩ := lvs_pm d (k + 1) _ (by omega) (swp_pm hp (by omega) (by omega)) r hr
    refine ⟨h1, fun j hj => ?_⟩
    rw [h2 j (by omega)]
    unfold swp
    rw [if_neg (by omega), if_neg (by omega)]
theorem lvs_all {N : Nat} : ∀ (d k : Nat) (p : Nat → Nat), k + d = N → Pm N p → ∀ r, Pm N r → (∀ j, j < k → r j = p j) → ∃ r' ∈ lvs d k p, ∀ j, j < N → r' j = r j
  | 0, k, p, hN, hp, r, hr, h => ⟨p, List.mem_singleton.2 rfl, fun j hj => (h j (by omega)).symm⟩
  | d + 1, k, p, hN, hp, r, hr, h => by
    obtain ⟨i, hi, e⟩ := hp.surj (hr.lt k (by omega))
    have hki : k ≤ i := by
      rcases Nat.lt_or_ge i k with h2 | h2
      · rw [← h i h2] at e
        have := hr.inj _ _ hi (by omega) e
        omega
      · exact h2
    obtain ⟨i', rfl⟩ := Nat.exists_eq_add_of_le hki
    obtain ⟨r', h1, h2⟩ := lvs_all d (k + 1) (swp p k (k + i')) (by omega) (swp_pm hp (by omega) hi) r hr fun j hj => by
      unfold swp
      rcases Nat.lt_or_ge j k with h3 | h3
      · rw [if_neg (by omega), if_neg (by omega)]; exact h j h3
      · obtain rfl : j = k := by omega
        by_cases h4 : j = j + i'
        · rw [if_pos h4]; rw [← e, ← h4]
        · rw [if_neg h4, if_pos rfl, e]
    exact ⟨r', List.mem_flatMap.2 ⟨i', List.mem_range.2 (by omega), h1⟩, h2⟩
theorem idTo_pm (N : Nat) : Pm N (idTo N) where
  lt i hi := by unfold idTo; rw [if_pos hi]; exact hi
  inj i j hi hj h := by unfold idTo at h; rw [if_pos hi, if_pos hj] at h; exact h

/-! ### Isotopic squares -/
theorem isoW_out {N : Nat} {t : Nat → Nat → Nat} {f g h : Nat → Nat} (hf : Pm N f) (hg : Pm N g) {i j : Nat} (hij : N ≤ i ∨ N ≤ j) : ∀ m, m ≤ N * N → isoW N t f g h m i j = 0
  | 0, _ => rfl
  | m + 1, hm => by
    have hN : 0 < N := by
      rcases Nat.eq_zero_or_pos N with rfl | h
      · simp at hm
      · exact h
    have e : isoW N t f g h (m + 1) i j = if i = f (m / N) ∧ j = g (m % N) then h (t (m / N) (m % N)) else isoW N t f g h m i j := rfl
    rw [e, if_neg, isoW_out hf hg hij m (by omega)]
    rintro ⟨rfl, rfl⟩
    have h1 := hf.lt _ (Nat.div_lt_of_lt_mul (show m < N * N by omega))
    have h2 := hg.lt _ (Nat.mod_lt m hN)
    omega
structure Itp (N : Nat) (t u : Nat → Nat → Nat) (f g h : Nat → Nat) : Prop where
  pf : Pm N f
  pg : Pm N g
  ph : Pm N h
  hom : ∀ x y, x < N → y < N → u (f x) (g y) = h (t x y)
theorem loopAt_itp {N : Nat} {t : Nat → Nat → Nat} (ht : Lat N t) {a b : Nat} (ha : a < N) (hb : b < N) : Itp N t (loopAt N t a b) (toF N t a b) (toG N t a b) (toH N t a b) :=
  ⟨pm_toF ht ha hb, pm_toG ht ha hb, pm_toH ht ha hb, fun _ _ hx hy => isoW_all (pm_toF ht ha hb) (pm_toG ht ha hb) hx hy⟩
/-- 0 is the identity. -/
structure Idn (N : Nat) (s : Nat → Nat → Nat) : Prop where
  left : ∀ y, y < N → s 0 y = y
  right : ∀ x, x < N → s x 0 = x
theorem xch_self (N e : Nat) : xch N e e = 0 := by simp [xch]
theorem xch_zero (N e : Nat) : xch N e 0 = e := by
  unfold xch
  by_cases h : 0 = e
  · rw [if_pos h]; exact h
  · rw [if_neg h, if_pos rfl]
theorem xch_xch {N e z : Nat} (hz : z < N) : xch N e (xch N e z) = z := by
  by_cases h1 : z = e
  · subst h1
    rw [xch_self, xch_zero]
  · by_cases h2 : z = 0
    · subst h2
      rw [xch_zero, xch_self]
    · have e1 : xch N e z = z := by unfold xch idTo; rw [if_neg h1, if_neg h2, if_pos hz]
      rw [e1, e1]
theorem loopAt_idn {N : Nat} {t : Nat → Nat → Nat} (ht : Lat N t) {a b : Nat} (ha : a < N) (hb : b < N) : Idn N (loopAt N t a b) := by
  have I := loopAt_itp ht ha hb
  have ef : toF N t a b a = 0 := by unfold toF thTo; rw [if_pos ha]; exact xch_self N _
  have eg : toG N t a b b = 0 := by unfold toG thTo; rw [if_pos hb]; exact xch_self N _
  refine ⟨fun y hy => ?_, fun x hx => ?_⟩
  · obtain ⟨z, hz, rfl⟩ := I.pg.surj hy
    have := I.hom a z ha hz
    rw [ef] at this
    rw [this]
    unfold toG thTo toH
    rw [if_pos hz]
  · obtain ⟨z, hz, rfl⟩ := I.pf.surj hx
    have := I.hom z b hz hb
    rw [eg] at this
    rw [this]
    unfold toF thTo toH
    rw [if_pos hz]
/-- A loop that is isotopic to a square is isomorphic to one of its loops, and the isomorphism keeps 0. -/
theorem albert {N : Nat} {t s : Nat → Nat → Nat} {f g h : Nat → Nat} (ht : Lat N t) (hs : Idn N s) (I : Itp N t s f g h) (hN : 0 < N) :
    ∃ a b p, a < N ∧ b < N ∧ Pm N p ∧ p 0 = 0 ∧ ∀ x y, x < N → y < N → s (p x) (p y) = p (loopAt N t a b x y) := by
  obtain ⟨a, ha, ea⟩ := I.pf.surj hN
  obtain ⟨b, hb, eb⟩ := I.pg.surj hN
  have J := loopAt_itp ht ha hb
  have hx := J.ph
  have hlt := ht.lt a b ha hb
  have hbf : ∀ x, x < N → h (toH N t a b (toF N t a b x)) = f x := fun x hx => by
    have e1 : toH N t a b (toF N t a b x) = t x b := by
      unfold toF thTo toH
      rw [if_pos hx]
      exact xch_xch (ht.lt x b hx hb)
    rw [e1, ← I.hom x b hx hb, eb, hs.right _ (I.pf.lt x hx)]
  have hbg : ∀ y, y < N → h (toH N t a b (toG N t a b y)) = g y := fun y hy => by
    have e1 : toH N t a b (toG N t a b y) = t a y := by
      unfold toG thTo toH
      rw [if_pos hy]
      exact xch_xch (ht.lt a y ha hy)
    rw [e1, ← I.hom a y ha hy, ea, hs.left _ (I.pg.lt y hy)]
  have hbh : ∀ z, z < N → toH N t a b (toH N t a b z) = z := fun z hz => xch_xch hz
  refine ⟨a, b, fun z => h (toH N t a b z), ha, hb, ⟨fun i hi => I.ph.lt _ (hx.lt i hi), fun i j hi hj e => hx.inj i j hi hj (I.ph.inj _ _ (hx.lt i hi) (hx.lt j hj) e)⟩, ?_, fun x y hx hy => ?_⟩
  · show h (toH N t a b 0) = 0
    have e1 : toH N t a b 0 = t a b := xch_zero ..
    rw [e1, ← I.hom a b ha hb, ea, eb]
    exact hs.left 0 hN
  · obtain ⟨z, hz, rfl⟩ := J.pf.surj hx
    obtain ⟨u, hu, rfl⟩ := J.pg.surj hy
    show s (h (toH N t a b _)) (h (toH N t a b _)) = h (toH N t a b (loopAt N t a b _ _))
    rw [hbf z hz, hbg u hu, J.hom z u hz hu, hbh _ (ht.lt z u hz hu), I.hom z u hz hu]
theorem Itp.comp {N : Nat} {t u s : Nat → Nat → Nat} {f g h f' g' h' : Nat → Nat} (I : Itp N t u f g h) (J : Itp N u s f' g' h') (ht : Lat N t) : Itp N t s (fun x => f' (f x)) (fun x => g' (g x)) (fun x => h' (h x)) where
  pf := ⟨fun i hi => J.pf.lt _ (I.pf.lt i hi), fun i j hi hj e => I.pf.inj i j hi hj (J.pf.inj _ _ (I.pf.lt i hi) (I.pf.lt j hj) e)⟩
  pg := ⟨fun i hi => J.pg.lt _ (I.pg.lt i hi), fun i j hi hj e => I.pg.inj i j hi hj (J.pg.inj _ _ (I.pg.lt i hi) (I.pg.lt j hj) e)⟩
  ph := ⟨fun i hi => J.ph.lt _ (I.ph.lt i hi), fun i j hi hj e => I.ph.inj i j hi hj (J.ph.inj _ _ (I.ph.lt i hi) (I.ph.lt j hj) e)⟩
  hom x y hx hy := by rw [J.hom _ _ (I.pf.lt x hx) (I.pg.lt y hy), I.hom x y hx hy]
/-- What leads back. -/
noncomputable def inv (N : Nat) (f : Nat → Nat) : Nat → Nat := fun v => if h : ∃ i, i < N ∧ f i = v then Classical.choose h else 0
theorem inv_at {N : Nat} {f : Nat → Nat} (h : Pm N f) {v : Nat} (hv : v < N) : inv N f v < N ∧ f (inv N f v) = v := by
  have he := h.surj hv
  unfold inv
  rw [dif_pos he]
  exact Classical.choose_spec he
theorem inv_pm {N : Nat} {f : Nat → Nat} (h : Pm N f) : Pm N (inv N f) :=
  ⟨fun i hi => (inv_at h hi).1, fun i j hi hj e => by rw [← (inv_at h hi).2, ← (inv_at h hj).2, e]⟩
theorem inv_self {N : Nat} {f : Nat → Nat} (h : Pm N f) {i : Nat} (hi : i < N) : inv N f (f i) = i :=
  h.inj _ _ (inv_at h (h.lt i hi)).1 hi (inv_at h (h.lt i hi)).2
theorem Itp.back {N : Nat} {t u : Nat → Nat → Nat} {f g h : Nat → Nat} (I : Itp N t u f g h) (ht : Lat N t) : Itp N u t (inv N f) (inv N g) (inv N h) where
  pf := inv_pm I.pf
  pg := inv_pm I.pg
  ph := inv_pm I.ph
  hom x y hx hy := by
    have h1 := inv_at I.pf hx
    have h2 := inv_at I.pg hy
    have := I.hom _ _ h1.1 h2.1
    rw [h1.2, h2.2] at this
    rw [this, inv_self I.ph (ht.lt _ _ h1.1 h2.1)]
/-- The loops with identity 0 that are isotopic to a square, as tables. -/
structure InS (N : Nat) (t s : Nat → Nat → Nat) : Prop where
  out : ∀ i j, N ≤ i ∨ N ≤ j → s i j = 0
  idn : Idn N s
  itp : ∃ f g h, Itp N t s f g h
/-- The canonical loop: the least table of a loop and of those that renamings make of it. -/
def canL (N : Nat) (s : Nat → Nat → Nat) : List (Nat → Nat → Nat) := (lvs (N - 1) 1 (idTo N)).map fun p => isoW N s p p p (N * N)
def canT (N : Nat) (s : Nat → Nat → Nat) : Nat → Nat → Nat := lowest s (canL N s)
/-- The canonical isotope: the least canonical loop of the loops of a square. -/
def canR (N : Nat) (t : Nat → Nat → Nat) (a : Nat) : List (Nat → Nat → Nat) := (List.range N).map fun b => canT N (loopAt N t a b)
def canI (N : Nat) (t : Nat → Nat → Nat) : Nat → Nat → Nat := lowest (canT N (loopAt N t 0 0)) ((List.range N).flatMap fun a => canR N t a)
theorem loopAt_in {N : Nat} {t : Nat → Nat → Nat} (ht : Lat N t) {a b : Nat} (ha : a < N) (hb : b < N) : InS N t (loopAt N t a b) :=
  ⟨fun _ _ h => isoW_out (pm_toF ht ha hb) (pm_toG ht ha hb) h _ (Nat.le_refl _), loopAt_idn ht ha hb, _, _, _, loopAt_itp ht ha hb⟩
theorem canT_in {N : Nat} {t s : Nat → Nat → Nat} (hN : 0 < N) (ht : Lat N t) (h : InS N t s) : InS N t (canT N s) := by
  rcases (lowest_of (canL N s) s).1 with e | e
  · unfold canT; rw [e]; exact h
  · unfold canT
    obtain ⟨p, hp, e2⟩ := List.mem_map.1 e
    rw [← e2]
    obtain ⟨h1, h2⟩ := lvs_pm (N := N) (N - 1) 1 (idTo N) (by omega) (idTo_pm N) p hp
    have h0 : p 0 = 0 := by rw [h2 0 (by omega)]; unfold idTo; rw [if_pos hN]
    obtain ⟨f, g, h', I⟩ := h.itp
    refine ⟨fun i j hij => isoW_out h1 h1 hij _ (Nat.le_refl _), ⟨fun y hy => ?_, fun x hx => ?_⟩, _, _, _, I.comp (s := isoW N s p p p (N * N)) (f' := p) (g' := p) (h' := p) ⟨h1, h1, h1, fun x y hx hy => isoW_all h1 h1 hx hy⟩ ht⟩
    · obtain ⟨z, hz, rfl⟩ := h1.surj hy
      have := isoW_all (t := s) (h := p) h1 h1 hN hz
      rw [h0, h.idn.left z hz] at this
      exact this
    · obtain ⟨z, hz, rfl⟩ := h1.surj hx
      have := isoW_all (t := s) (h := p) h1 h1 hz hN
      rw [h0, h.idn.right z hz] at this
      exact this
theorem canI_in {N : Nat} {t : Nat → Nat → Nat} (hN : 0 < N) (ht : Lat N t) : InS N t (canI N t) := by
  unfold canI
  rcases (lowest_of ((List.range N).flatMap fun a => canR N t a) (canT N (loopAt N t 0 0))).1 with e | e
  · rw [e]; exact canT_in hN ht (loopAt_in ht hN hN)
  · obtain ⟨a, ha, e2⟩ := List.mem_flatMap.1 e
    obtain ⟨b, hb, e3⟩ := List.mem_map.1 e2
    rw [← e3]
    exact canT_in hN ht (loopAt_in ht (List.mem_range.1 ha) (List.mem_range.1 hb))
theorem canI_least {N : Nat} {t s : Nat → Nat → Nat} (hN : 0 < N) (ht : Lat N t) (h : InS N t s) : ¬ LowP s (canI N t) := by
  obtain ⟨f, g, h', I⟩ := h.itp
  obtain ⟨a, b, p, ha, hb, hp, hp0, hom⟩ := albert ht h.idn I hN
  obtain ⟨r, hr, er⟩ := lvs_all (N := N) (N - 1) 1 (idTo N) (by omega) (idTo_pm N) p hp fun j hj => by
    obtain rfl : j = 0 := by omega
    rw [hp0]; unfold idTo; rw [if_pos hN]
  have hrp := (lvs_pm (N := N) (N - 1) 1 (idTo N) (by omega) (idTo_pm N) r hr).1
  have e : EqT s (isoW N (loopAt N t a b) r r r (N * N)) := fun x _ y _ => by
    rcases Nat.lt_or_ge x N with hx | hx
    · rcases Nat.lt_or_ge y N with hy | hy
      · obtain ⟨z, hz, rfl⟩ := hrp.surj hx
        obtain ⟨u, hu, rfl⟩ := hrp.surj hy
        rw [isoW_all hrp hrp hz hu, er z hz, er u hu, hom z u hz hu, er _ ((lat_loopAt ht ha hb).lt z u hz hu)]
      · rw [h.out x y (.inr hy), isoW_out hrp hrp (.inr hy) _ (Nat.le_refl _)]
    · rw [h.out x y (.inl hx), isoW_out hrp hrp (.inl hx) _ (Nat.le_refl _)]
  have h1 : ¬ LowP s (canT N (loopAt N t a b)) := fun hl =>
    (lowest_of (canL N (loopAt N t a b)) (loopAt N t a b)).2.2 _ (List.mem_map.2 ⟨r, hr, rfl⟩) (hl.congr e fun _ _ _ _ => rfl)
  have h2 : ¬ LowP (canT N (loopAt N t a b)) (canI N t) :=
    (lowest_of ((List.range N).flatMap fun a => canR N t a) (canT N (loopAt N t 0 0))).2.2 _ (List.mem_flatMap.2 ⟨a, List.mem_range.2 ha, List.mem_map.2 ⟨b, List.mem_range.2 hb, rfl⟩⟩)
  exact LowP.not h1 h2
theorem InS.move {N : Nat} {t u s : Nat → Nat → Nat} {f g h : Nat → Nat} (ht : Lat N t) (hu : Lat N u) (I : Itp N t u f g h) (S : InS N t s) : InS N u s := by
  obtain ⟨f', g', h', J⟩ := S.itp
  exact ⟨S.out, S.idn, _, _, _, (I.back ht).comp J hu⟩
theorem InS.congr {N : Nat} {t s s' : Nat → Nat → Nat} (h10 : N ≤ 10) (e : EqT s s') (S : InS N t s) (hS' : ∀ i j, N ≤ i ∨ N ≤ j → s' i j = 0) : InS N t s' := by
  obtain ⟨f', g', h', J⟩ := S.itp
  exact ⟨hS', ⟨fun y hy => by rw [← e 0 (by omega) y (by omega)]; exact S.idn.left y hy, fun x hx => by rw [← e x (by omega) 0 (by omega)]; exact S.idn.right x hx⟩, f', g', h', J.pf, J.pg, J.ph, fun x y hx hy => by
    have h1 := J.pf.lt x hx
    have h2 := J.pg.lt y hy
    rw [← e _ (by omega) _ (by omega)]; exact J.hom x y hx hy⟩
/-- Two squares are isotopic exactly if their canonical isotopes are equal. -/
theorem canI_eq {N : Nat} {t u : Nat → Nat → Nat} (hN : 0 < N) (h10 : N ≤ 10) (ht : Lat N t) (hu : Lat N u) : EqT (canI N t) (canI N u) ↔ ∃ f g h, Itp N t u f g h := by
  constructor
  · intro e
    have S := (canI_in hN ht).congr h10 e (canI_in hN hu).out
    obtain ⟨f, g, h, I⟩ := S.itp
    obtain ⟨f', g', h', J⟩ := (canI_in hN hu).itp
    exact ⟨_, _, _, I.comp (J.back hu) ht⟩
  · rintro ⟨f, g, h, I⟩
    exact LowP.tri (canI_least hN hu ((canI_in hN ht).move ht hu I)) (canI_least hN ht ((canI_in hN hu).move hu ht (I.back ht)))
theorem getD_mapR (N : Nat) (f : Nat → Nat) {i : Nat} (hi : i < N) : ((List.range N).map f).getD i 0 = f i := by
  rw [List.getD_eq_getElem?_getD, List.getElem?_map, List.getElem?_range hi]; rfl
/-- There is an isotopism exactly if there are isomorphisms between loops. -/
theorem ists_ne {N : Nat} {t u : Nat → Nat → Nat} (hN : 0 < N) (ht : Lat N t) (hu : Lat N u) : ists N t u ≠ [] ↔ ∃ f g h, Itp N t u f g h := by
  constructor
  · intro h
    obtain ⟨x, hx⟩ := List.exists_mem_of_ne_nil _ h
    obtain ⟨a, ha, hx⟩ := List.mem_flatMap.1 hx
    obtain ⟨b, hb, hx⟩ := List.mem_flatMap.1 hx
    obtain ⟨p, hp, _⟩ := List.mem_map.1 hx
    have ha := List.mem_range.1 ha
    have hb := List.mem_range.1 hb
    obtain ⟨⟨hl, hlt⟩, hI, _⟩ := mem_isos.1 hp
    have hpm : Pm N fun i => p.getD i 0 := ⟨fun i hi => hlt _ (by rw [List.getD_eq_getElem?_getD, List.getElem?_eq_getElem (by omega)]; exact List.getElem_mem _), fun i j hi hj e => hI.inj i j hi hj e⟩
    have I2 : Itp N (loopAt N t 0 0) (loopAt N u a b) (fun i => p.getD i 0) (fun i => p.getD i 0) (fun i => p.getD i 0) := ⟨hpm, hpm, hpm, fun x y hx hy => (hI.hom x y hx hy).symm⟩
    exact ⟨_, _, _, ((loopAt_itp ht hN hN).comp I2 ht).comp ((loopAt_itp hu ha hb).back hu) ht⟩
  · rintro ⟨f, g, h, I⟩
    have L0 := lat_loopAt ht hN hN
    obtain ⟨a, b, p, ha, hb, hp, _, hom⟩ := albert hu (loopAt_idn ht hN hN) ((I.back ht).comp (loopAt_itp ht hN hN) hu) hN
    have hq := inv_pm hp
    have hm : (List.range N).map (inv N p) ∈ istP N t u a b := by
      refine mem_isos.2 ⟨⟨by simp, fun v hv => ?_⟩, ⟨fun x y hx hy => ?_, fun x y hx hy e => ?_⟩, fun _ _ _ h => by cases h⟩
      · obtain ⟨i, hi, rfl⟩ := List.mem_map.1 hv
        exact hq.lt i (List.mem_range.1 hi)
      · rw [getD_mapR N _ hx, getD_mapR N _ hy, getD_mapR N _ (L0.lt x y hx hy)]
        have h1 := inv_at hp hx
        have h2 := inv_at hp hy
        have := hom _ _ h1.1 h2.1
        rw [h1.2, h2.2] at this
        rw [this, inv_self hp ((lat_loopAt hu ha hb).lt _ _ h1.1 h2.1)]
      · rw [getD_mapR N _ hx, getD_mapR N _ hy] at e
        exact hq.inj x y hx hy e
    intro h0
    have hmem : ownT N t u a b ((List.range N).map (inv N p)) ∈ ists N t u := List.mem_flatMap.2 ⟨a, List.mem_range.2 ha, List.mem_flatMap.2 ⟨b, List.mem_range.2 hb, List.mem_map.2 ⟨_, hm, rfl⟩⟩⟩
    rw [h0] at hmem
    cases hmem
/-- Two squares are akin: there is an isotopism, or their canonical isotopes are equal. -/
theorem akin_iff {N : Nat} {t u : Nat → Nat → Nat} (hN : 0 < N) (h10 : N ≤ 10) (ht : Lat N t) (hu : Lat N u) : ists N t u ≠ [] ↔ EqT (canI N t) (canI N u) := (ists_ne hN ht hu).trans (canI_eq hN h10 ht hu).symm
end Go.Proofs.Ythdldlpflieeoaa

