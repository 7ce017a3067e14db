/- The reference's search for isomorphisms: a contract. -/
import Derived.Test.YtinjjaoikofkdaaC14
import Derived.Test.YtinjjaoikofkdaaM
import Derived.Test.YtinjjaoikofkdaaK2
namespace Go.Proofs.Ytinjjaoikofkdaa
set_option linter.unusedSimpArgs false
set_option linter.unusedVariables false
open Go Go.RowKit

theorem und_slp : Try.prog.underlying 125 = some (.slice 70) := by kernel_rfl
theorem inf_elp : (Try.prog.info? 70).map (fun i => (i.zero, i.size, i.bytes)) = some (some (.agg (bys fun _ => 0)), 10, 10) := by kernel_rfl

theorem bsl_plc (f : Nat → Nat) (w : World) : (Instr.buildSlice 125 1 [(0, Value.agg (bys f))].toArray).run Try.prog w = .ok (.slice (some ⟨w.heap.size, 0, none⟩) 1 1) (w.alloc (.cells (bys f) 70)) := by kernel_rfl
/-- The cells of a list of words. -/
def plCells (l : List (List Nat)) : List Value := l.flatMap fun p => (bys fun i => p.getD i 0).toList
theorem plCells_snoc (l : List (List Nat)) (p : List Nat) : plCells (l ++ [p]) = plCells l ++ (bys fun i => p.getD i 0).toList := by simp [plCells]
theorem bys_word {N : Nat} (m : PM) (h : N ≤ 10) : bys (fun i => (wordOf N m.abs).getD i 0) = bys (plTo m N) := by
  refine bys_ext fun i _ => ?_
  unfold plTo
  by_cases hi : i < N
  · rw [if_pos hi]
    simp only [wordOf, List.getD_eq_getElem?_getD, List.getElem?_map, List.getElem?_range hi, Option.map_some, Option.getD_some]
    unfold PM.abs
    split
    · rename_i h; simp; omega
    · rfl
  · rw [if_neg hi]
    simp [wordOf, List.getD_eq_getElem?_getD, hi]

theorem own_later {w w' : World} {base e size n : Nat} {v : Value} {xs : List Value} (h : w.ownsRow base e size v n xs) (hb : Below w.heap.size w w') : w'.ownsRow base e size v n xs :=
  h.kept (row := none) ⟨hb.os, hb.tape, hb.output, hb.size, fun k hk _ => hb.block k hk⟩ (by cases v.ownBlock <;> simp)
theorem flat_prefix {α : Type} (f : Nat → List α) {y N : Nat} (h : y ≤ N) : ∃ B, (List.range N).flatMap f = (List.range y).flatMap f ++ B := by
  induction N with
  | zero => exact ⟨[], by rw [show y = 0 by omega]; simp⟩
  | succ N ih =>
    by_cases e : y = N + 1
    · exact ⟨[], by rw [e]; simp⟩
    · obtain ⟨B, hB⟩ := ih (by omega)
      exact ⟨B ++ f N, by rw [List.range_succ, List.flatMap_append, hB, List.flatMap_singleton, List.append_assoc]⟩
theorem grown_put (w : World) (b : Nat) (cs : Array Value) (t : Nat) : w.grownBy (World.put w b cs t) (some b) :=
  ⟨rfl, rfl, rfl, by simp [World.put], fun k _ hk => by simp only [World.put]; rw [Array.getElem?_setIfInBounds, if_neg (fun e => hk (by rw [e]))]⟩
theorem own_put {w : World} {base e size n b : Nat} {v : Value} {xs : List Value} (h : w.ownsRow base e size v n xs) (cs : Array Value) (t : Nat) (hb : v.ownBlock ≠ some b) : (World.put w b cs t).ownsRow base e size v n xs :=
  h.kept (grown_put w b cs t) (.inr hb)
theorem new_put (w : World) (cs cs' : Array Value) (t : Nat) (row : Option Nat) : w.grownBy (World.put (w.alloc (.cells cs t)) w.heap.size cs' t) row :=
  ⟨rfl, rfl, rfl, by simp [World.put], fun k hk _ => by
    have e : (w.alloc (.cells cs t)).heap[k]? = w.heap[k]? := by show (w.heap.push _)[k]? = _; rw [Array.getElem?_push, if_neg (by omega)]
    simp only [World.put]; rw [Array.getElem?_setIfInBounds, if_neg (by omega), e]⟩
theorem put_lt (w : World) (cs cs' : Array Value) (t b : Nat) : w.heap.size < (World.put (w.alloc (.cells cs t)) b cs' t).heap.size := by simp [World.put]
/-- The block of a list: the one that it had, or a new one. -/
def FarOr (v' v : Value) (lo : Nat) : Prop := v'.ownBlock = v.ownBlock ∨ ∃ g, v'.ownBlock = some g ∧ lo ≤ g
theorem FarOr.refl (v : Value) (lo : Nat) : FarOr v v lo := .inl rfl
theorem FarOr.ne {v' v : Value} {w : World} {lo b base e size n : Nat} {xs : List Value} (h : FarOr v' v lo) (hv : w.ownsRow base e size v n xs) (hb : w.heap.size ≤ b) (hl : b < lo) : v'.ownBlock ≠ some b := fun e => by
  rcases h with h | ⟨g, h, h2⟩
  · rw [h] at e; have := (hv.lt b e).2; omega
  · rw [h] at e; cases e; omega
theorem FarOr.trans {v'' v' v : Value} {lo lo' : Nat} (h : FarOr v'' v' lo') (k : FarOr v' v lo) (hl : lo ≤ lo') : FarOr v'' v lo := by
  rcases h with h | ⟨g, h, h2⟩
  · rcases k with k | ⟨g, k, k2⟩
    · exact .inl (h.trans k)
    · exact .inr ⟨g, h.trans k, k2⟩
  · exact .inr ⟨g, h, by omega⟩
theorem FarOr.mono {v' v : Value} {lo lo' : Nat} (h : FarOr v' v lo') (hl : lo ≤ lo') : FarOr v' v lo := h.trans (.refl _ _) hl
theorem grown_then {a b c : World} {v v' : Value} {lo : Nat} (h : a.grownBy b v.ownBlock) (k : b.grownBy c v'.ownBlock) (hf : FarOr v' v lo) (hl : a.heap.size ≤ lo) : a.grownBy c v.ownBlock :=
  h.andThen k fun j hj => by
    rcases hf with hf | ⟨g, hf, h2⟩
    · exact .inr (by rw [← hf]; exact hj)
    · rw [hf] at hj; cases hj; exact .inl (by omega)

/-- What the search gives: a list that has been made longer. -/
def Longer (base : Nat) (l : List (List Nat)) (v : Value) (w : World) (e : Ending) (w' : World) : Prop :=
  ∃ v', e = .returned v' ∧ w'.ownsRow base 70 10 v' l.length (plCells l) ∧ w.grownBy w' v.ownBlock ∧ FarOr v' v w.heap.size

set_option maxRecDepth 100000 in
set_option maxHeartbeats 2000000 in
theorem l02Maps_any (N : Nat) (t u : Nat → Nat → Nat) (most base : Nat) (h0 : 1 ≤ N) (h1 : N ≤ 10) (ht : ∀ x y : Nat, x < N → y < N → t x y < N) (hu : ∀ x y : Nat, x < N → y < N → u x y < N) (hmost : most ≤ 1000000) :
    ∀ (K : Nat) (m : PM) (list : List (List Nat)) (v : Value) (w : World), Va N m → Cl N t u m → um m.to N < K → list.length < most → base ≤ w.heap.size → w.ownsRow base 70 10 v list.length (plCells list) →
    Calls Try.prog 118 #[.agg (sqs (N : Int) t), .agg (sqs (N : Int) u), .agg (pms m), .int .i64 (most : Int), v] w (Longer base ((list ++ isos N t u m.abs).take most) v w) := by
  intro K
  induction K with
  | zero => exact fun _ _ _ _ _ _ h => absurd h (by omega)
  | succ K IH0 =>
    intro m list v w hv hcl hK hlen hbase hown
    have IH := Hid2.mk IH0
    clear IH0
    have HT := Hid2.mk ht
    have HU := Hid2.mk hu
    clear ht hu
    have q1 := ((blk_new w (sqs (N : Int) t) 43 w.heap.size rfl).alloc (.cells (sqs (N : Int) u) 43)).alloc (.cells (pms m) 147)
    have q2 := (blk_new (w.alloc (.cells (sqs (N : Int) t) 43)) (sqs (N : Int) u) 43 (w.heap.size + 1) (by simp)).alloc (.cells (pms m) 147)
    have q3 := blk_new ((w.alloc (.cells (sqs (N : Int) t) 43)).alloc (.cells (sqs (N : Int) u) 43)) (pms m) 147 (w.heap.size + 1 + 1) (by simp)
    have qB : Below w.heap.size w (((w.alloc (.cells (sqs (N : Int) t) 43)).alloc (.cells (sqs (N : Int) u) 43)).alloc (.cells (pms m) 147)) := by
      repeat (first | exact Below.refl _ _ | (refine below_alloc ?_ _))
    have qO := ((hown.alloc (.cells (sqs (N : Int) t) 43)).alloc (.cells (sqs (N : Int) u) 43)).alloc (.cells (pms m) 147)
    have hsz := hv.size
    have hul := um_le m.to N
    have c0 := q1.cell 0 _ (sqs_order (N : Int) t)
    have c1 := q3.cell _ _ (pms_sz m)
    by_cases hfull : um m.to N = 0
    · have hs : m.size = (N : Int) := by omega
      rw [hs] at c1
      have hall := um_zero hfull
      have hpl : ∀ i, i < N → 0 ≤ m.to i ∧ m.to i < 10 := fun i hi => ⟨hall i hi, by have := hv.lt i hi; omega⟩
      have hI := isos_full HT.out hv hcl hfull
      go_enter Try.func118, Try.ntmps118
      have hcc := cells_of_blk0 q3
      have hcw := fun w1 => l02Places_any N m w1 h1 hpl
      go_wp2_with (first | (refine wpList_load_part rfl 147 _ rfl (w.heap.size + 1 + 1) (0) rfl (pms m) _ und_l2m rfl inf_l2m (hcc) ?_) | (go_at_call 128; ((with_reducible refine (hcw _).mono ?_); rintro e w1 ⟨rfl, hb⟩; have qO1 := own_later qO hb; have hs1 := hb.size; have hs2 := q3.lt)) | (refine wpList_bsl rfl 125 1 [(0, _)] rfl [(0, .agg (bys (plTo m N)))] rfl _ _ (bsl_plc _ _) ?_) | (refine wpList_app1 rfl _ _ 125 rfl base 70 (.agg (bys fun _ => 0)) 10 10 und_slp inf_elp rfl (by decide) (by decide) _ _ _ rfl (qO1.alloc _) _ rfl _ (blk_new _ _ _ _ rfl) rfl (flat_bys _) (by omega) (by simp; omega) ?_; intro v2 w2 hown2 hg2 hat2))
      go_ret
      have hl : (list ++ [wordOf N m.abs]).take most = list ++ [wordOf N m.abs] := List.take_of_length_le (by simp; omega)
      refine ⟨v2, rfl, ?_, (grown_below qB _).trans ((grown_below hb _).trans ((World.grownBy_alloc _ _ _).trans hg2)), ?_⟩
      · rw [hl, plCells_snoc, bys_word m h1]; simpa using hown2
      · rcases hat2 with h | h
        · exact .inl h
        · exact .inr ⟨_, h, by simp; omega⟩
    · have hz := zero_l2m
      have hs : m.size ≠ (N : Int) := by omega
      obtain ⟨sz, hsz1⟩ : ∃ sz : Nat, m.size = sz := ⟨N - um m.to N, by omega⟩
      have hsN : ¬ ((sz : Int) = (N : Int)) := by omega
      rw [hsz1] at c1
      obtain ⟨x, hx, hx0, hxm⟩ := um_pos hfull
      have HV := Hid2.mk (own_form hown)
      have hI := isos_first (t := t) (u := u) hx hxm hx0
      have hgw := grown_below qB v.ownBlock
      have hlt3 := q3.lt
      have hbs : w.heap.size ≤ ((((w.alloc (.cells (sqs (N : Int) t) 43)).alloc (.cells (sqs (N : Int) u) 43)).alloc (.cells (pms m) 147))).heap.size := by simp; omega
      go_enter Try.func118, Try.ntmps118
      go_wp2
      go_loopw [11] (fun i wr => ∃ k : Nat, k ≤ x ∧ i = .int .i64 (k : Int) ∧ w.grownBy wr v.ownBlock ∧ w.heap.size + 1 + 1 < wr.heap.size ∧ blk wr w.heap.size (sqs (N : Int) t) 43 ∧ blk wr (w.heap.size + 1) (sqs (N : Int) u) 43 ∧ blk wr (w.heap.size + 1 + 1) (pms m) 147 ∧ wr.ownsRow base 70 10 v list.length (plCells list)) (fun i _ => x - (intOf i).toNat)
      case atStart => exact ⟨0, by omega, rfl, hgw, hlt3, q1, q2, q3, qO⟩
      case round =>
        obtain ⟨k, hk, rfl, hg, hlt, b1, b2, b3, bO⟩ := hrel
        clear hgw hlt3 q1 q2 q3 qO c0 c1
        have c1 := b3.cell _ _ (pms_to m (i := k) (by omega))
        by_cases hkx : k < x
        · have hk0 := hxm k hkx
          go_wp2
          go_roundw
          case rel => exact ⟨k + 1, by omega, by go_num, hg, hlt, b1, b2, b3, bO⟩
          case measure => simp [intOf]; omega
        · obtain rfl : k = x := by omega
          have hk0 : ¬ (0 ≤ m.to k) := by omega
          go_wp2
          go_loopw [4, 12, 13, 14] (fun vl i _ _ wr => ∃ (y : Nat) (list' : List (List Nat)) (pp : Option Addr) (cap : Nat), y ≤ N ∧ i = .int .i64 (y : Int) ∧ vl = .slice pp list'.length cap ∧ w.grownBy wr v.ownBlock ∧ w.heap.size + 1 + 1 < wr.heap.size ∧ blk wr w.heap.size (sqs (N : Int) t) 43 ∧ blk wr (w.heap.size + 1) (sqs (N : Int) u) 43 ∧ blk wr (w.heap.size + 1 + 1) (pms m) 147 ∧ wr.ownsRow base 70 10 vl list'.length (plCells list') ∧ FarOr vl v (w.heap.size + 1 + 1 + 1) ∧ list' = (list ++ (List.range y).flatMap fun y => isos N t u (upd m.abs k y)).take most) (fun _ i _ _ _ => N - (intOf i).toNat)
          case atStart =>
            obtain ⟨p0, cap0, hv0⟩ := HV.out
            exact ⟨0, list, p0, cap0, by omega, rfl, hv0, hg, hlt, b1, b2, b3, bO, .refl _ _, by rw [List.range_zero, List.flatMap_nil, List.append_nil, List.take_of_length_le (by omega)]⟩
          case round =>
            obtain ⟨y, list', pp, cap, hy, rfl, rfl, hg2, hlt2, d1, d2, d3, dO, hfar, hlist⟩ := hrel
            clear hg hlt b1 b2 b3 bO c1
            have c0 := d1.cell 0 _ (sqs_order (N : Int) t)
            have hvl := dO.lt
            have HL := Hid2.mk hlist
            clear hlist
            by_cases hyN : y < N
            · have hyN' : (y : Int) < (N : Int) := by omega
              by_cases hll : list'.length < most
              · have hll' : (list'.length : Int) < (most : Int) := by omega
                have hdy : decide ((y : Int) < (N : Int)) = true := by simp; omega
                have hdl : decide ((list'.length : Int) < (most : Int)) = true := by simp; omega
                have c2 := d3.cell _ _ (pms_used m (i := y) (by omega))
                by_cases hus : 0 < m.used y
                · have hnil := isos_used (t := t) (u := u) hv hx hyN hx0 hus
                  go_wp2
                  go_roundw
                  case rel => exact ⟨y + 1, list', pp, cap, by omega, by go_num, rfl, hg2, hlt2, d1, d2, d3, dO, hfar, by rw [HL.out, List.range_succ, List.flatMap_append, List.flatMap_singleton, hnil, List.append_nil]⟩
                  case measure => simp [intOf]; omega
                · have hus' : m.used y ≤ 0 := by omega
                  have hC := closeF_closes HT.out HU.out (K + 1) m k y hv hx hyN hK
                  have hcC := fun w1 => l02Close_any N t u h0 h1 HT.out HU.out (K + 1) m k y w1 hv hx hyN hK
                  have hcM := IH.out
                  generalize hR : closeF N t u (K + 1) m k y = R at hC hcC
                  have hfn : ∀ b, w.heap.size ≤ b → b < w.heap.size + 1 + 1 + 1 → (Value.slice pp list'.length cap).ownBlock ≠ some b := fun b h h2 => hfar.ne hown h h2
                  obtain ⟨wo, rfl⟩ : ∃ wo : World, wo = wr := ⟨_, rfl⟩
                  have hfb : ∀ b, wo.heap.size ≤ b → (Value.slice pp list'.length cap).ownBlock ≠ some b := fun b h e => by have := (hvl b e).2; omega
                  have hwo : w.heap.size ≤ wo.heap.size := by omega
                  cases h2 : R.2 with
                  | false =>
                    have hnil := isos_failed hx hx0 hC h2
                    go_wp2_with (first | (refine wpList_load_part rfl 43 _ rfl (w.heap.size) (0) rfl (sqs (N : Int) t) _ und_sqs rfl inf_sqs (cells_of_blk0 d1) ?_) | (refine wpList_load_part rfl 43 _ rfl (w.heap.size + 1) (0) rfl (sqs (N : Int) u) _ und_sqs rfl inf_sqs (cells_of_blk0 d2) ?_) | (refine wpList_load_part rfl 147 _ rfl (w.heap.size + 1 + 1) (0) rfl (pms m) _ und_l2m rfl inf_l2m (cells_of_blk0 d3) ?_) | (go_at_call 129; ((with_reducible refine (hcC _).mono ?_); rintro e w3 ⟨rfl, hb⟩; have hs3 := hb.size; have p1 := blk_put_other ((d1.later hb).alloc (.cells (pms ⟨fun _ => 0, fun _ => 0, 0⟩) 147)) (c := w3.heap.size) (cs' := pms R.1) (t' := 147) (by omega); have p2 := blk_put_other ((d2.later hb).alloc (.cells (pms ⟨fun _ => 0, fun _ => 0, 0⟩) 147)) (c := w3.heap.size) (cs' := pms R.1) (t' := 147) (by omega); have p3 := blk_put_other ((d3.later hb).alloc (.cells (pms ⟨fun _ => 0, fun _ => 0, 0⟩) 147)) (c := w3.heap.size) (cs' := pms R.1) (t' := 147) (by omega); have p4 := blk_put (blk_new w3 (pms ⟨fun _ => 0, fun _ => 0, 0⟩) 147 w3.heap.size rfl) (cs' := pms R.1) 147; have pO := own_put ((own_later dO hb).alloc (.cells (pms ⟨fun _ => 0, fun _ => 0, 0⟩) 147)) (pms R.1) 147 (hfb w3.heap.size hs3); have pG := (hg2.trans (grown_below hb _)).trans (new_put w3 (pms ⟨fun _ => 0, fun _ => 0, 0⟩) (pms R.1) 147 _); have pS : w3.heap.size < (World.put (w3.alloc (.cells (pms ⟨fun _ => 0, fun _ => 0, 0⟩) 147)) w3.heap.size (pms R.1) 147).heap.size := put_lt w3 _ _ _ _; have pB := Nat.le_trans (show base ≤ w3.heap.size by omega) (Nat.le_of_lt pS))) | (refine wpList_store_row rfl 147 _ _ rfl _ rfl _ rfl inf_l2m _ _ (blk_new _ _ _ _ (by simp)) (by simp [pms_size]) (flat_pms _) ?_))
                    go_roundw
                    case rel => exact ⟨y + 1, list', pp, cap, by omega, by go_num, rfl, pG, Nat.lt_trans (show w.heap.size + 1 + 1 < w3.heap.size by omega) pS, p1, p2, p3, pO, hfar, by rw [HL.out, List.range_succ, List.flatMap_append, List.flatMap_singleton, hnil, List.append_nil]⟩
                    case measure => simp [intOf]; omega
                  | true =>
                    have hnew := isos_closed hx hx0 hC h2
                    have hvR := hC.va h2
                    have hclR := closed_cl HT.out hcl hC h2
                    have humR := closed_um hx hx0 hC h2
                    have hcM2 := fun w1 hb1 ho => hcM R.1 list' (.slice pp list'.length cap) w1 hvR hclR (by omega) hll hb1 ho
                    clear hcM
                    go_wp2_with (first | (refine wpList_load_part rfl 147 _ rfl (w3.heap.size) (0) rfl (pms R.1) _ und_l2m rfl inf_l2m (cells_of_blk0 p4) ?_) | (refine wpList_load_part rfl 43 _ rfl (w.heap.size) (0) rfl (sqs (N : Int) t) _ und_sqs rfl inf_sqs (cells_of_blk0 p1) ?_) | (refine wpList_load_part rfl 43 _ rfl (w.heap.size + 1) (0) rfl (sqs (N : Int) u) _ und_sqs rfl inf_sqs (cells_of_blk0 p2) ?_) | (refine wpList_load_part rfl 43 _ rfl (w.heap.size) (0) rfl (sqs (N : Int) t) _ und_sqs rfl inf_sqs (cells_of_blk0 d1) ?_) | (refine wpList_load_part rfl 43 _ rfl (w.heap.size + 1) (0) rfl (sqs (N : Int) u) _ und_sqs rfl inf_sqs (cells_of_blk0 d2) ?_) | (refine wpList_load_part rfl 147 _ rfl (w.heap.size + 1 + 1) (0) rfl (pms m) _ und_l2m rfl inf_l2m (cells_of_blk0 d3) ?_) | (go_at_call 129; ((with_reducible refine (hcC _).mono ?_); rintro e w3 ⟨rfl, hb⟩; have hs3 := hb.size; have p1 := blk_put_other ((d1.later hb).alloc (.cells (pms ⟨fun _ => 0, fun _ => 0, 0⟩) 147)) (c := w3.heap.size) (cs' := pms R.1) (t' := 147) (by omega); have p2 := blk_put_other ((d2.later hb).alloc (.cells (pms ⟨fun _ => 0, fun _ => 0, 0⟩) 147)) (c := w3.heap.size) (cs' := pms R.1) (t' := 147) (by omega); have p3 := blk_put_other ((d3.later hb).alloc (.cells (pms ⟨fun _ => 0, fun _ => 0, 0⟩) 147)) (c := w3.heap.size) (cs' := pms R.1) (t' := 147) (by omega); have p4 := blk_put (blk_new w3 (pms ⟨fun _ => 0, fun _ => 0, 0⟩) 147 w3.heap.size rfl) (cs' := pms R.1) 147; have pO := own_put ((own_later dO hb).alloc (.cells (pms ⟨fun _ => 0, fun _ => 0, 0⟩) 147)) (pms R.1) 147 (hfb w3.heap.size hs3); have pG := (hg2.trans (grown_below hb _)).trans (new_put w3 (pms ⟨fun _ => 0, fun _ => 0, 0⟩) (pms R.1) 147 _); have pS : w3.heap.size < (World.put (w3.alloc (.cells (pms ⟨fun _ => 0, fun _ => 0, 0⟩) 147)) w3.heap.size (pms R.1) 147).heap.size := put_lt w3 _ _ _ _; have pB := Nat.le_trans (show base ≤ w3.heap.size by omega) (Nat.le_of_lt pS))) | (refine wpList_store_row rfl 147 _ _ rfl _ rfl _ rfl inf_l2m _ _ (blk_new _ _ _ _ (by simp)) (by simp [pms_size]) (flat_pms _) ?_) | (go_at_call 118; ((with_reducible refine (hcM2 _ pB pO).mono ?_); rintro e w4 ⟨v', rfl, hO3, hg3, hf3⟩)))
                    go_roundw
                    case rel =>
                      obtain ⟨p3', cap3, hv3⟩ := own_form hO3
                      exact ⟨y + 1, _, p3', cap3, by omega, by go_num, hv3, grown_then pG hg3 hfar (by omega), Nat.lt_of_lt_of_le (Nat.lt_trans (show w.heap.size + 1 + 1 < w3.heap.size by omega) pS) hg3.size, p1.grown hg3 (hfn _ (by omega) (by omega)).symm, p2.grown hg3 (hfn _ (by omega) (by omega)).symm, p3.grown hg3 (hfn _ (by omega) (by omega)).symm, hO3, hf3.trans hfar (Nat.le_trans (show w.heap.size + 1 + 1 + 1 ≤ w3.heap.size by omega) (Nat.le_of_lt pS)), by rw [← hnew, HL.out, take_step, List.append_assoc, List.range_succ, List.flatMap_append, List.flatMap_singleton]⟩
                    case measure => simp [intOf]; omega
              · have hge : most ≤ list'.length := by omega
                have hdy : decide ((y : Int) < (N : Int)) = true := by simp; omega
                have hdl : decide ((list'.length : Int) < (most : Int)) = false := by simp; omega
                go_wp2
                go_ret
                have hl2 : (list ++ isos N t u m.abs).take most = list' := by
                  obtain ⟨Bq, hBq⟩ := flat_prefix (fun y => isos N t u (upd m.abs k y)) hy
                  rw [hI, hBq, ← List.append_assoc, HL.out]
                  exact take_grow (by rw [← HL.out]; have := congrArg List.length HL.out; rw [List.length_take] at this; omega)
                rw [hl2]
                exact ⟨_, rfl, dO, hg2, hfar.mono (by omega)⟩
            · obtain rfl : y = N := by omega
              have hdy : decide ((y : Int) < (y : Int)) = false := by simp
              go_wp2
              go_ret
              have hl2 : (list ++ isos y t u m.abs).take most = list' := by rw [hI, HL.out]
              rw [hl2]
              exact ⟨_, rfl, dO, hg2, hfar.mono (by omega)⟩
end Go.Proofs.Ytinjjaoikofkdaa
