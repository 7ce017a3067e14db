/- The program's closing of a part: a contract. -/
import Derived.Test.YtinjjaoikofkdaaK7
import Derived.Test.YtinjjaoikofkdaaK6
import Derived.Test.YtinjjaoikofkdaaM
import Derived.Test.YtinjjaoikofkdaaRT
import Derived.Test.YtinjjaoikofkdaaC6
namespace Go.Proofs.Ytinjjaoikofkdaa
set_option linter.unusedSimpArgs false
set_option linter.unusedVariables false
open Go Go.RowKit

theorem und_slq : Try.prog.underlying 151 = some (.slice 150) := by kernel_rfl
theorem inf_elq : (Try.prog.info? 150).map (fun i => (i.zero, i.size, i.bytes)) = some (some (.agg #[.int .u8 0, .int .u8 0]), 2, 2) := by kernel_rfl
theorem build_by2 (x y : Int) (w : World) : (Instr.build 150 #[(0, .int .u8 x), (1, .int .u8 y)]).run Try.prog w = .ok (.agg #[.int .u8 x, .int .u8 y]) w := by kernel_rfl
theorem bsl_q1 (x y : Int) (w : World) : (Instr.buildSlice 151 1 [(0, Value.agg #[.int .u8 x, .int .u8 y])].toArray).run Try.prog w = .ok (.slice (some ⟨w.heap.size, 0, none⟩) 1 1) (w.alloc (.cells #[.int .u8 x, .int .u8 y] 150)) := by kernel_rfl
theorem bsl_q2 (x y x' y' : Int) (w : World) : (Instr.buildSlice 151 2 [(0, Value.agg #[.int .u8 x, .int .u8 y]), (1, Value.agg #[.int .u8 x', .int .u8 y'])].toArray).run Try.prog w = .ok (.slice (some ⟨w.heap.size, 0, none⟩) 2 2) (w.alloc (.cells #[.int .u8 x, .int .u8 y, .int .u8 x', .int .u8 y'] 150)) := by kernel_rfl

/-- The cells of a queue. -/
def qCells (q : List (Nat × Nat)) : List Value := q.flatMap fun p => [.int .u8 (p.1 : Int), .int .u8 (p.2 : Int)]

theorem grown_set (w : World) (b j : Nat) (v : Value) : w.grownBy (w.setCell ⟨b, j, none⟩ v) (some b) :=
  ⟨rfl, rfl, rfl, by simp [World.setCell], fun k _ hk => by
    have h : b ≠ k := fun e => hk (by rw [e])
    simp [World.setCell, Array.getElem?_modify, h]⟩
theorem yield_bsl {P : Program} {oh : Oper} {ty : TypeId} {len : Nat} {l : List (Nat × Operand)} (ho : oh.op = .buildSlice ty len l.toArray) {a : Act} {w : World} {R : Value → World → Prop} (vals : List (Nat × Value)) (hv : l.map (fun p => (p.1, a.eval p.2)) = vals)
    {v : Value} {w' : World} (hb : (Instr.buildSlice ty len vals.toArray).run P w = .ok v w') (hR : R v w') : yield P oh a w R := by
  subst hv
  unfold yield
  simp only [execOp, ho, List.map_toArray, Sem.run_bind, hb, Result.andThen_ok, Sem.run_pure, yieldR]
  exact hR
theorem news_lt {N : Nat} {t u : Nat → Nat → Nat} {m : PM} {x y : Nat} (ht : ∀ a b, a < N → b < N → t a b < N) (hu : ∀ a b, a < N → b < N → u a b < N) (hv : Va N m) (hx : x < N) (hy : y < N) : ∀ p ∈ news N t u m x y N, p.1 < N ∧ p.2 < N := by
  intro p h
  obtain ⟨z, hz, h0, h⟩ := mem_news.1 h
  have := hv.lt z hz
  rcases h with h | h
  · subst h; exact ⟨ht _ _ hx hz, hu _ _ hy (by omega)⟩
  · subst h; exact ⟨ht _ _ hz hx, hu _ _ (by omega) hy⟩
theorem flat4 (a b c d : Int) : flat #[.int .u8 a, .int .u8 b, .int .u8 c, .int .u8 d] := by
  intro v hv; simp at hv; rcases hv with rfl | rfl | rfl | rfl <;> rfl
/-- The least number that has a property. -/
noncomputable def least (P : Nat → Prop) : Nat := @dite _ (∃ k, P k ∧ ∀ j, P j → k ≤ j) (Classical.propDecidable _) (fun h => Classical.choose h) fun _ => 0
theorem least_is {P : Nat → Prop} (h : ∃ k, P k) : ∃ k, P k ∧ ∀ j, P j → k ≤ j := by
  obtain ⟨k, hk⟩ := h
  induction k using Nat.strongRecOn with
  | _ k ih =>
    by_cases h : ∃ j, j < k ∧ P j
    · obtain ⟨j, hj, hP⟩ := h
      exact ih j hj hP
    · exact ⟨k, hk, fun j hP => by
        rcases Nat.lt_or_ge j k with h' | h'
        · exact absurd ⟨j, h', hP⟩ h
        · exact h'⟩
theorem least_spec {P : Nat → Prop} (h : ∃ k, P k) : P (least P) := by
  unfold least; rw [dif_pos (least_is h)]; exact (Classical.choose_spec (least_is h)).1
theorem least_le {P : Nat → Prop} {k : Nat} (h : P k) : least P ≤ k := by
  unfold least; rw [dif_pos (least_is ⟨k, h⟩)]; exact (Classical.choose_spec (least_is ⟨k, h⟩)).2 k h

/-- Where the queue stands. -/
def PutInv (N : Nat) (t u : Nat → Nat → Nat) (b B : Nat) (w : World) (R : PM × Bool) (k : Nat) (vq : Value) (wr : World) : Prop :=
  ∃ (M : PM) (f : Nat → Nat) (Q : List (Nat × Nat)), Va N M ∧ (∀ i, f i < 10) ∧ (∀ p ∈ Q, p.1 < N ∧ p.2 < N) ∧ Q.length + (2 * N + 1) * um M.to N < k ∧ k ≤ 300 ∧ putF N t u k M Q = R ∧
    blk wr b (led (N : Int) t (N : Int) u M f) 134 ∧ w.grownBy wr (some b) ∧ Que wr B 150 2 vq Q.length (qCells Q) ∧ ∃ g off cap, vq = .slice (some ⟨g, off, none⟩) Q.length cap ∧ Q.length ≤ cap

set_option maxRecDepth 100000 in
set_option maxHeartbeats 3000000 in
theorem put_any (N : Nat) (t u : Nat → Nat → Nat) (m : PM) (fr : Nat → Nat) (x y b : Nat) (w : World) (h0 : 1 ≤ N) (h1 : N ≤ 10) (ht : ∀ x y : Nat, x < N → y < N → t x y < N) (hu : ∀ x y : Nat, x < N → y < N → u x y < N)
    (hv : Va N m) (hx : x < N) (hy : y < N) (hfr : ∀ i, fr i < 10) (hl : blk w b (led (N : Int) t (N : Int) u m fr) 134) :
    Calls Try.prog 105 #[.pointer (some ⟨b, 0, none⟩), .int .u8 (x : Int), .int .u8 (y : Int)] w fun e w' =>
      e = .returned (.bool (putF N t u (2 + (2 * N + 1) * um m.to N) m [(x, y)]).2) ∧ w.grownBy w' (some b) ∧
      ∃ fr' : Nat → Nat, (∀ i, fr' i < 10) ∧ blk w' b (led (N : Int) t (N : Int) u (putF N t u (2 + (2 * N + 1) * um m.to N) m [(x, y)]).1 fr') 134 := by
  have HT := Hid2.mk ht
  have HU := Hid2.mk hu
  clear ht hu
  have hb := hl.lt
  generalize hK0 : 2 + (2 * N + 1) * um m.to N = K0
  have hKb : K0 ≤ 300 := by
    have := um_le m.to N
    have h2 : (2 * N + 1) * um m.to N ≤ 21 * 10 := Nat.mul_le_mul (by omega) (by omega)
    omega
  go_enter Try.func105, Try.ntmps105
  go_wp2_with (first | (refine wpList_build 150 _ rfl rfl [(0, .int .u8 (x : Int)), (1, .int .u8 (y : Int))] rfl _ (build_by2 _ _ _) ?_) | (refine wpList_bsl rfl 151 1 [(0, _)] rfl [(0, .agg #[.int .u8 (x : Int), .int .u8 (y : Int)])] rfl _ _ (bsl_q1 _ _ _) ?_))
  go_loopw [7] (fun vq wr => ∃ k, PutInv N t u b w.heap.size w (putF N t u K0 m [(x, y)]) k vq wr) (fun vq wr => least fun k => PutInv N t u b w.heap.size w (putF N t u K0 m [(x, y)]) k vq wr)
  case atStart =>
    refine ⟨K0, m, fr, [(x, y)], hv, hfr, fun p h => by simp at h; subst h; exact ⟨hx, hy⟩, by simp; omega, hKb, rfl, hl.alloc _, World.grownBy_alloc _ _ _, ?_, _, _, _, rfl, Nat.le_refl _⟩
    exact Que.new (cs := #[.int .u8 (x : Int), .int .u8 (y : Int)]) (blk_new _ _ _ _ rfl) (Nat.le_refl _) rfl
  case round =>
    have hP := least_spec hrel
    clear hrel
    generalize hk0 : (least fun k => PutInv N t u b w.heap.size w (putF N t u K0 m [(x, y)]) k _ wr) = k at hP ⊢
    obtain ⟨M, f, Q, vM, hf, hq, hk, hkK, hR, d1, hg, hQ, g, off, cap, rfl, hcap⟩ := hP
    have HR := Hid2.mk hR
    clear hR
    obtain ⟨k, rfl⟩ : ∃ k', k = k' + 1 := ⟨k - 1, by omega⟩
    match Q, hq, hk, HR, hQ, hcap with
    | [], hq, hk, HR, hQ, hcap =>
      go_wp2
      go_ret
      have hR2 : putF N t u K0 m [(x, y)] = (M, true) := by rw [← HR.out]; rfl
      rw [hR2]
      exact ⟨rfl, hg, f, hf, d1⟩
    | (x', y') :: q, hq, hk, HR, hQ, hcap =>
      have hx' : x' < N := (hq (x', y') (by simp)).1
      have hy' : y' < N := (hq (x', y') (by simp)).2
      have hT := hQ.tail
      have hlen : (((x', y') :: q).length : Int) = (q.length : Int) + 1 := by simp
      simp only [List.length_cons] at hT hcap hQ
      have hne : b ≠ g := by have := (hQ.lt g rfl).1; omega
      go_wp2
      apply wp_region_text (fun w' => w.grownBy w' (some b) ∧ blk w' b (led (N : Int) t (N : Int) u M f) 134 ∧ Que w' w.heap.size 150 2 (.slice (some ⟨g, off, none⟩) (q.length + 1) cap) (q.length + 1) (qCells ((x', y') :: q))) (by kernel_rfl) (by kernel_rfl) (⟨⟨hg.os, hg.tape, hg.output, hg.size, hg.block⟩, d1.drew, hQ.drew⟩); (repeat (first | exact wpText_nil | (apply wpText_cons; (intro w2 hS; obtain ⟨hg2, e1, hQ2⟩ := hS; have k1 := (Nat.add_zero off ▸ hQ2.cell 0 (.int .u8 (x' : Int)) (by simp [qCells])) ; have k2 := hQ2.cell 1 (.int .u8 (y' : Int)) (by simp [qCells]); go_wp2; (first | exact ⟨rfl, rfl, hg2, e1, hQ2⟩)); rfl)))
      intro w2 hS
      obtain ⟨hg2, e1, hQ2⟩ := hS
      clear hg d1 hQ hT
      have hT := hQ2.tail
      obtain ⟨off2, hoff2⟩ : ∃ off2, (if cap = 1 then some (⟨g, off, none⟩ : Addr) else some ⟨g, off + 2, none⟩) = some ⟨g, off2, none⟩ := by
        by_cases h : cap = 1
        · exact ⟨off, by rw [if_pos h]⟩
        · exact ⟨off + 2, by rw [if_neg h]⟩
      rw [hoff2] at hT
      have c1 := e1.cell _ _ (led_to (x := x') (by omega))
      have c2 := e1.cell _ _ (led_fr (x := y') (by omega))
      by_cases hA : M.to x' = y'
      · have htc : toC M x' = (y' : Int) := by unfold toC; rw [if_neg (by omega), hA]
        rw [htc] at c1
        have hn : PutInv N t u b w.heap.size w (putF N t u K0 m [(x, y)]) k (Value.slice (some ⟨g, off2, none⟩) q.length (cap - 1)) w2 :=
          ⟨M, f, q, vM, hf, fun p h => hq p (by simp [h]), by simp only [List.length_cons] at hk; omega, by omega, by rw [← HR.out]; simp only [putF]; rw [if_pos hA], e1, hg2, hT, hT.form⟩
        go_wp2
        exact ⟨⟨k, hn⟩, Nat.lt_of_le_of_lt (least_le hn) (by rw [hk0]; omega)⟩
      · by_cases hB : 0 ≤ M.to x'
        · obtain ⟨v, hv'⟩ : ∃ v : Nat, M.to x' = v := ⟨(M.to x').toNat, by omega⟩
          have hvN : v < N := by have := vM.lt x' hx'; omega
          have htc : toC M x' = (v : Int) := by unfold toC; rw [if_neg (by omega), hv']
          have hvy : ¬ ((v : Int) = (y' : Int)) := by omega
          have hv255 : ¬ ((v : Int) = 255) := by omega
          have hR2 : putF N t u K0 m [(x, y)] = (M, false) := by rw [← HR.out]; simp only [putF]; rw [if_neg hA, if_pos (.inl hB)]
          rw [htc] at c1
          go_wp2
          go_ret
          try rw [hR2]
          exact ⟨rfl, hg2, f, hf, e1⟩
        · have htc : toC M x' = 255 := by unfold toC; rw [if_pos (by omega)]
          have hvy : ¬ ((255 : Int) = (y' : Int)) := by omega
          rw [htc] at c1
          by_cases hC : 0 < M.used y'
          · have hfc : frC M f y' = (f y' : Int) := by unfold frC; rw [if_pos hC]
            have hf255 : ¬ ((f y' : Int) = 255) := by have := hf y'; omega
            have hR2 : putF N t u K0 m [(x, y)] = (M, false) := by rw [← HR.out]; simp only [putF]; rw [if_neg hA, if_pos (.inr hC)]
            rw [hfc] at c2
            go_wp2
            go_ret
            try rw [hR2]
            exact ⟨rfl, hg2, f, hf, e1⟩
          · have hfc : frC M f y' = 255 := by unfold frC; rw [if_neg hC]
            rw [hfc] at c2
            go_wp2
            have hne2 : (Value.slice (some ⟨g, off2, none⟩) q.length (cap - 1)).ownBlock ≠ some b := fun e => hne (by cases e; rfl)
            apply wp_region_float1 [0, 1, 2, 3, 4, 5, 6, 7, 8, 10, 11] 9 12 _ (fun g9 w' => w.grownBy w' (some b) ∧ blk w' b (bif g9.isEmpty then led (N : Int) t (N : Int) u M f else (led (N : Int) t (N : Int) u M f).setIfInBounds (202 + x') (.int .u8 (y' : Int))) 134 ∧ Que w' w.heap.size 150 2 (.slice (some ⟨g, off2, none⟩) q.length (cap - 1)) q.length (qCells q)) (by kernel_rfl) (by kernel_rfl) rfl rfl
            case hS => exact ⟨⟨hg2.os, hg2.tape, hg2.output, hg2.size, hg2.block⟩, e1.drew, Que.drew hT⟩
            case ht => repeat (first | exact wpTextG_nil | (apply wpTextG_cons; (intro g9 w3 hS; obtain ⟨h1, h2, h3⟩ := hS; go_wp2; exact ⟨rfl, rfl, h1, h2, h3⟩); rfl))
            case hA =>
              intro w3 hS
              obtain ⟨h1, h2, h3⟩ := hS
              have h2' : blk w3 b (led (N : Int) t (N : Int) u M f) 134 := h2
              have c3 := h2'.cell _ _ (led_to (x := x') (by omega))
              have f3 := h2'.free (202 + x')
              refine yield_store (ops := #[]) (by exact rfl) (by exact rfl) ?_
              go_wp2
              exact ⟨h1.trans (grown_set _ _ _ _), h2'.set _ _, h3.kept (grown_set _ _ _ _) hne2⟩
            intro v9 w3 hS
            obtain ⟨h1, h2, h3⟩ := hS
            simp only [List.drop_succ_cons, List.drop_zero]
            have h2' : blk w3 b ((led (N : Int) t (N : Int) u M f).setIfInBounds (202 + x') (.int .u8 (y' : Int))) 134 := h2
            have c4 := h2'.cell (212 + y') (.int .u8 255) (by rw [Array.getElem?_setIfInBounds_ne (by omega), led_fr (by omega), hfc])
            have f4 := h2'.free (212 + y')
            have d4 := (h2'.set (212 + y') (.int .u8 (x' : Int))).eq (led_add (by omega) (by omega))
            have g4 := h1.trans (grown_set w3 b (212 + y') (.int .u8 (x' : Int)))
            have q4 := h3.kept (grown_set w3 b (212 + y') (.int .u8 (x' : Int))) hne2
            have dL : ∀ (j : Nat) (v : Value), (sqs (N : Int) t)[j]? = some v → (w3.setCell ⟨b, 212 + y', none⟩ (.int .u8 (x' : Int))).cell? ⟨b, 0 + j, none⟩ = some v := fun j v h => d4.cell _ _ (by
              rw [Nat.zero_add]
              refine led_q h ?_
              have := (Array.getElem?_eq_some_iff.1 h).1
              simpa [sqs_size] using this)
            clear h2 h2' h1 h3 c1 c2 e1
            go_wp2_with (first | (refine wpList_load_part rfl 43 _ rfl (b) (0) rfl (sqs (N : Int) t) _ und_sqs rfl inf_sqs (dL) ?_) | (go_at_call 88; ((with_reducible refine (elements_any _ _ _ (by omega) (by omega)).mono ?_); rintro e w5 ⟨g5, cap5, rfl, hb5, hg5, hr5⟩)))
            have hxx : (M.add x' y').to x' = y' := by simp [PM.add]
            have vM' := vM.add hx' hy' (by omega) (by omega)
            have hf' : ∀ i, (fun i => if i = y' then x' else f i) i < 10 := fun i => by
              dsimp only; split
              · omega
              · exact hf i
            have hR2 : putF N t u k (M.add x' y') (q ++ news N t u (M.add x' y') x' y' N) = putF N t u K0 m [(x, y)] := by
              rw [← HR.out]; simp only [putF]; rw [if_neg hA, if_neg (by omega)]
            have hum : um (M.add x' y').to N + 1 = um M.to N := by
              have := um_add (f := M.to) (x := x') (y := (y' : Int)) (by omega) (by omega) N
              rw [if_pos hx'] at this; exact this
            have hk2 : q.length + 2 * N + (2 * N + 1) * um (M.add x' y').to N < k := by
              rw [← hum, Nat.mul_add] at hk
              simp only [List.length_cons] at hk
              omega
            generalize M.add x' y' = M' at d4 vM' hR2 hk2 hxx
            generalize (fun i => if i = y' then x' else f i) = f' at d4 hf'
            have HM := Hid2.mk hR2
            clear hR2 HR hum
            have e4 := d4.later hb5
            have e5 := q4.later hb5
            have g6 := g4.trans (grown_below hb5 (some b))
            clear d4 g4 c4 f4 dL
            have hgg : g ≠ g5 := by have := (e5.lt g rfl).2; have h' := (q4.lt g rfl).2; omega
            clear q4
            go_loopw [7, 9, 10, 70] (fun vq _ _ z wr => ∃ (zn g3 off3 cap3 : Nat) (ql : List (Nat × Nat)), zn ≤ N ∧ z = .int .i64 (zn : Int) ∧ vq = .slice (some ⟨g3, off3, none⟩) ql.length cap3 ∧ ql = q ++ news N t u M' x' y' zn ∧ w.grownBy wr (some b) ∧
              blk wr b (led (N : Int) t (N : Int) u M' f') 134 ∧ rds wr g5 N (fun j => .int .u8 (j : Int)) ∧ g3 ≠ g5 ∧ Que wr w.heap.size 150 2 (.slice (some ⟨g3, off3, none⟩) ql.length cap3) ql.length (qCells ql)) (fun _ _ _ z _ => N - (intOf z).toNat)
            case atStart => exact ⟨0, g, off2, cap - 1, q, by omega, rfl, rfl, by simp [news], g6, e4, by simpa using hr5, hgg, e5⟩
            case round =>
              obtain ⟨zn, g3, off3, cap3, ql, hzn, rfl, rfl, hql, hg7, d7, r7, hg35, q7⟩ := hrel
              have HQ := Hid2.mk hql
              clear hql g6 e4 e5 hr5
              by_cases hz : zn < N
              · have hz' : (zn : Int) < (N : Int) := by omega
                have c7 := r7.at_ zn hz
                have c8 := d7.cell _ _ (led_to (x := zn) (by omega))
                by_cases hfree : M'.to zn < 0
                · have htc : toC M' zn = 255 := by unfold toC; rw [if_pos hfree]
                  rw [htc] at c8
                  go_wp2
                  go_roundw
                  case rel => exact ⟨zn + 1, g3, off3, cap3, ql, by omega, by go_num, rfl, by rw [HQ.out]; simp [news, hfree], hg7, d7, r7, hg35, q7⟩
                  case measure => simp [intOf]; omega
                · obtain ⟨v, hv'⟩ : ∃ v : Nat, M'.to zn = v := ⟨(M'.to zn).toNat, by omega⟩
                  have hvN : v < N := by have := vM'.lt zn hz; omega
                  have htc : toC M' zn = (v : Int) := by unfold toC; rw [if_neg hfree, hv']
                  have hv255 : ¬ ((v : Int) = 255) := by omega
                  rw [htc] at c8
                  have a1 := HT.out x' zn hx' hz
                  have a2 := HT.out zn x' hz hx'
                  have a3 := HU.out y' v hy' hvN
                  have a4 := HU.out v y' hvN hy'
                  go_wp2
                  obtain ⟨wo, rfl⟩ : ∃ wo : World, wo = wr := ⟨_, rfl⟩
                  have hlo := (q7.lt g3 rfl).2
                  have hlo5 := r7.lt
                  apply wp_region_float1 [0, 1, 2, 3, 4, 5, 6, 7, 8, 9, 10, 11, 12, 13, 14, 15, 16, 17, 18, 19, 20, 21, 22, 23, 24, 25, 26, 27, 28, 29, 30, 31, 32, 33, 34, 35, 36, 37, 38] 39 40 _ (fun g9 w' => w.grownBy w' (some b) ∧ blk w' b (led (N : Int) t (N : Int) u M' f') 134 ∧ rds w' g5 N (fun j => .int .u8 (j : Int)) ∧ Que w' w.heap.size 150 2 (.slice (some ⟨g3, off3, none⟩) ql.length cap3) ql.length (qCells ql) ∧ (∀ v8 u8, g9 = v8 :: u8 → ∃ b9, v8 = .slice (some ⟨b9, 0, none⟩) 2 2 ∧ blk w' b9 #[.int .u8 (t x' zn : Int), .int .u8 (u y' v : Int), .int .u8 (t zn x' : Int), .int .u8 (u v y' : Int)] 150)) (by kernel_rfl) (by kernel_rfl) rfl rfl
                  case hS => exact ⟨⟨hg7.os, hg7.tape, hg7.output, hg7.size, hg7.block⟩, d7.drew, r7.drew, Que.drew q7, fun _ _ h => by cases h⟩
                  case ht => repeat (first | exact wpTextG_nil | (apply wpTextG_cons; (intro g9 w6 hS; obtain ⟨h1, h2, h3, h4, h5⟩ := hS; have m1 := h2.cell _ _ (led_q (sqs_get (n := (N : Int)) (t := t) (x := x') (y := zn) (by omega) (by omega)) (by omega)); have m2 := h2.cell _ _ (led_q (sqs_get (n := (N : Int)) (t := t) (x := zn) (y := x') (by omega) (by omega)) (by omega)); have m3 := h2.cell _ _ (led_r (sqs_get (n := (N : Int)) (t := u) (x := y') (y := v) (by omega) (by omega)) (by omega)); have m4 := h2.cell _ _ (led_r (sqs_get (n := (N : Int)) (t := u) (x := v) (y := y') (by omega) (by omega)) (by omega)); rw [show 101 + (1 + y' * 10 + v) = 102 + y' * 10 + v by omega] at m3; rw [show 101 + (1 + v * 10 + y') = 102 + v * 10 + y' by omega] at m4; go_wp2_with (first | (refine wpList_build 150 _ rfl rfl [(0, .int .u8 (t x' zn : Int)), (1, .int .u8 (u y' v : Int))] rfl _ (build_by2 _ _ _) ?_) | (refine wpList_build 150 _ rfl rfl [(0, .int .u8 (t zn x' : Int)), (1, .int .u8 (u v y' : Int))] rfl _ (build_by2 _ _ _) ?_)); exact ⟨rfl, rfl, h1, h2, h3, h4, h5⟩); rfl))
                  case hA =>
                    intro w6 hS
                    obtain ⟨h1, h2, h3, h4, h5⟩ := hS
                    refine yield_bsl (l := [(0, _), (1, _)]) (by exact rfl) [(0, .agg #[.int .u8 (t x' zn : Int), .int .u8 (u y' v : Int)]), (1, .agg #[.int .u8 (t zn x' : Int), .int .u8 (u v y' : Int)])] (by exact rfl) (bsl_q2 _ _ _ _ _) ?_
                    exact ⟨h1.trans (World.grownBy_alloc _ _ _), h2.alloc _, h3.alloc _, h4.kept (World.grownBy_alloc _ _ none) (by simp [Value.ownBlock]), fun v9 u9 h => by cases h; exact ⟨_, rfl, blk_new _ _ _ _ rfl⟩⟩
                  intro v9 w6 hS
                  obtain ⟨h1, h2, h3, h4, h5⟩ := hS
                  obtain ⟨b9, rfl, h6⟩ := h5 _ _ rfl
                  simp only [List.drop_succ_cons, List.drop_zero]
                  have hql3 : ql.length ≤ 300 := by
                    have h1 := news_length N t u M' x' y' zn
                    have h2 := congrArg List.length HQ.out
                    rw [List.length_append] at h2
                    omega
                  have hws : w.heap.size ≤ w6.heap.size := h1.size
                  have h35 := h3.lt
                  have hg3 := (h4.lt g3 rfl).1
                  go_wp2_with (refine wpList_qapp rfl _ _ 151 rfl w.heap.size 150 (.agg #[.int .u8 0, .int .u8 0]) 2 2 und_slq inf_elq rfl (by decide) (by decide) _ _ _ rfl h4 _ 2 rfl _ h6 rfl (flat4 _ _ _ _) (by decide) (by omega) hws ?_; intro v7 w7 hq7 hg8 hfar)
                  go_roundw
                  case rel =>
                    obtain ⟨g7, off7, cap7, rfl, _⟩ := hq7.form
                    refine ⟨zn + 1, g7, off7, cap7, ql ++ [(t x' zn, u y' v), (t zn x', u v y')], by omega, by go_num, by simp, ?_, h1.andThen hg8 (fun j hj => by cases hj; exact .inl hg3), h2.grown hg8 (fun e => by have h9 : b = g3 := Option.some.inj (show some b = some g3 from e); have := hb; omega), h3.grown hg8 (fun e => hg35 (Option.some.inj (show some g5 = some g3 from e)).symm), ?_, ?_⟩
                    · rw [HQ.out]; simp only [news]; rw [if_neg (show ¬ M'.to zn < 0 by omega), hv']; simp
                    · rcases hfar with h | ⟨g8, h, hge⟩
                      · have h9 : g7 = g3 := Option.some.inj (show some g7 = some g3 from h)
                        rw [h9]; exact hg35
                      · have h9 : g7 = g8 := Option.some.inj (show some g7 = some g8 from h)
                        intro h8; rw [← h9, h8] at hge; exact absurd h35 (Nat.not_lt.2 hge)
                    · rw [show (ql ++ [(t x' zn, u y' v), (t zn x', u v y')]).length = ql.length + 2 by simp, show qCells (ql ++ [(t x' zn, u y' v), (t zn x', u v y')]) = qCells ql ++ [.int .u8 (t x' zn : Int), .int .u8 (u y' v : Int), .int .u8 (t zn x' : Int), .int .u8 (u v y' : Int)] by simp [qCells]]
                      exact hq7
                  case measure => simp [intOf]; omega
              · obtain rfl : zn = N := by omega
                have hn : PutInv zn t u b w.heap.size w (putF zn t u K0 m [(x, y)]) k (Value.slice (some ⟨g3, off3, none⟩) ql.length cap3) wr :=
                  ⟨M', f', ql, vM', hf', fun p h => by
                    rw [HQ.out] at h
                    rcases List.mem_append.1 h with h | h
                    · exact hq p (by simp [h])
                    · exact news_lt HT.out HU.out vM' hx' hy' p h, by
                    have h1 := news_length zn t u M' x' y' zn
                    have h2 := congrArg List.length HQ.out
                    rw [List.length_append] at h2
                    omega, by omega, by rw [HQ.out]; exact HM.out, d7, hg7, q7, q7.form⟩
                have hge : ¬ ((zn : Int) < (zn : Int)) := by omega
                go_wp2
                exact ⟨⟨k, hn⟩, Nat.lt_of_le_of_lt (least_le hn) (by rw [hk0]; omega)⟩
end Go.Proofs.Ytinjjaoikofkdaa
