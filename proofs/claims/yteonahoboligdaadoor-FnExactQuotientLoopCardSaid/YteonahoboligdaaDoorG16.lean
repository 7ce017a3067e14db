/- The inner maps of the program, and the list of them: contracts. -/
import Derived.Test.YteonahoboligdaaDoorG15
import Derived.Test.YteonahoboligdaaDoorD0
import Derived.Test.YteonahoboligdaaDoorK11
import Derived.Test.YteonahoboligdaaDoorC9
import Derived.Shelf.Abstract
namespace Go.Proofs.YteonahoboligdaaDoor
set_option linter.unusedSimpArgs false
set_option linter.unusedVariables false
open Go Go.RowKit

section
variable {P : Program} {D : Nat → Prop} {w0 w : World} {L : List Ent} {ops : Array Oper} {rest : List Oper} {o : Oper} {a : Act} {Q : Exit → Act → World → Prop}
set_option maxRecDepth 100000 in
/-- append of a new block with m elements. -/
theorem wpM_appb (M : Mm D w0 w L) (t i k : Nat) (B : Nat) (v : Value) (n : Nat) (xs : List Value) (e size bytes m : Nat) (ho : isApp o.op t = true) (hi : L[i]? = some (.row B v n xs e size)) (hk : isBox L k = true) (hs : a.eval (appS o.op) = v) (hx : a.eval (appX o.op) = .slice (some ⟨entBlk L k, 0, none⟩) m m)
    (hT : entT L k = e) (hgd : o.guard = none) (hB : w0.heap.size ≤ B ∨ ∀ k, v.ownBlock = some k → D k) (hBw : B ≤ w.heap.size) {z : Value} (ht : P.underlying t = some (.slice e)) (hinfo : (P.info? e).map (fun i => (i.zero, i.size, i.bytes)) = some (some z, size, bytes))
    (hzs : z.cells.size = size) (hsz : 0 < size) (ys : Array Value) (hys' : entCells L k = ys) (hys : ys.size = m * size) (h1 : flat ys) (h63 : n + m ≤ maxLen) (hbytes : (n + m) * bytes ≤ 140737488355328)
    (h : ∀ v' w', Far v' v w0.heap.size → Mm D w0 w' (L.set i (.row B v' (n + m) (xs ++ ys.toList) e size)) → wpList P ops Q rest (a.put o.dst v') w') : wpList P ops Q (o :: rest) a w := by
  subst hT hys'
  obtain ⟨i0, hi0, hzz⟩ := Option.map_eq_some_iff.1 hinfo
  simp only [Prod.mk.injEq] at hzz
  obtain ⟨hz0, hz1, hz2⟩ := hzz
  refine wpList_append_own_at w hgd (appS o.op) (appX o.op) t (isApp_spec ho) B _ i0 z size bytes ht hi0 hz0 hz1 hz2 hzs hsz v n xs hs (M.row i hi) _ m m _ hx (by simpa using hys) (fun j u hu => ?_) (flat_one h1) h63 hbytes hBw fun v' w' h2 h3 _ h5 => h v' w' ?_ (M.longer i hi hB h3 h2 ?_)
  · rw [add_none, Nat.zero_add]
    exact (M.box k (isBox_spec hk)).cell j u (by simpa using hu)
  · rcases h5 with h | h
    · exact .inl h
    · exact .inr ⟨_, h, M.size⟩
  · rcases h5 with h | h
    · exact .inl h
    · exact .inr ⟨_, h, Nat.le_refl _⟩
/-- A row that is not empty is read, whatever the size of its elements. -/
theorem Mm.rowRdS (M : Mm D w0 w L) (i : Nat) {B n e size : Nat} {v : Value} {xs : List Value} (hi : L[i]? = some (.row B v n xs e size)) (hn : 0 < n * size) :
    ∃ g cap, v = .slice (some ⟨g, 0, none⟩) n cap ∧ B ≤ g ∧ Mm D w0 w (L.set i (.rd g (n * size) fun j => xs.getD j undef)) := by
  obtain ⟨g, cap, rfl, hB, ho, hr⟩ := own_rds (M.row i hi) hn
  refine ⟨g, cap, rfl, hB, M.set i hi (.refl no w) (fun _ h => h.elim) (fun _ _ h => h.elim) (y := .rd g (n * size) fun j => xs.getD j undef) hr fun k h => .inl ?_⟩
  cases h; exact ho
end

/-- What is found of a map so far. -/
def cutF (k : Nat) (T : Nat → Nat) : Nat → Nat := fun i => if i < k then T i else 0
theorem cutF_set (k : Nat) (T : Nat → Nat) : (bys (cutF k T)).setIfInBounds k (.int .u8 (T k : Nat)) = bys (cutF (k + 1) T) := bys_grow T k
theorem cutF_zero (T : Nat → Nat) : bys (cutF 0 T) = bys fun _ => 0 := by unfold cutF; simp

set_option maxRecDepth 100000 in
set_option maxHeartbeats 2000000 in
theorem mapped_any (n : Nat) (t : Nat → Nat → Nat) (T : Nat → Nat) (f : Nat) (fa cp : Array Value) (w : World) (h0 : 1 ≤ n) (h1 : n ≤ 10) (hen : ∀ (args : Array Value) (w : World), (callFunc f args).run Tryd.prog w = .ok (.enter f args) w)
    (hf : ∀ x, x < n → ∀ w1, Below w.heap.size w w1 → Calls Tryd.prog f (fa.push (.int .u8 (x : Int)) ++ cp) w1 fun e w' => e = .returned (.int .u8 (T x : Nat)) ∧ Below w1.heap.size w1 w') :
    Calls Tryd.prog 96 #[.agg (sqs (n : Int) t), .func (.func f) fa cp] w fun e w' => e = .returned (.agg (bys (cutF n T))) ∧ Below w.heap.size w w' := by
  have M := Mm.start no w
  have HF := Hid2.mk hf
  have hz := zero_plc
  have hbd := build_plc
  have h1' : (1 : Int) ≤ n := by omega
  have h2' : (n : Int) ≤ 10 := by omega
  have HZ := Hid2.mk (cutF_zero T)
  clear hf
  go_enter Tryd.func96, Tryd.ntmps96
  go_wp2_with (first | ((with_reducible apply wpM_box' M 32 (sqs (n : Int) t)); rfl; exact ⟨rfl, rfl⟩; clear M; (try clear C); intro bq w9 h_bq M; have C := M.ruleAll; simp only [Go.Proofs.YteonahoboligdaaDoor.ruleAll] at C) | ((fail_if_success have := h_bo1); ((with_reducible apply wpM_alloc' M 95 (bys fun _ => 0)); rfl; exact ⟨rfl, _, zero_plc _, rfl⟩; clear M; (try clear C); intro bo1 w9 h_bo1 M; have C := M.ruleAll; simp only [Go.Proofs.YteonahoboligdaaDoor.ruleAll] at C)) | ((with_reducible apply wpM_alloc' M 95 (bys fun _ => 0)); rfl; exact ⟨rfl, _, zero_plc _, rfl⟩; clear M; (try clear C); intro bo w9 h_bo M; have C := M.ruleAll; simp only [Go.Proofs.YteonahoboligdaaDoor.ruleAll] at C) | (refine wpList_build 95 _ rfl rfl [] rfl _ (build_plc _) ?_) | ((with_reducible apply wpM_sta' M 0 95 (bys fun _ => 0)); rfl; rfl; rfl; rfl; (first | exact .inl (by assumption) | exact .inr rfl | exact .inr (by assumption)); exact ⟨rfl, inf_plc.trans (congrArg some (bys_size ..).symm), flat_bys _⟩; (simp only [entCells, List.getElem?_cons_zero, List.getElem?_cons_succ, bys_size, bys_size]); clear M; (try clear C); intro w9 M; simp only [List.set_cons_zero, List.set_cons_succ, entBlk, entT, List.getElem?_cons_zero, List.getElem?_cons_succ] at M; have C := M.ruleAll; simp only [Go.Proofs.YteonahoboligdaaDoor.ruleAll] at C) | ((with_reducible apply wpM_lda' M 2 32 0 (sqs (n : Int) t)); rfl; rfl; rfl; exact ⟨rfl, inf_sqs.trans (congrArg some (sqs_size ..).symm), _, und_sqs, rfl⟩; exact whole_of rfl) | (go_at_call 43; ((with_reducible refine (elements_any _ _ _ (by omega) (by omega)).mono ?_); rintro e w1 ⟨g1, cap_g1, rfl, hb, hg, hr⟩; have hsz := M.size; have M9 := M.gain hb (x := .rd g1 n (fun j => .int .u8 (j : Int))) hr (fun b h => by cases h; exact hg); clear M; (try clear C); have M := M9; clear M9; (try simp only [List.set_cons_zero, List.set_cons_succ] at M); have C := M.ruleAll; simp only [Go.Proofs.YteonahoboligdaaDoor.ruleAll] at C; clear hb hg hr)))
  clear hz hbd
  go_loopw [12, 7] (fun i _ wr => ∃ k : Nat, k ≤ n ∧ i = .int .i64 (k : Int) ∧ Mm no w wr [.rd g1 n (fun j => .int .u8 (j : Int)), .box bo (bys (cutF k T)) 95, .box bo1 (bys fun _ => 0) 95]) (fun i _ _ => n - (intOf i).toNat)
  case atStart => exact ⟨0, by omega, rfl, (M.sub [0, 1, 2] (by decide)).eq (by rw [HZ.out]; rfl)⟩
  case round =>
    obtain ⟨k, hk, rfl, M9⟩ := hrel
    clear M; (try clear C)
    have M := M9
    clear M9
    have C := M.ruleAll; simp only [Go.Proofs.YteonahoboligdaaDoor.ruleAll] at C
    by_cases hlt : k < n
    · have hlt' : (k : Int) < (n : Int) := by omega
      have hk10 : (k : Int) < 10 := by omega
      have dlt : decide ((k : Int) < (n : Int)) = true := decide_eq_true hlt'
      have HF1 := Hid2.mk (fun w1 hb => HF.out k hlt w1 hb)
      have HS := Hid2.mk (cutF_set k T)
      generalize T k = v at HF1 HS
      go_wp2_with (first | ((with_reducible refine (HF1.out _ M.below).mono ?_); rintro e w1 ⟨rfl, hb⟩; have M9 := M.later hb; clear M; (try clear C); have M := M9; clear M9 hb; have C := M.ruleAll; simp only [Go.Proofs.YteonahoboligdaaDoor.ruleAll] at C) | ((with_reducible apply wpM_st' M 1 5 (k) (bys (cutF (k + 1) T))); rfl; rfl; rfl; (first | exact .inl (by assumption) | exact .inr rfl | exact .inr (by assumption)); exact ⟨rfl, rfl, by kernel_rfl⟩; (exact Nat.lt_of_lt_of_eq (by omega) (bys_size _).symm); exact HS.out; clear M; (try clear C); intro w9 M; simp only [List.set_cons_zero, List.set_cons_succ, entBlk, entT, List.getElem?_cons_zero, List.getElem?_cons_succ] at M; have C := M.ruleAll; simp only [Go.Proofs.YteonahoboligdaaDoor.ruleAll] at C))
      go_wp2_with (first | ((with_reducible apply wpM_st' M 1 5 (k) (bys (cutF (k + 1) T))); rfl; rfl; rfl; (first | exact .inl (by assumption) | exact .inr rfl | exact .inr (by assumption)); exact ⟨rfl, rfl, by kernel_rfl⟩; (exact Nat.lt_of_lt_of_eq (by omega) (bys_size _).symm); exact HS.out; clear M; (try clear C); intro w9 M; simp only [List.set_cons_zero, List.set_cons_succ, entBlk, entT, List.getElem?_cons_zero, List.getElem?_cons_succ] at M; have C := M.ruleAll; simp only [Go.Proofs.YteonahoboligdaaDoor.ruleAll] at C))
      go_roundw
      case rel => exact ⟨k + 1, by omega, by go_num, M⟩
      case measure => simp [intOf]; omega
    · obtain rfl : k = n := by omega
      go_wp2_with (first | ((with_reducible apply wpM_lda' M 1 95 0 (bys (cutF k T))); rfl; rfl; rfl; exact ⟨rfl, inf_plc.trans (congrArg some (bys_size ..).symm), _, und_plc, rfl⟩; exact whole_of rfl) | ((with_reducible apply wpM_sta' M 2 95 (bys (cutF k T))); rfl; rfl; rfl; rfl; (first | exact .inl (by assumption) | exact .inr rfl | exact .inr (by assumption)); exact ⟨rfl, inf_plc.trans (congrArg some (bys_size ..).symm), flat_bys _⟩; (simp only [entCells, List.getElem?_cons_zero, List.getElem?_cons_succ, bys_size, bys_size]); clear M; (try clear C); intro w9 M; simp only [List.set_cons_zero, List.set_cons_succ, entBlk, entT, List.getElem?_cons_zero, List.getElem?_cons_succ] at M; have C := M.ruleAll; simp only [Go.Proofs.YteonahoboligdaaDoor.ruleAll] at C))
      refine bodyPost_ret (v := .agg (bys (cutF k T))) (by exact results_part rfl _ _ _ _ _ _ rfl und_plc rfl inf_plc (cells_of_blk0 (M.box 2 rfl))) rfl ?_
      exact ⟨rfl, M.below⟩

set_option maxRecDepth 100000 in
set_option maxHeartbeats 2000000 in
theorem turnFn_any (n : Nat) (t : Nat → Nat → Nat) (hs : IsSq (n : Int) t) (x z bq bx : Nat) (hx : x < n) (hz : z < n) (w : World) (M0 : Mm no w w [.box bx #[.int .u8 (x : Int)] 5, .box bq (sqs (n : Int) t) 32]) :
    Calls Tryd.prog 97 #[.int .u8 (z : Int), .pointer (some ⟨bq, 0, none⟩), .pointer (some ⟨bx, 0, none⟩)] w fun e w' => e = .returned (.int .u8 (tmI t x z : Nat)) ∧ Below w.heap.size w w' := by
  have M := M0
  have hn := hs.hi
  have hl := Lat.of_sq hs
  have h1 := hl.lt x z hx hz
  have H1 := Hid2.mk (fun w1 => right_any (n : Int) t hs (t x z) x (by omega) (by omega) w1)
  have q1 := sqs_get (n := (n : Int)) (t := t) (x := x) (y := z) (by omega) (by omega)
  unfold tmI rq
  generalize lq (fun x y => t y x) x (t x z) = r at *
  generalize t x z = u at *
  have hx' : (x : Int) < 10 := by omega
  have hz' : (z : Int) < 10 := by omega
  clear M0 hl hs
  have C := M.ruleAll; simp only [Go.Proofs.YteonahoboligdaaDoor.ruleAll] at C
  go_enter Tryd.func97, Tryd.ntmps97
  go_wp2
  apply wp_region_mm M 9 (by kernel_rfl) (by kernel_rfl); (simp only [List.take_succ_cons, List.take_zero]; repeat (first | exact wpText_nil | (apply wpText_cons; (intro w2 M; have C := M.ruleAll; simp only [Go.Proofs.YteonahoboligdaaDoor.ruleAll] at C; go_wp2_with (first | ((with_reducible apply wpM_lda' M 1 32 0 (sqs (n : Int) t)); rfl; rfl; rfl; exact ⟨rfl, inf_sqs.trans (congrArg some (sqs_size ..).symm), _, und_sqs, rfl⟩; exact whole_of rfl) | (go_at_call 64; ((with_reducible refine (H1.out _).mono ?_); rintro e w1 ⟨rfl, hb⟩; have hsz := M.size; (try (have G9 := G.later hb; clear G; have G := G9; clear G9)); have M9 := M.later hb; clear M; (try clear C); have M := M9; clear M9; have C := M.ruleAll; simp only [Go.Proofs.YteonahoboligdaaDoor.ruleAll] at C))); exact ⟨rfl, rfl, M⟩); rfl))); (clear M; (try clear C); intro w2 M; simp only [List.drop_succ_cons, List.drop_zero]; have C := M.ruleAll; simp only [Go.Proofs.YteonahoboligdaaDoor.ruleAll] at C)
  go_wp2
  go_ret
  exact ⟨rfl, M.below⟩

set_option maxRecDepth 100000 in
set_option maxHeartbeats 4000000 in
theorem leftFn_any (n : Nat) (t : Nat → Nat → Nat) (hs : IsSq (n : Int) t) (x y z bq bx by_ : Nat) (hx : x < n) (hy : y < n) (hz : z < n) (w : World) (M0 : Mm no w w [.box by_ #[.int .u8 (y : Int)] 5, .box bx #[.int .u8 (x : Int)] 5, .box bq (sqs (n : Int) t) 32]) :
    Calls Tryd.prog 98 #[.int .u8 (z : Int), .pointer (some ⟨bq, 0, none⟩), .pointer (some ⟨by_, 0, none⟩), .pointer (some ⟨bx, 0, none⟩)] w fun e w' => e = .returned (.int .u8 (lmI t x y z : Nat)) ∧ Below w.heap.size w w' := by
  have M := M0
  have hn := hs.hi
  have hl := Lat.of_sq hs
  have h1 := hl.lt x z hx hz
  have h2 := hl.lt y x hy hx
  have h3 := hl.lt y _ hy h1
  have H1 := Hid2.mk (fun w1 => left_any (n : Int) t hs (t y x) (t y (t x z)) (by omega) (by omega) w1)
  have q1 := sqs_get (n := (n : Int)) (t := t) (x := x) (y := z) (by omega) (by omega)
  have q2 := sqs_get (n := (n : Int)) (t := t) (x := y) (y := x) (by omega) (by omega)
  have q3 := sqs_get (n := (n : Int)) (t := t) (x := y) (y := t x z) (by omega) (by omega)
  unfold lmI
  generalize lq t (t y x) (t y (t x z)) = r at *
  generalize t y (t x z) = v at *
  generalize t x z = u at *
  generalize t y x = s at *
  have hx' : (x : Int) < 10 := by omega
  have hy' : (y : Int) < 10 := by omega
  have hz' : (z : Int) < 10 := by omega
  have hu' : (u : Int) < 10 := by omega
  clear M0 hl hs
  have C := M.ruleAll; simp only [Go.Proofs.YteonahoboligdaaDoor.ruleAll] at C
  go_enter Tryd.func98, Tryd.ntmps98
  go_wp2
  apply wp_region_mm M 19 (by kernel_rfl) (by kernel_rfl); (simp only [List.take_succ_cons, List.take_zero]; repeat (first | exact wpText_nil | (apply wpText_cons; (intro w2 M; have C := M.ruleAll; simp only [Go.Proofs.YteonahoboligdaaDoor.ruleAll] at C; go_wp2_with (first | ((with_reducible apply wpM_lda' M 2 32 0 (sqs (n : Int) t)); rfl; rfl; rfl; exact ⟨rfl, inf_sqs.trans (congrArg some (sqs_size ..).symm), _, und_sqs, rfl⟩; exact whole_of rfl) | (go_at_call 63; ((with_reducible refine (H1.out _).mono ?_); rintro e w1 ⟨rfl, hb⟩; have hsz := M.size; (try (have G9 := G.later hb; clear G; have G := G9; clear G9)); have M9 := M.later hb; clear M; (try clear C); have M := M9; clear M9; have C := M.ruleAll; simp only [Go.Proofs.YteonahoboligdaaDoor.ruleAll] at C))); exact ⟨rfl, rfl, M⟩); rfl))); (clear M; (try clear C); intro w2 M; simp only [List.drop_succ_cons, List.drop_zero]; have C := M.ruleAll; simp only [Go.Proofs.YteonahoboligdaaDoor.ruleAll] at C)
  go_wp2
  go_ret
  exact ⟨rfl, M.below⟩

set_option maxRecDepth 100000 in
set_option maxHeartbeats 4000000 in
theorem rightFn_any (n : Nat) (t : Nat → Nat → Nat) (hs : IsSq (n : Int) t) (x y z bq bx by_ : Nat) (hx : x < n) (hy : y < n) (hz : z < n) (w : World) (M0 : Mm no w w [.box by_ #[.int .u8 (y : Int)] 5, .box bx #[.int .u8 (x : Int)] 5, .box bq (sqs (n : Int) t) 32]) :
    Calls Tryd.prog 99 #[.int .u8 (z : Int), .pointer (some ⟨bq, 0, none⟩), .pointer (some ⟨bx, 0, none⟩), .pointer (some ⟨by_, 0, none⟩)] w fun e w' => e = .returned (.int .u8 (rmI t x y z : Nat)) ∧ Below w.heap.size w w' := by
  have M := M0
  have hn := hs.hi
  have hl := Lat.of_sq hs
  have h1 := hl.lt z x hz hx
  have h2 := hl.lt x y hx hy
  have h3 := hl.lt _ y h1 hy
  have H1 := Hid2.mk (fun w1 => right_any (n : Int) t hs (t (t z x) y) (t x y) (by omega) (by omega) w1)
  have q1 := sqs_get (n := (n : Int)) (t := t) (x := z) (y := x) (by omega) (by omega)
  have q2 := sqs_get (n := (n : Int)) (t := t) (x := x) (y := y) (by omega) (by omega)
  have q3 := sqs_get (n := (n : Int)) (t := t) (x := t z x) (y := y) (by omega) (by omega)
  unfold rmI rq
  generalize lq (fun x y => t y x) (t x y) (t (t z x) y) = r at *
  generalize t (t z x) y = v at *
  generalize t z x = u at *
  generalize t x y = s at *
  have hx' : (x : Int) < 10 := by omega
  have hy' : (y : Int) < 10 := by omega
  have hz' : (z : Int) < 10 := by omega
  have hu' : (u : Int) < 10 := by omega
  clear M0 hl hs
  have C := M.ruleAll; simp only [Go.Proofs.YteonahoboligdaaDoor.ruleAll] at C
  go_enter Tryd.func99, Tryd.ntmps99
  go_wp2
  apply wp_region_mm M 19 (by kernel_rfl) (by kernel_rfl); (simp only [List.take_succ_cons, List.take_zero]; repeat (first | exact wpText_nil | (apply wpText_cons; (intro w2 M; have C := M.ruleAll; simp only [Go.Proofs.YteonahoboligdaaDoor.ruleAll] at C; go_wp2_with (first | ((with_reducible apply wpM_lda' M 2 32 0 (sqs (n : Int) t)); rfl; rfl; rfl; exact ⟨rfl, inf_sqs.trans (congrArg some (sqs_size ..).symm), _, und_sqs, rfl⟩; exact whole_of rfl) | (go_at_call 64; ((with_reducible refine (H1.out _).mono ?_); rintro e w1 ⟨rfl, hb⟩; have hsz := M.size; (try (have G9 := G.later hb; clear G; have G := G9; clear G9)); have M9 := M.later hb; clear M; (try clear C); have M := M9; clear M9; have C := M.ruleAll; simp only [Go.Proofs.YteonahoboligdaaDoor.ruleAll] at C))); exact ⟨rfl, rfl, M⟩); rfl))); (clear M; (try clear C); intro w2 M; simp only [List.drop_succ_cons, List.drop_zero]; have C := M.ruleAll; simp only [Go.Proofs.YteonahoboligdaaDoor.ruleAll] at C)
  go_wp2
  go_ret
  exact ⟨rfl, M.below⟩

set_option maxRecDepth 100000 in
set_option maxHeartbeats 1000000 in
theorem turn_any (n : Nat) (t : Nat → Nat → Nat) (hs : IsSq (n : Int) t) (x : Nat) (hx : x < n) (w : World) :
    Calls Tryd.prog 87 #[.agg (sqs (n : Int) t), .int .u8 (x : Int)] w fun e w' => e = .returned (.agg (bys (cutF n (tmI t x)))) ∧ Below w.heap.size w w' := by
  have M := Mm.start no w
  have h0 : 1 ≤ n := by have := hs.lo; omega
  have hn : n ≤ 10 := by have := hs.hi; omega
  have HM := Hid2.mk (fun bq bx w1 (M1 : Mm no w1 w1 [.box bx #[.int .u8 (x : Int)] 5, .box bq (sqs (n : Int) t) 32]) => mapped_any n t (tmI t x) 97 #[] #[.pointer (some ⟨bq, 0, none⟩), .pointer (some ⟨bx, 0, none⟩)] w1 h0 hn (enters_of (P := Tryd.prog) (f := 97) (by exact Tryd.func97) (by kernel_rfl) rfl) (fun z hz w2 hb2 => turnFn_any n t hs x z bq bx hx hz w2 (M1.later hb2).anew))
  generalize cutF n (tmI t x) = V at *
  have hz := zero_plc
  clear hs
  go_enter Tryd.func87, Tryd.ntmps87
  go_wp2_with (first | ((with_reducible apply wpM_box' M 32 (sqs (n : Int) t)); rfl; exact ⟨rfl, rfl⟩; clear M; (try clear C); intro bq w9 h_bq M; have C := M.ruleAll; simp only [Go.Proofs.YteonahoboligdaaDoor.ruleAll] at C) | ((with_reducible apply wpM_box' M 5 (#[.int .u8 (x : Int)])); rfl; exact ⟨rfl, rfl⟩; clear M; (try clear C); intro bx w9 h_bx M; have C := M.ruleAll; simp only [Go.Proofs.YteonahoboligdaaDoor.ruleAll] at C) | ((with_reducible apply wpM_alloc' M 95 (bys fun _ => 0)); rfl; exact ⟨rfl, _, zero_plc _, rfl⟩; clear M; (try clear C); intro bo w9 h_bo M; have C := M.ruleAll; simp only [Go.Proofs.YteonahoboligdaaDoor.ruleAll] at C) | ((with_reducible apply wpM_lda' M 2 32 0 (sqs (n : Int) t)); rfl; rfl; rfl; exact ⟨rfl, inf_sqs.trans (congrArg some (sqs_size ..).symm), _, und_sqs, rfl⟩; exact whole_of rfl) | (go_at_call 96; ((with_reducible refine (HM.out bq bx _ (M.sub [1, 2] (by decide)).anew).mono ?_); rintro e w1 ⟨rfl, hb⟩; have hsz := M.size; (try (have G9 := G.later hb; clear G; have G := G9; clear G9)); have M9 := M.later hb; clear M; (try clear C); have M := M9; clear M9; have C := M.ruleAll; simp only [Go.Proofs.YteonahoboligdaaDoor.ruleAll] at C)) | ((with_reducible apply wpM_sta' M 0 95 (bys V)); rfl; rfl; rfl; rfl; (first | exact .inl (by assumption) | exact .inr rfl | exact .inr (by assumption)); exact ⟨rfl, inf_plc.trans (congrArg some (bys_size ..).symm), flat_bys _⟩; (simp only [entCells, List.getElem?_cons_zero, List.getElem?_cons_succ, bys_size, bys_size]); clear M; (try clear C); intro w9 M; simp only [List.set_cons_zero, List.set_cons_succ, entBlk, entT, List.getElem?_cons_zero, List.getElem?_cons_succ] at M; have C := M.ruleAll; simp only [Go.Proofs.YteonahoboligdaaDoor.ruleAll] at C))
  refine bodyPost_ret (v := .agg (bys V)) (by exact results_part rfl _ _ _ _ _ _ rfl und_plc rfl inf_plc (cells_of_blk0 (M.box 0 rfl))) rfl ?_
  exact ⟨rfl, M.below⟩

set_option maxRecDepth 100000 in
set_option maxHeartbeats 1000000 in
theorem leftInner_any (n : Nat) (t : Nat → Nat → Nat) (hs : IsSq (n : Int) t) (x y : Nat) (hx : x < n) (hy : y < n) (w : World) :
    Calls Tryd.prog 88 #[.agg (sqs (n : Int) t), .int .u8 (x : Int), .int .u8 (y : Int)] w fun e w' => e = .returned (.agg (bys (cutF n (lmI t x y)))) ∧ Below w.heap.size w w' := by
  have M := Mm.start no w
  have h0 : 1 ≤ n := by have := hs.lo; omega
  have hn : n ≤ 10 := by have := hs.hi; omega
  have HM := Hid2.mk (fun bq bx by_ w1 (M1 : Mm no w1 w1 [.box by_ #[.int .u8 (y : Int)] 5, .box bx #[.int .u8 (x : Int)] 5, .box bq (sqs (n : Int) t) 32]) => mapped_any n t (lmI t x y) 98 #[] #[.pointer (some ⟨bq, 0, none⟩), .pointer (some ⟨by_, 0, none⟩), .pointer (some ⟨bx, 0, none⟩)] w1 h0 hn (enters_of (P := Tryd.prog) (f := 98) (by exact Tryd.func98) (by kernel_rfl) rfl) (fun z hz w2 hb2 => leftFn_any n t hs x y z bq bx by_ hx hy hz w2 (M1.later hb2).anew))
  generalize cutF n (lmI t x y) = V at *
  have hz := zero_plc
  clear hs
  go_enter Tryd.func88, Tryd.ntmps88
  go_wp2_with (first | ((with_reducible apply wpM_box' M 32 (sqs (n : Int) t)); rfl; exact ⟨rfl, rfl⟩; clear M; (try clear C); intro bq w9 h_bq M; have C := M.ruleAll; simp only [Go.Proofs.YteonahoboligdaaDoor.ruleAll] at C) | ((fail_if_success have := h_bx); ((with_reducible apply wpM_box' M 5 (#[.int .u8 (x : Int)])); rfl; exact ⟨rfl, rfl⟩; clear M; (try clear C); intro bx w9 h_bx M; have C := M.ruleAll; simp only [Go.Proofs.YteonahoboligdaaDoor.ruleAll] at C)) | ((with_reducible apply wpM_box' M 5 (#[.int .u8 (y : Int)])); rfl; exact ⟨rfl, rfl⟩; clear M; (try clear C); intro by_ w9 h_by_ M; have C := M.ruleAll; simp only [Go.Proofs.YteonahoboligdaaDoor.ruleAll] at C) | ((with_reducible apply wpM_alloc' M 95 (bys fun _ => 0)); rfl; exact ⟨rfl, _, zero_plc _, rfl⟩; clear M; (try clear C); intro bo w9 h_bo M; have C := M.ruleAll; simp only [Go.Proofs.YteonahoboligdaaDoor.ruleAll] at C) | ((with_reducible apply wpM_lda' M 3 32 0 (sqs (n : Int) t)); rfl; rfl; rfl; exact ⟨rfl, inf_sqs.trans (congrArg some (sqs_size ..).symm), _, und_sqs, rfl⟩; exact whole_of rfl) | (go_at_call 96; ((with_reducible refine (HM.out bq bx by_ _ (M.sub [1, 2, 3] (by decide)).anew).mono ?_); rintro e w1 ⟨rfl, hb⟩; have hsz := M.size; (try (have G9 := G.later hb; clear G; have G := G9; clear G9)); have M9 := M.later hb; clear M; (try clear C); have M := M9; clear M9; have C := M.ruleAll; simp only [Go.Proofs.YteonahoboligdaaDoor.ruleAll] at C)) | ((with_reducible apply wpM_sta' M 0 95 (bys V)); rfl; rfl; rfl; rfl; (first | exact .inl (by assumption) | exact .inr rfl | exact .inr (by assumption)); exact ⟨rfl, inf_plc.trans (congrArg some (bys_size ..).symm), flat_bys _⟩; (simp only [entCells, List.getElem?_cons_zero, List.getElem?_cons_succ, bys_size, bys_size]); clear M; (try clear C); intro w9 M; simp only [List.set_cons_zero, List.set_cons_succ, entBlk, entT, List.getElem?_cons_zero, List.getElem?_cons_succ] at M; have C := M.ruleAll; simp only [Go.Proofs.YteonahoboligdaaDoor.ruleAll] at C))
  refine bodyPost_ret (v := .agg (bys V)) (by exact results_part rfl _ _ _ _ _ _ rfl und_plc rfl inf_plc (cells_of_blk0 (M.box 0 rfl))) rfl ?_
  exact ⟨rfl, M.below⟩

set_option maxRecDepth 100000 in
set_option maxHeartbeats 1000000 in
theorem rightInner_any (n : Nat) (t : Nat → Nat → Nat) (hs : IsSq (n : Int) t) (x y : Nat) (hx : x < n) (hy : y < n) (w : World) :
    Calls Tryd.prog 89 #[.agg (sqs (n : Int) t), .int .u8 (x : Int), .int .u8 (y : Int)] w fun e w' => e = .returned (.agg (bys (cutF n (rmI t x y)))) ∧ Below w.heap.size w w' := by
  have M := Mm.start no w
  have h0 : 1 ≤ n := by have := hs.lo; omega
  have hn : n ≤ 10 := by have := hs.hi; omega
  have HM := Hid2.mk (fun bq bx by_ w1 (M1 : Mm no w1 w1 [.box by_ #[.int .u8 (y : Int)] 5, .box bx #[.int .u8 (x : Int)] 5, .box bq (sqs (n : Int) t) 32]) => mapped_any n t (rmI t x y) 99 #[] #[.pointer (some ⟨bq, 0, none⟩), .pointer (some ⟨bx, 0, none⟩), .pointer (some ⟨by_, 0, none⟩)] w1 h0 hn (enters_of (P := Tryd.prog) (f := 99) (by exact Tryd.func99) (by kernel_rfl) rfl) (fun z hz w2 hb2 => rightFn_any n t hs x y z bq bx by_ hx hy hz w2 (M1.later hb2).anew))
  generalize cutF n (rmI t x y) = V at *
  have hz := zero_plc
  clear hs
  go_enter Tryd.func89, Tryd.ntmps89
  go_wp2_with (first | ((with_reducible apply wpM_box' M 32 (sqs (n : Int) t)); rfl; exact ⟨rfl, rfl⟩; clear M; (try clear C); intro bq w9 h_bq M; have C := M.ruleAll; simp only [Go.Proofs.YteonahoboligdaaDoor.ruleAll] at C) | ((fail_if_success have := h_bx); ((with_reducible apply wpM_box' M 5 (#[.int .u8 (x : Int)])); rfl; exact ⟨rfl, rfl⟩; clear M; (try clear C); intro bx w9 h_bx M; have C := M.ruleAll; simp only [Go.Proofs.YteonahoboligdaaDoor.ruleAll] at C)) | ((with_reducible apply wpM_box' M 5 (#[.int .u8 (y : Int)])); rfl; exact ⟨rfl, rfl⟩; clear M; (try clear C); intro by_ w9 h_by_ M; have C := M.ruleAll; simp only [Go.Proofs.YteonahoboligdaaDoor.ruleAll] at C) | ((with_reducible apply wpM_alloc' M 95 (bys fun _ => 0)); rfl; exact ⟨rfl, _, zero_plc _, rfl⟩; clear M; (try clear C); intro bo w9 h_bo M; have C := M.ruleAll; simp only [Go.Proofs.YteonahoboligdaaDoor.ruleAll] at C) | ((with_reducible apply wpM_lda' M 3 32 0 (sqs (n : Int) t)); rfl; rfl; rfl; exact ⟨rfl, inf_sqs.trans (congrArg some (sqs_size ..).symm), _, und_sqs, rfl⟩; exact whole_of rfl) | (go_at_call 96; ((with_reducible refine (HM.out bq bx by_ _ (M.sub [1, 2, 3] (by decide)).anew).mono ?_); rintro e w1 ⟨rfl, hb⟩; have hsz := M.size; (try (have G9 := G.later hb; clear G; have G := G9; clear G9)); have M9 := M.later hb; clear M; (try clear C); have M := M9; clear M9; have C := M.ruleAll; simp only [Go.Proofs.YteonahoboligdaaDoor.ruleAll] at C)) | ((with_reducible apply wpM_sta' M 0 95 (bys V)); rfl; rfl; rfl; rfl; (first | exact .inl (by assumption) | exact .inr rfl | exact .inr (by assumption)); exact ⟨rfl, inf_plc.trans (congrArg some (bys_size ..).symm), flat_bys _⟩; (simp only [entCells, List.getElem?_cons_zero, List.getElem?_cons_succ, bys_size, bys_size]); clear M; (try clear C); intro w9 M; simp only [List.set_cons_zero, List.set_cons_succ, entBlk, entT, List.getElem?_cons_zero, List.getElem?_cons_succ] at M; have C := M.ruleAll; simp only [Go.Proofs.YteonahoboligdaaDoor.ruleAll] at C))
  refine bodyPost_ret (v := .agg (bys V)) (by exact results_part rfl _ _ _ _ _ _ rfl und_plc rfl inf_plc (cells_of_blk0 (M.box 0 rfl))) rfl ?_
  exact ⟨rfl, M.below⟩
end Go.Proofs.YteonahoboligdaaDoor

/- The list of the inner maps, what a map leads a set to, and the normal closure: contracts of the program. -/
namespace Go.Proofs.YteonahoboligdaaDoor
set_option linter.unusedSimpArgs false
set_option linter.unusedVariables false
open Go Go.RowKit

/-! ### The maps, in a list -/
noncomputable def inRow (n : Nat) (t : Nat → Nat → Nat) (x : Nat) : Nat → List (Nat → Nat)
  | 0 => [cutF n (tmI t x)]
  | l + 1 => inRow n t x l ++ [cutF n (lmI t x l), cutF n (rmI t x l)]
noncomputable def inTo (n : Nat) (t : Nat → Nat → Nat) : Nat → List (Nat → Nat)
  | 0 => []
  | k + 1 => inTo n t k ++ inRow n t k n
noncomputable def inL (n : Nat) (t : Nat → Nat → Nat) : List (Nat → Nat) := inTo n t n
theorem inRow_len (n : Nat) (t : Nat → Nat → Nat) (x : Nat) : ∀ l, (inRow n t x l).length = 1 + 2 * l
  | 0 => rfl
  | l + 1 => by rw [inRow, List.length_append, inRow_len n t x l]; simp only [List.length_cons, List.length_nil]; omega
theorem inTo_len {n : Nat} (hn : n ≤ 10) (t : Nat → Nat → Nat) : ∀ k, (inTo n t k).length ≤ k * 21
  | 0 => Nat.zero_le _
  | k + 1 => by rw [inTo, List.length_append, inRow_len]; have := inTo_len hn t k; omega
theorem inRow_mem {n : Nat} {t : Nat → Nat → Nat} {x : Nat} {f : Nat → Nat} : ∀ {l : Nat}, f ∈ inRow n t x l → f = cutF n (tmI t x) ∨ ∃ y, y < l ∧ (f = cutF n (lmI t x y) ∨ f = cutF n (rmI t x y))
  | 0, h => .inl (by simpa [inRow] using h)
  | l + 1, h => by
    rw [inRow, List.mem_append] at h
    rcases h with h | h
    · rcases inRow_mem h with h | ⟨y, hy, h⟩
      · exact .inl h
      · exact .inr ⟨y, by omega, h⟩
    · exact .inr ⟨l, by omega, by simpa using h⟩
theorem inTo_mem {n : Nat} {t : Nat → Nat → Nat} {f : Nat → Nat} : ∀ {k : Nat}, f ∈ inTo n t k → ∃ x, x < k ∧ f ∈ inRow n t x n
  | 0, h => by cases h
  | k + 1, h => by
    rw [inTo, List.mem_append] at h
    rcases h with h | h
    · obtain ⟨x, hx, h⟩ := inTo_mem h; exact ⟨x, by omega, h⟩
    · exact ⟨k, by omega, h⟩
theorem inRow_in {n : Nat} {t : Nat → Nat → Nat} {x : Nat} : ∀ {l : Nat}, cutF n (tmI t x) ∈ inRow n t x l ∧ ∀ y, y < l → cutF n (lmI t x y) ∈ inRow n t x l ∧ cutF n (rmI t x y) ∈ inRow n t x l
  | 0 => ⟨by simp [inRow], fun y h => by omega⟩
  | l + 1 => by
    obtain ⟨h1, h2⟩ := inRow_in (n := n) (t := t) (x := x) (l := l)
    refine ⟨List.mem_append_left _ h1, fun y hy => ?_⟩
    by_cases e : y = l
    · subst e; exact ⟨List.mem_append_right _ (by simp), List.mem_append_right _ (by simp)⟩
    · obtain ⟨a, b⟩ := h2 y (by omega)
      exact ⟨List.mem_append_left _ a, List.mem_append_left _ b⟩
theorem inTo_in {n : Nat} {t : Nat → Nat → Nat} {x : Nat} {f : Nat → Nat} (h : f ∈ inRow n t x n) : ∀ {k : Nat}, x < k → f ∈ inTo n t k
  | k + 1, hx => by
    rw [inTo, List.mem_append]
    by_cases e : x = k
    · subst e; exact .inr h
    · exact .inl (inTo_in h (by omega))
theorem cutF_at {k : Nat} {T : Nat → Nat} {i : Nat} (h : i < k) : cutF k T i = T i := if_pos h
/-- Every map of the list keeps what is normal. -/
theorem inL_keep {n : Nat} {t : Nat → Nat → Nat} {f : Nat → Nat} (h : f ∈ inL n t) {S : Nat → Prop} (hS : Nrm n t S) {z : Nat} (hz : z < n) (h1 : S z) : S (f z) := by
  obtain ⟨x, hx, h⟩ := inTo_mem h
  rcases inRow_mem h with rfl | ⟨y, hy, rfl | rfl⟩ <;> rw [cutF_at hz]
  · exact hS.tm x z hx hz h1
  · exact hS.lm x y z hx hy hz h1
  · exact hS.rm x y z hx hy hz h1
theorem inL_lt {n : Nat} {t : Nat → Nat → Nat} (hl : Loo n t) {f : Nat → Nat} (h : f ∈ inL n t) (i : Nat) : f i < 10 := by
  have hn := hl.sq.hi
  have h0 := hl.pos
  rcases Nat.lt_or_ge i n with hi | hi
  · have := inL_keep h (nrm_all hl) hi hi
    have h2 : f i < n := this
    omega
  · obtain ⟨x, hx, h⟩ := inTo_mem h
    rcases inRow_mem h with rfl | ⟨y, hy, rfl | rfl⟩ <;> (unfold cutF; rw [if_neg (by omega)]; omega)

/-! ### What a map leads a set to -/
def ldTo (f : Nat → Nat) (s : Nat) : Nat → Nat
  | 0 => 0
  | k + 1 => if s.testBit k = true then ldTo f s k ||| 2 ^ f k else ldTo f s k
theorem ldTo_bit (f : Nat → Nat) (s v : Nat) : ∀ k, (ldTo f s k).testBit v = true ↔ ∃ i, i < k ∧ s.testBit i = true ∧ f i = v
  | 0 => by simp [ldTo]
  | k + 1 => by
    rw [ldTo]
    split
    · rename_i h
      rw [Nat.testBit_or, Bool.or_eq_true, ldTo_bit f s v k, Nat.testBit_two_pow, decide_eq_true_iff]
      constructor
      · rintro (⟨i, h1, h2⟩ | h2)
        · exact ⟨i, by omega, h2⟩
        · exact ⟨k, by omega, h, h2⟩
      · rintro ⟨i, h1, h2, h3⟩
        by_cases e : i = k
        · subst e; exact .inr h3
        · exact .inl ⟨i, by omega, h2, h3⟩
    · rename_i h
      rw [ldTo_bit f s v k]
      constructor
      · rintro ⟨i, h1, h2⟩; exact ⟨i, by omega, h2⟩
      · rintro ⟨i, h1, h2, h3⟩
        by_cases e : i = k
        · subst e; exact absurd h2 h
        · exact ⟨i, by omega, h2, h3⟩
theorem ldTo_lt {f : Nat → Nat} (hf : ∀ i, f i < 10) (s : Nat) : ∀ k, ldTo f s k < 1024
  | 0 => by rw [ldTo]; omega
  | k + 1 => by
    rw [ldTo]
    split
    · exact Nat.or_lt_two_pow (n := 10) (ldTo_lt hf s k) (Nat.pow_lt_pow_right (by omega) (hf k))
    · exact ldTo_lt hf s k

/-! ### The rounds of the search for the normal closure -/
structure BegN (n : Nat) (t : Nat → Nat → Nat) (m s : Nat) : Prop where
  lt : s < 1024
  has : SubM m s
  gen : SubM s (norM n t m)
structure LedN (n : Nat) (t : Nat → Nat → Nat) (m s nx k : Nat) : Prop where
  lt : nx < 1024
  sub : SubM s nx
  own : SubM (genM t s) nx
  gen : SubM nx (norM n t m)
  met : ∀ (j : Nat) (f : Nat → Nat), j < k → (inL n t)[j]? = some f → ∀ i, s.testBit i = true → nx.testBit (f i) = true
section
variable {n : Nat} {t : Nat → Nat → Nat} (hl : Loo n t) {m : Nat} (hm : ∀ i, m.testBit i = true → i < n)
include hl hm
theorem BegN.bits {s : Nat} (B : BegN n t m s) : ∀ i, s.testBit i = true → i < n := fun i hi => norM_n hl hm (B.gen i hi)
theorem BegN.start (h : m < 1024) : BegN n t m m := ⟨h, SubM.refl m, norM_sub hl hm⟩
theorem LedN.start {s : Nat} (B : BegN n t m s) : LedN n t m s (genM t s) 0 :=
  ⟨genM_lt t s, genM_sub hl.sq (B.bits hl hm), SubM.refl _, genM_least hl.sq (B.bits hl hm) (norM_nrm hl hm).clo B.gen, fun j f h => by omega⟩
theorem LedN.step {s nx k : Nat} {f : Nat → Nat} (V : LedN n t m s nx k) (hf : (inL n t)[k]? = some f) : LedN n t m s (nx ||| ldTo f nx 10) (k + 1) := by
  have hmem := List.mem_of_getElem? hf
  refine ⟨Nat.or_lt_two_pow (n := 10) V.lt (ldTo_lt (inL_lt hl hmem) nx 10), V.sub.trans (SubM.or_left _ _), V.own.trans (SubM.or_left _ _), fun i hi => ?_, fun j g hj hg i hi => ?_⟩
  · rw [Nat.testBit_or, Bool.or_eq_true] at hi
    rcases hi with h | h
    · exact V.gen i h
    · obtain ⟨j, _, h2, rfl⟩ := (ldTo_bit f nx i 10).1 h
      have h3 := V.gen j h2
      exact inL_keep hmem (norM_nrm hl hm) (norM_n hl hm h3) h3
  · rw [Nat.testBit_or, Bool.or_eq_true]
    by_cases e : j = k
    · subst e
      rw [hf] at hg; cases hg
      exact .inr ((ldTo_bit f nx _ 10).2 ⟨i, bit_lt V.lt (V.sub i hi), V.sub i hi, rfl⟩)
    · exact .inl (V.met j g (by omega) hg i hi)
theorem LedN.done {s : Nat} (B : BegN n t m s) (V : LedN n t m s s (inL n t).length) : s = norM n t m := by
  have hb := B.bits hl hm
  have hc : CloM t s := (genM_self hl.sq hb).1 (SubM.anti V.own (genM_sub hl.sq hb))
  have key : ∀ f, f ∈ inL n t → ∀ z, z < n → s.testBit z = true → s.testBit (f z) = true := fun f hf z hz h => by
    obtain ⟨j, hj⟩ := List.getElem?_of_mem hf
    exact V.met j f (List.getElem?_eq_some_iff.1 hj).1 hj z h
  have hN : NrmM n t s := ⟨hc, fun x z hx hz h => by
      have := key _ (inTo_in (inRow_in (l := n)).1 hx) z hz h
      rwa [cutF_at hz] at this, fun x y z hx hy hz h => by
      have := key _ (inTo_in ((inRow_in (l := n)).2 y hy).1 hx) z hz h
      rwa [cutF_at hz] at this, fun x y z hx hy hz h => by
      have := key _ (inTo_in ((inRow_in (l := n)).2 y hy).2 hx) z hz h
      rwa [cutF_at hz] at this⟩
  exact B.gen.anti (norM_least hl hm hN B.has)
omit hl hm in
theorem LedN.more {s nx k : Nat} (B : BegN n t m s) (V : LedN n t m s nx k) (h : nx ≠ s) : BegN n t m nx ∧ s < nx :=
  ⟨⟨V.lt, B.has.trans V.sub, V.gen⟩, by have := V.sub.le; omega⟩
end

theorem bits_or1 {s u : Nat} (hs : s < 1024) (hu : u < 10) : bits .or .i64 (s : Int) (wrap64 (2 ^ u)) = ((s ||| 2 ^ u : Nat) : Int) := by
  have h1 : (2 : Nat) ^ u < 2 ^ 10 := Nat.pow_lt_pow_right (by omega) hu
  rw [wrap_pow hu, bits_or_i64_nat _ _ (by omega) (by omega)]
set_option maxRecDepth 100000 in
set_option maxHeartbeats 2000000 in
theorem led_any (f : Nat → Nat) (hf : ∀ i, f i < 10) (s : Nat) (hs : s < 1024) (w : World) :
    Calls Tryd.prog 72 #[.int .i64 (s : Int), .agg (bys f)] w fun e w' => e = .returned (.int .i64 (ldTo f s 10 : Nat)) ∧ Below w.heap.size w w' := by
  have M := Mm.start no w
  have hs' : (s : Int) < 1024 := by omega
  have HF := Hid2.mk hf
  have HL := Hid2.mk (fun k => ldTo_lt hf s k)
  have HS := Hid2.mk (show ∀ k, ldTo f s (k + 1) = if s.testBit k = true then ldTo f s k ||| 2 ^ f k else ldTo f s k from fun _ => rfl)
  have H0 := Hid2.mk (show ldTo f s 0 = 0 from rfl)
  have HH := Hid2.mk (fun k (hk : k < 10) w1 => has_any s k hs hk w1)
  generalize ldTo f s = L at *
  clear hf
  go_enter Tryd.func72, Tryd.ntmps72
  go_wp2_with (first | ((with_reducible apply wpM_box' M 95 (bys f)); rfl; exact ⟨rfl, rfl⟩; clear M; (try clear C); intro bp w9 h_bp M; have C := M.ruleAll; simp only [Go.Proofs.YteonahoboligdaaDoor.ruleAll] at C))
  go_loopw [5, 6, 7] (fun o _ i wr => ∃ k : Nat, k ≤ 10 ∧ i = .int .u8 (k : Int) ∧ o = .int .i64 (L k : Int) ∧ Mm no w wr [.box bp (bys f) 95]) (fun _ _ i _ => 10 - (intOf i).toNat)
  case atStart => exact ⟨0, by omega, rfl, by rw [H0.out]; rfl, M⟩
  case round =>
    obtain ⟨k, hk, rfl, rfl, M9⟩ := hrel
    clear M; (try clear C)
    have M := M9
    clear M9
    have C := M.ruleAll; simp only [Go.Proofs.YteonahoboligdaaDoor.ruleAll] at C
    have h1 := HL.out k
    have h1' : (L k : Int) < 1024 := by omega
    by_cases hlt : k < 10
    · have hlt' : (k : Int) < 10 := by omega
      have h2 := HF.out k
      have q1 := bys_get (f := f) (i := k) hlt
      have HK := Hid2.mk (HS.out k)
      have HO := Hid2.mk (bits_or1 h1 h2)
      have H1 := Hid2.mk (fun w1 => HH.out k hlt w1)
      generalize L k = c at *
      generalize f k = v at *
      have h2' : (v : Int) < 10 := by omega
      cases hb : s.testBit k with
      | false =>
        rw [hb] at H1 HK
        clear hb
        go_wp2_with (first | (go_at_call 62; ((with_reducible refine (H1.out _).mono ?_); rintro e w1 ⟨rfl, rfl⟩)))
        go_roundw
        case rel => exact ⟨k + 1, by omega, by go_num, by rw [HK.out]; rfl, M⟩
        case measure => simp [intOf]; omega
      | true =>
        rw [hb] at H1 HK
        clear hb
        go_wp2_with (first | (go_at_call 62; ((with_reducible refine (H1.out _).mono ?_); rintro e w1 ⟨rfl, rfl⟩)))
        go_roundw
        case rel => exact ⟨k + 1, by omega, by go_num, by rw [show L (k + 1) = c ||| 2 ^ v by simpa using HK.out]; first | rfl | exact congrArg (Value.int .i64) HO.out, M⟩
        case measure => simp [intOf]; omega
    · obtain rfl : k = 10 := by omega
      go_wp2
      go_ret
      exact ⟨rfl, M.below⟩
end Go.Proofs.YteonahoboligdaaDoor

/- The list of the inner maps and the normal closure: contracts of the program. -/
namespace Go.Proofs.YteonahoboligdaaDoor
set_option linter.unusedSimpArgs false
set_option linter.unusedVariables false
open Go Go.RowKit

theorem und_slI : Tryd.prog.underlying 93 = some (.slice 95) := by kernel_rfl
theorem inf_elI : (Tryd.prog.info? 95).map (fun i => (i.zero, i.size, i.bytes)) = some (some (.agg (bys fun _ => 0)), 10, 10) := by kernel_rfl
theorem bsl_in0 (w : World) : (Instr.buildSlice 93 0 [].toArray).run Tryd.prog w = .ok (.slice (some ⟨w.heap.size, 0, none⟩) 0 0) (w.alloc (.cells #[] 95)) := by kernel_rfl
theorem bsl_in1 (f : Nat → Nat) (w : World) : (Instr.buildSlice 93 1 [(0, Value.agg (bys f))].toArray).run Tryd.prog w = .ok (.slice (some ⟨w.heap.size, 0, none⟩) 1 1) (w.alloc (.cells (bys f) 95)) := by kernel_rfl
theorem bsl_in2 (f g : Nat → Nat) (w : World) : (Instr.buildSlice 93 2 [(0, Value.agg (bys f)), (1, Value.agg (bys g))].toArray).run Tryd.prog w = .ok (.slice (some ⟨w.heap.size, 0, none⟩) 2 2) (w.alloc (.cells (bys f ++ bys g) 95)) := by kernel_rfl
theorem flat_two (f g : Nat → Nat) : flat (bys f ++ bys g) := by
  intro v hv
  rw [Array.toList_append, List.mem_append] at hv
  rcases hv with h | h
  · exact flat_bys f v h
  · exact flat_bys g v h
theorem size_two (f g : Nat → Nat) : (bys f ++ bys g).size = 2 * 10 := by rw [Array.size_append, bys_size, bys_size]
theorem rowC_one (l : List (Nat → Nat)) (f : Nat → Nat) : rowC bys (l ++ [f]) = rowC bys l ++ (bys f).toList := by simp [rowC]
theorem rowC_two (l : List (Nat → Nat)) (f g : Nat → Nat) : rowC bys (l ++ [f, g]) = rowC bys l ++ (bys f ++ bys g).toList := by simp [rowC]
/-- What the list of the inner maps is. -/
def InPost (L : List (Nat → Nat)) (w : World) (e : Ending) (w' : World) : Prop :=
  ∃ g cap, e = .returned (.slice (some ⟨g, 0, none⟩) L.length cap) ∧ Below w.heap.size w w' ∧ w.heap.size ≤ g ∧ rds w' g (L.length * 10) fun j => (rowC bys L).getD j undef
theorem InPost.mk {L : List (Nat → Nat)} {w w' : World} {g cap : Nat} (h1 : Below w.heap.size w w') (h2 : w.heap.size ≤ g) (h3 : rds w' g (L.length * 10) fun j => (rowC bys L).getD j undef) : InPost L w (.returned (.slice (some ⟨g, 0, none⟩) L.length cap)) w' := ⟨g, cap, rfl, h1, h2, h3⟩

set_option maxRecDepth 100000 in
set_option maxHeartbeats 4000000 in
theorem inner_any (n : Nat) (t : Nat → Nat → Nat) (hs : IsSq (n : Int) t) (w : World) :
    Calls Tryd.prog 71 #[.agg (sqs (n : Int) t)] w (InPost (inL n t) w) := by
  have M := Mm.start no w
  have hn : n ≤ 10 := by have := hs.hi; omega
  have h1n : (1 : Int) ≤ n := hs.lo
  have hn' : (n : Int) ≤ 10 := by omega
  have HT := Hid2.mk (fun x (hx : x < n) w1 => turn_any n t hs x hx w1)
  have HL := Hid2.mk (fun x (hx : x < n) y (hy : y < n) w1 => leftInner_any n t hs x y hx hy w1)
  have HR := Hid2.mk (fun x (hx : x < n) y (hy : y < n) w1 => rightInner_any n t hs x y hx hy w1)
  have HS := Hid2.mk (show ∀ k, inTo n t (k + 1) = inTo n t k ++ inRow n t k n from fun _ => rfl)
  have HR0 := Hid2.mk (show ∀ k, inRow n t k 0 = [cutF n (tmI t k)] from fun _ => rfl)
  have HR1 := Hid2.mk (show ∀ k l, inRow n t k (l + 1) = inRow n t k l ++ [cutF n (lmI t k l), cutF n (rmI t k l)] from fun _ _ => rfl)
  have HRL := Hid2.mk (fun x l => inRow_len n t x l)
  have HTL := Hid2.mk (fun k => inTo_len hn t k)
  have HPOS := Hid2.mk (show 0 < (inL n t).length from List.length_pos_of_mem (inTo_in (inRow_in (n := n) (t := t) (x := 0) (l := n)).1 (by omega)))
  unfold inL at *
  have H0 := Hid2.mk (show inTo n t 0 = [] from rfl)
  generalize inTo n t = IT at *
  generalize inRow n t = IR at *
  clear hs
  go_enter Tryd.func71, Tryd.ntmps71
  go_wp2_with (first | ((with_reducible apply wpM_box' M 32 (sqs (n : Int) t)); rfl; exact ⟨rfl, rfl⟩; clear M; (try clear C); intro bq w9 h_bq M; have C := M.ruleAll; simp only [Go.Proofs.YteonahoboligdaaDoor.ruleAll] at C) | (((with_reducible apply wpM_bsl' M 93 0 95 ([]) (#[])); rfl; rfl; rfl; exact bsl_in0; clear M; (try clear C); intro bs w9 h_bs M; have C := M.ruleAll; simp only [Go.Proofs.YteonahoboligdaaDoor.ruleAll] at C); have M9 := M.asRow 0 rfl w.heap.size 0 10 h_bs rfl (Nat.zero_le _); simp only [List.set_cons_zero] at M9; clear M; (try clear C); have M := M9; clear M9; have C := M.ruleAll; simp only [Go.Proofs.YteonahoboligdaaDoor.ruleAll] at C) | ((with_reducible apply wpM_lda' M 1 32 0 (sqs (n : Int) t)); rfl; rfl; rfl; exact ⟨rfl, inf_sqs.trans (congrArg some (sqs_size ..).symm), _, und_sqs, rfl⟩; exact whole_of rfl) | (go_at_call 43; ((with_reducible refine (elements_any _ _ _ (by omega) (by omega)).mono ?_); rintro e w1 ⟨g1, cap_g1, rfl, hb, hg, hr⟩; have hsz := M.size; have M9 := M.gain hb (x := .rd g1 n (fun j => .int .u8 (j : Int))) hr (fun b h => by cases h; exact hg); clear M; (try clear C); have M := M9; clear M9; (try simp only [List.set_cons_zero, List.set_cons_succ] at M); have C := M.ruleAll; simp only [Go.Proofs.YteonahoboligdaaDoor.ruleAll] at C; clear hb hg hr)))
  go_loopw [3, 12, 5, 25, 7] (fun o i _ _ _ wr => ∃ (k : Nat) (pp : Option Addr) (cap : Nat), k ≤ n ∧ i = .int .i64 (k : Int) ∧ o = .slice pp (IT k).length cap ∧ Mm no w wr [.rd g1 n (fun j => .int .u8 (j : Int)), .row w.heap.size (.slice pp (IT k).length cap) (IT k).length (rowC bys (IT k)) 95 10, .box bq (sqs (n : Int) t) 32]) (fun _ i _ _ _ _ => n - (intOf i).toNat)
  case atStart => exact ⟨0, some ⟨bs, 0, none⟩, 0, by omega, rfl, by rw [H0.out]; rfl, M.eq (by rw [H0.out]; rfl)⟩
  case round =>
    obtain ⟨k, pp, cap, hk, rfl, rfl, M9⟩ := hrel
    clear M; (try clear C)
    have M := M9
    clear M9 H0
    have hlenk := HTL.out k
    by_cases hlt : k < n
    · have hlt' : (k : Int) < (n : Int) := by omega
      have hk10 : (k : Int) < 10 := by omega
      have dlt : decide ((k : Int) < (n : Int)) = true := decide_eq_true hlt'
      have HT1 := Hid2.mk (HT.out k hlt)
      have HL1 := Hid2.mk (HL.out k hlt)
      have HRR1 := Hid2.mk (HR.out k hlt)
      have HS1 := Hid2.mk (HS.out k)
      have HR01 := Hid2.mk (HR0.out k)
      have HR11 := Hid2.mk (HR1.out k)
      have HRL1 := Hid2.mk (HRL.out k)
      have hlen : (IT k).length ≤ 210 := by omega
      generalize IT k = L0 at *
      generalize IR k = R at *
      generalize cutF n (tmI t k) = f0 at *
      clear hlenk
      have C := M.ruleAll; simp only [Go.Proofs.YteonahoboligdaaDoor.ruleAll] at C
      go_wp2_with (first | ((with_reducible apply wpM_lda' M 2 32 0 (sqs (n : Int) t)); rfl; rfl; rfl; exact ⟨rfl, inf_sqs.trans (congrArg some (sqs_size ..).symm), _, und_sqs, rfl⟩; exact whole_of rfl) | ((with_reducible apply wpM_lda' M 3 32 0 (sqs (n : Int) t)); rfl; rfl; rfl; exact ⟨rfl, inf_sqs.trans (congrArg some (sqs_size ..).symm), _, und_sqs, rfl⟩; exact whole_of rfl) | (go_at_call 87; ((with_reducible refine (HT1.out _).mono ?_); rintro e w1 ⟨rfl, hb⟩; have hsz := M.size; (try (have G9 := G.later hb; clear G; have G := G9; clear G9)); have M9 := M.later hb; clear M; (try clear C); have M := M9; clear M9; have C := M.ruleAll; simp only [Go.Proofs.YteonahoboligdaaDoor.ruleAll] at C)) | ((with_reducible apply wpM_bsl' M 93 1 95 ([(0, .agg (bys f0))]) (bys f0)); rfl; rfl; rfl; exact bsl_in1 _; clear M; (try clear C); intro bx w9 h_bx M; have C := M.ruleAll; simp only [Go.Proofs.YteonahoboligdaaDoor.ruleAll] at C) | ((with_reducible apply wpM_app' M 93 2 0 (w.heap.size) (.slice pp L0.length cap) (L0.length) (rowC bys L0) 95 10 10); rfl; rfl; rfl; rfl; rfl; rfl; rfl; (first | exact .inl (Nat.le_refl _) | exact .inl (by assumption) | exact .inr (by assumption) | exact .inr HDv.out); (first | exact M.size | (have hq := M.size; omega)); exact und_slI; exact inf_elI; rfl; decide; decide; rfl; exact bys_size _; exact flat_bys _; omega; clear M; (try clear C); intro v2 w9 far_v2 M; simp only [List.set_cons_zero, List.set_cons_succ, entBlk, entT, List.getElem?_cons_zero, List.getElem?_cons_succ] at M; obtain ⟨pp_v2, cap_v2, rfl⟩ := own_form (M.row 2 rfl); have C := M.ruleAll; simp only [Go.Proofs.YteonahoboligdaaDoor.ruleAll] at C) | (go_at_call 43; ((with_reducible refine (elements_any _ _ _ (by omega) (by omega)).mono ?_); rintro e w2 ⟨g2, cap_g2, rfl, hb, hg, hr⟩; have hsz := M.size; have M9 := M.gain hb (x := .rd g2 n (fun j => .int .u8 (j : Int))) hr (fun b h => by cases h; exact hg); clear M; (try clear C); have M := M9; clear M9; (try simp only [List.set_cons_zero, List.set_cons_succ] at M); have C := M.ruleAll; simp only [Go.Proofs.YteonahoboligdaaDoor.ruleAll] at C; clear hb hg hr)))
      clear dlt
      go_loopw [3, 25, 7] (fun o i _ wr => ∃ (l : Nat) (pp : Option Addr) (cap : Nat), l ≤ n ∧ i = .int .i64 (l : Int) ∧ o = .slice pp (L0 ++ R l).length cap ∧ Mm no w wr [.rd g2 n (fun j => .int .u8 (j : Int)), .rd g1 n (fun j => .int .u8 (j : Int)), .row w.heap.size (.slice pp (L0 ++ R l).length cap) (L0 ++ R l).length (rowC bys (L0 ++ R l)) 95 10, .box bq (sqs (n : Int) t) 32]) (fun _ i _ _ => n - (intOf i).toNat)
      case atStart => exact ⟨0, pp_v2, cap_v2, by omega, rfl, by rw [HR01.out, List.length_append]; rfl, (M.sub [0, 2, 3, 4] (by decide)).eq (by rw [HR01.out, List.length_append, rowC_one]; rfl)⟩
      case round =>
        obtain ⟨l, pp, cap, hl, rfl, rfl, M9⟩ := hrel
        clear M; (try clear C)
        have M := M9
        clear M9
        have hlenl : (L0 ++ R l).length = L0.length + (1 + 2 * l) := by rw [List.length_append, HRL1.out]
        by_cases hlt2 : l < n
        · have hlt2' : (l : Int) < (n : Int) := by omega
          have hl10 : (l : Int) < 10 := by omega
          have HL2 := Hid2.mk (HL1.out l hlt2)
          have HR2 := Hid2.mk (HRR1.out l hlt2)
          have HN := Hid2.mk (show L0 ++ R (l + 1) = (L0 ++ R l) ++ [cutF n (lmI t k l), cutF n (rmI t k l)] by rw [HR11.out, List.append_assoc])
          have hlen2 : (L0 ++ R l).length ≤ 240 := by omega
          clear hlenl
          generalize L0 ++ R l = L1 at *
          generalize cutF n (lmI t k l) = f1 at *
          generalize cutF n (rmI t k l) = f2 at *
          have C := M.ruleAll; simp only [Go.Proofs.YteonahoboligdaaDoor.ruleAll] at C
          go_wp2
          apply wp_region_mmb M [0, 1, 2, 3, 4, 5, 6, 7, 8] 9 10 _ 93 2 95 ([(0, .agg (bys f1)), (1, .agg (bys f2))]) (bys f1 ++ bys f2) (by kernel_rfl) (by kernel_rfl) rfl rfl rfl; (case ht => repeat (first | exact wpTextG_nil | (apply wpTextG_cons; (intro g9 w2 hG; obtain ⟨Lg9, hSt9, G⟩ := hG; have M := G.suffix; have C := M.ruleAll; simp only [Go.Proofs.YteonahoboligdaaDoor.ruleAll] at C; go_wp2_with (first | ((with_reducible apply wpM_lda' M 3 32 0 (sqs (n : Int) t)); rfl; rfl; rfl; exact ⟨rfl, inf_sqs.trans (congrArg some (sqs_size ..).symm), _, und_sqs, rfl⟩; exact whole_of rfl) | (go_at_call 88; ((with_reducible refine (HL2.out _).mono ?_); rintro e w1 ⟨rfl, hb⟩; have hsz := M.size; (try (have G9 := G.later hb; clear G; have G := G9; clear G9)); have M9 := M.later hb; clear M; (try clear C); have M := M9; clear M9; have C := M.ruleAll; simp only [Go.Proofs.YteonahoboligdaaDoor.ruleAll] at C)) | (go_at_call 89; ((with_reducible refine (HR2.out _).mono ?_); rintro e w1 ⟨rfl, hb⟩; have hsz := M.size; (try (have G9 := G.later hb; clear G; have G := G9; clear G9)); have M9 := M.later hb; clear M; (try clear C); have M := M9; clear M9; have C := M.ruleAll; simp only [Go.Proofs.YteonahoboligdaaDoor.ruleAll] at C))); exact ⟨rfl, rfl, Lg9, hSt9, G⟩); rfl))); rfl; exact bsl_in2 _ _; (clear M; (try clear C); intro bx w2 h_bx M; simp only [List.drop_succ_cons, List.drop_zero]; have C := M.ruleAll; simp only [Go.Proofs.YteonahoboligdaaDoor.ruleAll] at C)
          ((with_reducible apply wpM_appb M 93 3 0 (w.heap.size) (.slice pp L1.length cap) (L1.length) (rowC bys L1) 95 10 10 (2)); rfl; rfl; rfl; rfl; rfl; rfl; rfl; (first | exact .inl (Nat.le_refl _) | exact .inl (by assumption) | exact .inr (by assumption)); (first | exact M.size | (have hq := M.size; omega)); exact und_slI; exact inf_elI; rfl; decide; rfl; exact size_two f1 f2; exact flat_two f1 f2; (show L1.length + 2 ≤ maxLen; simp only [maxLen]; omega); omega; clear M; (try clear C); intro v3 w9 far_v3 M; simp only [List.set_cons_zero, List.set_cons_succ, entBlk, entT, List.getElem?_cons_zero, List.getElem?_cons_succ] at M; obtain ⟨pp_v3, cap_v3, rfl⟩ := own_form (M.row 3 rfl); have C := M.ruleAll; simp only [Go.Proofs.YteonahoboligdaaDoor.ruleAll] at C)
          go_wp2
          go_roundw
          case rel => exact ⟨l + 1, pp_v3, cap_v3, by omega, by go_num, by rw [HN.out, List.length_append]; rfl, (M.drop 0).eq (by rw [HN.out, List.length_append, rowC_two]; rfl)⟩
          case measure => simp [intOf]; omega
        · obtain rfl : l = n := by omega
          have hge : ¬ ((l : Int) < (l : Int)) := by omega
          have HN := Hid2.mk HS1.out
          clear hlenl
          generalize L0 ++ R l = L1 at *
          have C := M.ruleAll; simp only [Go.Proofs.YteonahoboligdaaDoor.ruleAll] at C
          go_wp2
          go_roundw
          case rel => exact ⟨k + 1, pp, cap, by omega, by go_num, by rw [HN.out], (M.drop 0).eq (by rw [HN.out]; rfl)⟩
          case measure => simp [intOf]; omega
    · obtain rfl : k = n := by omega
      have hge : ¬ ((k : Int) < (k : Int)) := by omega
      obtain ⟨g, cc, e, hB, M9⟩ := M.rowRdS 1 rfl (by have := HPOS.out; omega)
      cases e
      simp only [List.set_cons_zero, List.set_cons_succ] at M9
      clear M; (try clear C)
      have M := M9
      clear M9 hlenk
      generalize IT k = L0 at *
      have C := M.ruleAll; simp only [Go.Proofs.YteonahoboligdaaDoor.ruleAll] at C
      go_wp2
      go_ret
      exact InPost.mk M.below hB (M.rd 1 rfl)

set_option maxRecDepth 100000 in
set_option maxHeartbeats 4000000 in
theorem closure_any (n : Nat) (t : Nat → Nat → Nat) (hl : Loo n t) (m : Nat) (hml : m < 1024) (hm : ∀ i, m.testBit i = true → i < n) (w : World) :
    Calls Tryd.prog 53 #[.agg (sqs (n : Int) t), .int .i64 (m : Int)] w fun e w' => e = .returned (.int .i64 (norM n t m : Nat)) ∧ Below w.heap.size w w' := by
  have M := Mm.start no w
  have hs := hl.sq
  have HIN := Hid2.mk (fun w1 => inner_any n t hs w1)
  have HG := Hid2.mk (fun s (B : BegN n t m s) w1 => generated_any n t hs s B.lt (B.bits hl hm) w1)
  have HB0 := Hid2.mk (BegN.start hl hm hml)
  have HV0 := Hid2.mk (fun s (B : BegN n t m s) => LedN.start hl hm B)
  have HST := Hid2.mk (fun s nx k f (V : LedN n t m s nx k) (hf : (inL n t)[k]? = some f) => V.step hl hm hf)
  have HD := Hid2.mk (fun s (B : BegN n t m s) (V : LedN n t m s s (inL n t).length) => V.done hl hm B)
  have HLT := Hid2.mk (fun f (hf : f ∈ inL n t) => inL_lt hl hf)
  have HMO := Hid2.mk (fun s nx k (B : BegN n t m s) (V : LedN n t m s nx k) (h : nx ≠ s) => V.more B h)
  have hml' : (m : Int) < 1024 := by omega
  have hlen : (inL n t).length ≤ 210 := by have := inTo_len (show n ≤ 10 by have := hs.hi; omega) t n; have := hs.hi; unfold inL; omega
  have HCE : Hid2 (∀ (k : Nat) f (_ : (inL n t)[k]? = some f) g w1, rds w1 g ((inL n t).length * 10) (fun j => (rowC bys (inL n t)).getD j undef) → ∀ j v, (bys f)[j]? = some v → w1.cell? ⟨g, k * 10 + j, none⟩ = some v) := ⟨fun k f hf g w1 h j v hv => by
    obtain ⟨h1, h2⟩ := List.getElem?_eq_some_iff.1 hf
    exact row_cells bys_size h h1 j v (by rw [h2]; exact hv)⟩
  have HGM := Hid2.mk (fun s => genM_lt t s)
  unfold InPost at HIN
  generalize norM n t m = res at *
  clear hs hl hm
  generalize inL n t = IL at *
  generalize hcells : rowC bys IL = cells at *
  clear hcells
  go_enter Tryd.func53, Tryd.ntmps53
  go_wp2_with (first | ((with_reducible apply wpM_box' M 32 (sqs (n : Int) t)); rfl; exact ⟨rfl, rfl⟩; clear M; (try clear C); intro bq w9 h_bq M; have C := M.ruleAll; simp only [Go.Proofs.YteonahoboligdaaDoor.ruleAll] at C) | ((with_reducible apply wpM_lda' M 0 32 0 (sqs (n : Int) t)); rfl; rfl; rfl; exact ⟨rfl, inf_sqs.trans (congrArg some (sqs_size ..).symm), _, und_sqs, rfl⟩; exact whole_of rfl) | (go_at_call 71; fail))
  refine (HIN.out _).mono ?_
  rintro e w1 ⟨g, cap, rfl, hb, hg, hr⟩
  have hsz := M.size
  have M9 := M.gain hb (x := .rd g (IL.length * 10) fun j => cells.getD j undef) hr (fun b h => by cases h; exact hg)
  clear M; (try clear C)
  have M := M9
  clear M9 hb hr HIN
  have C := M.ruleAll; simp only [Go.Proofs.YteonahoboligdaaDoor.ruleAll] at C
  go_wp2
  go_loopw [1, 6, 8, 16] (fun s _ _ _ wr => ∃ s' : Nat, s = .int .i64 (s' : Int) ∧ Hid2 (BegN n t m s') ∧ Mm no w wr [.rd g (IL.length * 10) (fun j => cells.getD j undef), .box bq (sqs (n : Int) t) 32]) (fun s _ _ _ _ => 1024 - (intOf s).toNat)
  case atStart => exact ⟨m, rfl, HB0, M⟩
  case round =>
    clear HB0
    obtain ⟨s, rfl, HB, M9⟩ := hrel
    clear M; (try clear C)
    have M := M9
    clear M9
    have C := M.ruleAll; simp only [Go.Proofs.YteonahoboligdaaDoor.ruleAll] at C
    have hs10 := HB.out.lt
    have hs10' : (s : Int) < 1024 := by omega
    have HG1 := Hid2.mk (HG.out s HB.out)
    have HV := Hid2.mk (HV0.out s HB.out)
    have hg0 := HGM.out s
    generalize genM t s = g0 at *
    go_wp2_with (first | ((with_reducible apply wpM_lda' M 1 32 0 (sqs (n : Int) t)); rfl; rfl; rfl; exact ⟨rfl, inf_sqs.trans (congrArg some (sqs_size ..).symm), _, und_sqs, rfl⟩; exact whole_of rfl) | (go_at_call 42; ((with_reducible refine (HG1.out _).mono ?_); rintro e w1 ⟨rfl, hb⟩; have hsz := M.size; (try (have G9 := G.later hb; clear G; have G := G9; clear G9)); have M9 := M.later hb; clear M; (try clear C); have M := M9; clear M9; have C := M.ruleAll; simp only [Go.Proofs.YteonahoboligdaaDoor.ruleAll] at C)))
    go_loopw [6, 8, 16] (fun nx _ i wr => ∃ (nx' k : Nat), k ≤ IL.length ∧ nx = .int .i64 (nx' : Int) ∧ i = .int .i64 (k : Int) ∧ Hid2 (LedN n t m s nx' k) ∧ Mm no w wr [.rd g (IL.length * 10) (fun j => cells.getD j undef), .box bq (sqs (n : Int) t) 32]) (fun _ _ i _ => IL.length - (intOf i).toNat)
    case atStart => exact ⟨g0, 0, by omega, rfl, rfl, HV, M⟩
    case round =>
      clear HV hg0
      obtain ⟨nx, k, hk, rfl, rfl, HV, M9⟩ := hrel
      clear M; (try clear C)
      have M := M9
      clear M9
      have C := M.ruleAll; simp only [Go.Proofs.YteonahoboligdaaDoor.ruleAll] at C
      have hx10 := HV.out.lt
      have hx10' : (nx : Int) < 1024 := by omega
      by_cases hlt : k < IL.length
      · have hlt' : (k : Int) < (IL.length : Int) := by omega
        have e1 := List.getElem?_eq_getElem hlt
        have hf10 := HLT.out _ (List.getElem_mem hlt)
        have HC1 := Hid2.mk (HCE.out k _ e1)
        have HN := Hid2.mk (HST.out s nx k _ HV.out e1)
        generalize IL[k] = f at *
        have hld := ldTo_lt hf10 nx 10
        have HLD := Hid2.mk (fun w1 => led_any f hf10 nx hx10 w1)
        have HOR := Hid2.mk (bits_or_i64_nat nx (ldTo f nx 10) (by omega) (by omega))
        generalize ldTo f nx 10 = d at *
        have hld' : (d : Int) < 1024 := by omega
        clear hf10 e1
        have hz := zero_plc
        go_wp2_with (first | (refine wpList_load_part rfl 95 _ rfl (g) (k * 10) rfl (bys f) _ und_plc rfl inf_plc (HC1.out g _ (by first | exact M.rd 0 rfl | exact M.rd 1 rfl)) ?_) | ((with_reducible apply wpM_alloc' M 95 (bys fun _ => 0)); rfl; exact ⟨rfl, _, zero_plc _, rfl⟩; clear M; (try clear C); intro bp w9 h_bp M; have C := M.ruleAll; simp only [Go.Proofs.YteonahoboligdaaDoor.ruleAll] at C) | ((with_reducible apply wpM_sta' M 0 95 (bys f)); rfl; rfl; rfl; rfl; (first | exact .inl (by assumption) | exact .inr rfl | exact .inr (by assumption)); exact ⟨rfl, inf_plc.trans (congrArg some (bys_size ..).symm), flat_bys _⟩; (simp only [entCells, List.getElem?_cons_zero, List.getElem?_cons_succ, bys_size, bys_size]); clear M; (try clear C); intro w9 M; simp only [List.set_cons_zero, List.set_cons_succ, entBlk, entT, List.getElem?_cons_zero, List.getElem?_cons_succ] at M; have C := M.ruleAll; simp only [Go.Proofs.YteonahoboligdaaDoor.ruleAll] at C) | ((with_reducible apply wpM_lda' M 0 95 0 (bys f)); rfl; rfl; rfl; exact ⟨rfl, inf_plc.trans (congrArg some (bys_size ..).symm), _, und_plc, rfl⟩; exact whole_of rfl) | (go_at_call 72; ((with_reducible refine (HLD.out _).mono ?_); rintro e w1 ⟨rfl, hb⟩; have hsz := M.size; (try (have G9 := G.later hb; clear G; have G := G9; clear G9)); have M9 := M.later hb; clear M; (try clear C); have M := M9; clear M9; have C := M.ruleAll; simp only [Go.Proofs.YteonahoboligdaaDoor.ruleAll] at C)))
        go_roundw
        case rel => exact ⟨nx ||| d, k + 1, by omega, by first | rfl | exact congrArg (Value.int .i64) HOR.out, by go_num, HN, M.drop 0⟩
        case measure => simp [intOf]; omega
      · obtain rfl : k = IL.length := by omega
        have hge : ¬ ((IL.length : Int) < (IL.length : Int)) := by omega
        by_cases e : nx = s
        · subst e
          have HE := Hid2.mk (HD.out nx HB.out HV.out)
          have hd : ((nx : Int) == (nx : Int)) = true := by simp
          go_wp2
          go_ret
          exact ⟨by rw [← HE.out]; rfl, M.below⟩
        · have hd : ((nx : Int) == (s : Int)) = false := neqI e
          have HE := Hid2.mk (HMO.out s nx _ HB.out HV.out e)
          have hlt2 := HE.out.2
          go_wp2
          go_roundw
          case rel => exact ⟨nx, rfl, ⟨HE.out.1⟩, M⟩
          case measure => simp [intOf]; omega

set_option maxRecDepth 100000 in
set_option maxHeartbeats 1000000 in
theorem isNormal_any (n : Nat) (t : Nat → Nat → Nat) (hl : Loo n t) (m : Nat) (hml : m < 1024) (hm : ∀ i, m.testBit i = true → i < n) (w : World) :
    Calls Tryd.prog 30 #[.agg (sqs (n : Int) t), .int .i64 (m : Int)] w fun e w' => e = .returned (.bool (norM n t m == m)) ∧ Below w.heap.size w w' := by
  have M := Mm.start no w
  have H1 := Hid2.mk (fun w1 => closure_any n t hl m hml hm w1)
  have h1 := norM_lt n t m
  have hr : ((norM n t m : Int) == (m : Int)) = (norM n t m == m) := by rw [Bool.eq_iff_iff]; simp; omega
  generalize norM n t m = r at *
  have hml' : (m : Int) < 1024 := by omega
  have h1' : (r : Int) < 1024 := by omega
  clear hl hm
  generalize hc : (r == m) = c at *
  clear hc
  go_enter Tryd.func30, Tryd.ntmps30
  go_wp2_with (first | ((with_reducible apply wpM_box' M 32 (sqs (n : Int) t)); rfl; exact ⟨rfl, rfl⟩; clear M; (try clear C); intro bq w9 h_bq M; have C := M.ruleAll; simp only [Go.Proofs.YteonahoboligdaaDoor.ruleAll] at C) | ((with_reducible apply wpM_lda' M 0 32 0 (sqs (n : Int) t)); rfl; rfl; rfl; exact ⟨rfl, inf_sqs.trans (congrArg some (sqs_size ..).symm), _, und_sqs, rfl⟩; exact whole_of rfl) | (go_at_call 53; ((with_reducible refine (H1.out _).mono ?_); rintro e w1 ⟨rfl, hb⟩; have hsz := M.size; (try (have G9 := G.later hb; clear G; have G := G9; clear G9)); have M9 := M.later hb; clear M; (try clear C); have M := M9; clear M9; have C := M.ruleAll; simp only [Go.Proofs.YteonahoboligdaaDoor.ruleAll] at C)))
  go_ret
  exact ⟨rfl, M.below⟩
end Go.Proofs.YteonahoboligdaaDoor

