/- The law on the name of a loop: its walk. -/
import Derived.Test.YtjdfjlgjpjgnhaaC46
import Derived.Test.YtjdfjlgjpjgnhaaK15
namespace Go.Proofs.Ytjdfjlgjpjgnhaa
set_option linter.unusedSimpArgs false
set_option linter.unusedVariables false
open Go Go.RowKit

set_option maxRecDepth 100000 in
set_option maxHeartbeats 1000000 in
theorem eqPlacesN_any (f : Nat → Nat) (w : World) : Calls Try.prog 27 #[.agg (bys f), .agg (bys f)] w fun e w' => e = .returned (.bool true) ∧ Below w.heap.size w w' := by
  have M := Mm.start no w
  go_enter Try.func27, Try.ntmps27
  go_wp2_with (first | (have hq := h_bf; clear hq; ((with_reducible apply wpM_box' M 33 (bys f)); rfl; exact ⟨rfl, rfl⟩; clear M; (try clear C); intro bg w9 h_bg M; have C := M.ruleAll; simp only [Go.Proofs.Ytjdfjlgjpjgnhaa.ruleAll] at C)) | ((with_reducible apply wpM_box' M 33 (bys f)); rfl; exact ⟨rfl, rfl⟩; clear M; (try clear C); intro bf w9 h_bf M; have C := M.ruleAll; simp only [Go.Proofs.Ytjdfjlgjpjgnhaa.ruleAll] at C))
  go_loopw [5] (fun i wr => ∃ k : Nat, k ≤ 10 ∧ i = .int .i64 (k : Int) ∧ Mm no w wr [.box bg (bys f) 33, .box bf (bys f) 33]) (fun i _ => 10 - (intOf i).toNat)
  case atStart => exact ⟨0, by omega, rfl, M⟩
  case round =>
    obtain ⟨k, hk, rfl, M9⟩ := hrel
    clear M; (try clear C)
    have M := M9
    clear M9
    have C := M.ruleAll; simp only [Go.Proofs.Ytjdfjlgjpjgnhaa.ruleAll] at C
    by_cases hlt : k < 10
    · have hlt' : (k : Int) < 10 := by omega
      have c1 := bys_get (f := f) hlt
      have he' : ((f k : Int) == (f k : Int)) = true := by simp
      go_wp2
      apply wp_region_mm M 6 (by kernel_rfl) (by kernel_rfl); (simp only [List.take_succ_cons, List.take_zero]; repeat (first | exact wpText_nil | (apply wpText_cons; (intro w2 M; have C := M.ruleAll; simp only [Go.Proofs.Ytjdfjlgjpjgnhaa.ruleAll] at C; go_wp2; exact ⟨rfl, rfl, M⟩); rfl))); (clear M; (try clear C); intro w2 M; simp only [List.drop_succ_cons, List.drop_zero]; have C := M.ruleAll; simp only [Go.Proofs.Ytjdfjlgjpjgnhaa.ruleAll] at C)
      go_wp2
      go_roundw
      case rel => exact ⟨k + 1, by omega, by go_num, M⟩
      case measure => simp [intOf]; omega
    · obtain rfl : k = 10 := by omega
      go_wp2
      go_ret
      exact ⟨rfl, M.below⟩

/-- A new variable, a name, the variable written. -/
def StN (w0 : World) (x : ByteArray) (f : Nat → Nat) : List Value → List Ent → Prop
  | [], Lg => Lg = []
  | [v], Lg => ∃ b, v = .pointer (some ⟨b, 0, none⟩) ∧ w0.heap.size ≤ b ∧ Lg = [.box b (bys fun _ => 0) 33]
  | [v, u], Lg => (∃ b, v = .pointer (some ⟨b, 0, none⟩) ∧ w0.heap.size ≤ b ∧ Lg = [.box b (bys fun _ => 0) 33]) ∧ u = .string x
  | v :: u :: _ :: _, Lg => (∃ b, v = .pointer (some ⟨b, 0, none⟩) ∧ w0.heap.size ≤ b ∧ Lg = [.box b (bys f) 33]) ∧ u = .string x

set_option maxRecDepth 100000 in
set_option maxHeartbeats 4000000 in
theorem lawNameOf_any (ns : List ByteArray) (ls : List Sqr) (q : Sqr) (hq : Byt2 q.t) (hn : ns.length ≤ maxLen) (hm : ls.length ≤ maxLen) (hs : ∀ x ∈ ns, x.size ≤ maxLen) (hby : ∀ q ∈ ls, Byt2 q.t) (w : World) (p1 p2 : Option Addr) (c1 c2 : Nat)
    (hr1 : rdp w p1 ns.length (nmF ns)) (hr2 : rdp w p2 (ls.length * 101) (fun j => (slC ls).getD j undef)) :
    Calls Try.prog 6 #[.agg (bkV p1 c1 p2 c2 ns.length ls.length), .agg (sqs q.n q.t)] w fun e w' => e = .returned (.bool true) ∧ Below w.heap.size w w' := by
  have M := Mm.start no w
  have HS := fun w1 (hb : Below w.heap.size w w1) => szBook_any ns hn hs ls.length hm w1 p1 p2 c1 c2 1048576 (by omega) (by omega) (hr1.later hb)
  have R1 := Hid2.mk (fun w1 (hb : Below w.heap.size w w1) => hr1.later hb)
  have R2 := Hid2.mk (fun w1 (hb : Below w.heap.size w w1) => hr2.later hb)
  have HBY := Hid2.mk hby
  clear hr1 hr2 hs hby
  go_enter Try.func6, Try.ntmps6
  go_wp2_with (first | ((with_reducible apply wpM_box' M 42 (bkV p1 c1 p2 c2 ns.length ls.length)); rfl; exact ⟨rfl, rfl⟩; clear M; (try clear C); intro bb w9 h_bb M; have C := M.ruleAll; simp only [Go.Proofs.Ytjdfjlgjpjgnhaa.ruleAll] at C) | ((with_reducible apply wpM_box' M 25 (sqs q.n q.t)); rfl; exact ⟨rfl, rfl⟩; clear M; (try clear C); intro bq w9 h_bq M; have C := M.ruleAll; simp only [Go.Proofs.Ytjdfjlgjpjgnhaa.ruleAll] at C) | ((with_reducible apply wpM_lda' M 1 42 0 (bkV p1 c1 p2 c2 ns.length ls.length)); rfl; rfl; rfl; exact ⟨rfl, inf_bk0.trans (congrArg some (bkv_size ..).symm), _, und_bk0, rfl⟩; exact whole_of rfl) | (go_at_call 20; fail))
  refine (HS _ M.below).mono ?_
  rintro e w1 ⟨r, rfl, hr, hb⟩
  have M9 := M.later hb
  clear M; (try clear C)
  have M := M9
  clear M9 hb
  have C := M.ruleAll; simp only [Go.Proofs.Ytjdfjlgjpjgnhaa.ruleAll] at C
  clear HS
  by_cases hneg : r < 0
  · go_wp2
    go_ret
    exact ⟨rfl, M.below⟩
  · obtain ⟨_, q1, q2, q3⟩ := hr (by omega)
    have HB : BkIn ns ls := ⟨by omega, by omega, fun x hx => by have := q2 x hx; omega, HBY.out⟩
    clear hr q2
    have HT := fun w1 (hb : Below w.heap.size w w1) => toBook_any ns ls HB.n HB.m w1 p1 p2 c1 c2 (R1.out w1 hb) (R2.out w1 hb)
    have HS := Hid2.mk (fun w1 g1 g2 (h : BkHere ns ls w1 g1 g2) => specNameOf_any HB q hq w1 h ns.length ls.length)
    have HP := Hid2.mk (fun w1 g1 g2 (h : BkHere ns ls w1 g1 g2) => implNameOf_any HB q hq w1 h ns.length ls.length (Nat.le_refl _))
    have HE := Hid2.mk (fun w1 g1 g2 g3 g4 (h : BkHere ns ls w1 g1 g2) (h' : BkHere ns ls w1 g3 g4) => eqBookA_any HB w1 h h' ns.length ls.length ns.length ls.length)
    have HQ := fun w1 => toSquare_any q.n q.t w1
    generalize nameOfR ns ls q = nr at HS HP
    obtain ⟨x, f, d⟩ := nr
    have HF := fun w1 => eqPlacesN_any f w1
    have hdd : (d == d) = true := by simp
    have hxx : (x.toList == x.toList) = true := by simp
    have hz := zero_plc
    clear C
    go_wp2
    refine wp_region_own (FlS (fun k => match k with | 0 => some (.agg (bkV p1 c1 p2 c2 ns.length ls.length)) | 2 => some (.agg (sqs q.n q.t)) | 3 => some (.agg (sqs q.n q.t)) | 4 => some (.tuple #[.string x, .agg (bys f), .int .i64 d]) | 5 => some (.tuple #[.string x, .agg (bys f), .int .i64 d]) | 6 => some (.string x) | 7 => some (.agg (bys f)) | 8 => some (.int .i64 d) | 10 => some (.string x) | 12 => some (.int .i64 d) | _ => none) ns ls 1 9 11 (bys fun _ => 0) (bys f) 33 w [.box bq (sqs q.n q.t) 25, .box bb (bkV p1 c1 p2 c2 ns.length ls.length) 42]) (by kernel_rfl) (by kernel_rfl) (fun _ => undef) (FlS.start M _) ?hstep ?hQ
    case hstep =>
      clear M
      intro i o hi D g w2 hi0 hpre S
      have hlt : i < 13 := by have := (List.getElem?_eq_some_iff.1 hi).1; simpa using this
      obtain rfl | rfl | rfl | rfl | rfl | rfl | rfl | rfl | rfl | rfl | rfl | rfl | rfl : i = 0 ∨ i = 1 ∨ i = 2 ∨ i = 3 ∨ i = 4 ∨ i = 5 ∨ i = 6 ∨ i = 7 ∨ i = 8 ∨ i = 9 ∨ i = 10 ∨ i = 11 ∨ i = 12 := by omega
      · simp only [List.getElem?_cons_succ, List.getElem?_cons_zero, Option.some.injEq] at hi
        subst hi
        refine ⟨⟨#[undef, undef, .pointer (some ⟨bb, 0, none⟩), undef, undef, undef, undef, undef, undef, undef, undef, undef, undef, undef, undef, undef, undef, undef, undef, undef, undef, undef, undef, undef, undef, undef, undef, undef, undef, undef, undef, undef, undef, undef, undef, undef, undef, undef, undef, undef, undef, undef, undef, undef, undef, undef, undef, undef, undef, undef, undef, undef, undef, undef, undef, undef, undef, undef, undef, undef], []⟩, ?_, ?_⟩
        · intro t ht
          have ht' : t ∈ ([2] : List Nat) := ht
          simp only [List.mem_cons, List.not_mem_nil, or_false] at ht'
          subst ht'
          exact rfl
        · have M := S.base
          have C := M.ruleAll; simp only [Go.Proofs.Ytjdfjlgjpjgnhaa.ruleAll] at C
          refine yield_walk (ops := #[]) rfl rfl (show 19 < 60 by decide) ?_
          go_wp2_with (first | ((with_reducible apply wpM_lda' M 1 42 0 (bkV p1 c1 p2 c2 ns.length ls.length)); rfl; rfl; rfl; exact ⟨rfl, inf_bk0.trans (congrArg some (bkv_size ..).symm), _, und_bk0, rfl⟩; exact whole_of rfl))
          exact S.det (i := 0) (fun v h => Option.some.inj h) (by decide) (by decide) (by decide) (Below.refl _ _)
      · simp only [List.getElem?_cons_succ, List.getElem?_cons_zero, Option.some.injEq] at hi
        subst hi
        have d0 : D 0 = true := hpre ⟨0, .data⟩ (by simp) rfl
        have e0 : g 0 = .agg (bkV p1 c1 p2 c2 ns.length ls.length) := S.fc 0 _ rfl d0
        refine ⟨⟨#[undef, undef, undef, undef, undef, undef, undef, undef, undef, undef, undef, undef, undef, undef, undef, undef, undef, undef, undef, .agg (bkV p1 c1 p2 c2 ns.length ls.length), undef, undef, undef, undef, undef, undef, undef, undef, undef, undef, undef, undef, undef, undef, undef, undef, undef, undef, undef, undef, undef, undef, undef, undef, undef, undef, undef, undef, undef, undef, undef, undef, undef, undef, undef, undef, undef, undef, undef, undef], []⟩, ?_, ?_⟩
        · intro t ht
          have ht' : t ∈ ([19] : List Nat) := ht
          simp only [List.mem_cons, List.not_mem_nil, or_false] at ht'
          subst ht'
          exact e0.symm
        · have M := S.base
          have C := M.ruleAll; simp only [Go.Proofs.Ytjdfjlgjpjgnhaa.ruleAll] at C
          refine yield_walk (ops := #[]) rfl rfl (show 20 < 60 by decide) ?_
          go_wp2_with (first | (go_at_call 22; fail))
          refine (HT _ M.below).mono ?_
          rintro e w1 ⟨g1, g2, cs1, cs2, rfl, hg1, hg2, hs1, hs2, M'⟩
          go_wp2
          exact S.book hi0 rfl (by decide) (by decide) hg1 hg2 hs1 hs2 M'
      · simp only [List.getElem?_cons_succ, List.getElem?_cons_zero, Option.some.injEq] at hi
        subst hi
        refine ⟨⟨#[undef, undef, undef, .pointer (some ⟨bq, 0, none⟩), undef, undef, undef, undef, undef, undef, undef, undef, undef, undef, undef, undef, undef, undef, undef, undef, undef, undef, undef, undef, undef, undef, undef, undef, undef, undef, undef, undef, undef, undef, undef, undef, undef, undef, undef, undef, undef, undef, undef, undef, undef, undef, undef, undef, undef, undef, undef, undef, undef, undef, undef, undef, undef, undef, undef, undef], []⟩, ?_, ?_⟩
        · intro t ht
          have ht' : t ∈ ([3] : List Nat) := ht
          simp only [List.mem_cons, List.not_mem_nil, or_false] at ht'
          subst ht'
          exact rfl
        · have M := S.base
          have C := M.ruleAll; simp only [Go.Proofs.Ytjdfjlgjpjgnhaa.ruleAll] at C
          refine yield_walk (ops := #[]) rfl rfl (show 21 < 60 by decide) ?_
          go_wp2_with (first | ((with_reducible apply wpM_lda' M 0 25 0 (sqs q.n q.t)); rfl; rfl; rfl; exact ⟨rfl, inf_sq0.trans (congrArg some (sqs_size ..).symm), _, und_sq0, rfl⟩; exact whole_of rfl))
          exact S.det (i := 2) (fun v h => Option.some.inj h) (by decide) (by decide) (by decide) (Below.refl _ _)
      · simp only [List.getElem?_cons_succ, List.getElem?_cons_zero, Option.some.injEq] at hi
        subst hi
        have d2 : D 2 = true := hpre ⟨2, .data⟩ (by simp) rfl
        have e2 : g 2 = .agg (sqs q.n q.t) := S.fc 2 _ rfl d2
        refine ⟨⟨#[undef, undef, undef, undef, undef, undef, undef, undef, undef, undef, undef, undef, undef, undef, undef, undef, undef, undef, undef, undef, undef, .agg (sqs q.n q.t), undef, undef, undef, undef, undef, undef, undef, undef, undef, undef, undef, undef, undef, undef, undef, undef, undef, undef, undef, undef, undef, undef, undef, undef, undef, undef, undef, undef, undef, undef, undef, undef, undef, undef, undef, undef, undef, undef], []⟩, ?_, ?_⟩
        · intro t ht
          have ht' : t ∈ ([21] : List Nat) := ht
          simp only [List.mem_cons, List.not_mem_nil, or_false] at ht'
          subst ht'
          exact e2.symm
        · have M := S.base
          have C := M.ruleAll; simp only [Go.Proofs.Ytjdfjlgjpjgnhaa.ruleAll] at C
          refine yield_walk (ops := #[]) rfl rfl (show 22 < 60 by decide) ?_
          go_wp2_with (first | (go_at_call 15; fail))
          refine (HQ _).mono ?_
          rintro e w1 ⟨rfl, hb⟩
          go_wp2
          exact S.det (i := 3) (fun v h => Option.some.inj h) (by decide) (by decide) (by decide) hb
      · simp only [List.getElem?_cons_succ, List.getElem?_cons_zero, Option.some.injEq] at hi
        subst hi
        have d1 : D 1 = true := hpre ⟨1, .data⟩ (by simp) rfl
        have d3 : D 3 = true := hpre ⟨3, .data⟩ (by simp) rfl
        have e3 : g 3 = .agg (sqs q.n q.t) := S.fc 3 _ rfl d3
        obtain ⟨g1, g2, e1, HH⟩ := S.here d1
        refine ⟨⟨#[undef, undef, undef, undef, undef, undef, undef, undef, undef, undef, undef, undef, undef, undef, undef, undef, undef, undef, undef, undef, .agg (bkA g1 ns.length g2 ls.length ns.length ls.length), undef, .agg (sqs q.n q.t), undef, undef, undef, undef, undef, undef, undef, undef, undef, undef, undef, undef, undef, undef, undef, undef, undef, undef, undef, undef, undef, undef, undef, undef, undef, undef, undef, undef, undef, undef, undef, undef, undef, undef, undef, undef, undef], []⟩, ?_, ?_⟩
        · intro t ht
          have ht' : t ∈ ([20, 22] : List Nat) := ht
          simp only [List.mem_cons, List.not_mem_nil, or_false] at ht'
          rcases ht' with rfl | rfl
          · exact e1.symm
          · exact e3.symm
        · have M := S.base
          have C := M.ruleAll; simp only [Go.Proofs.Ytjdfjlgjpjgnhaa.ruleAll] at C
          refine yield_walk (ops := #[]) rfl rfl (show 23 < 60 by decide) ?_
          go_wp2_with (first | (go_at_call 25; fail))
          refine (HS.out _ _ _ HH).mono ?_
          rintro e w1 ⟨rfl, hb⟩
          go_wp2
          exact S.det (i := 4) (fun v h => Option.some.inj h) (by decide) (by decide) (by decide) hb
      · simp only [List.getElem?_cons_succ, List.getElem?_cons_zero, Option.some.injEq] at hi
        subst hi
        have d4 : D 4 = true := hpre ⟨4, .data⟩ (by simp) rfl
        have e4 : g 4 = .tuple #[.string x, .agg (bys f), .int .i64 d] := S.fc 4 _ rfl d4
        refine ⟨⟨#[undef, undef, undef, undef, undef, undef, undef, undef, undef, undef, undef, undef, undef, undef, undef, undef, undef, undef, undef, undef, undef, undef, undef, .tuple #[.string x, .agg (bys f), .int .i64 d], undef, undef, undef, undef, undef, undef, undef, undef, undef, undef, undef, undef, undef, undef, undef, undef, undef, undef, undef, undef, undef, undef, undef, undef, undef, undef, undef, undef, undef, undef, undef, undef, undef, undef, undef, undef], []⟩, ?_, ?_⟩
        · intro t ht
          have ht' : t ∈ ([23] : List Nat) := ht
          simp only [List.mem_cons, List.not_mem_nil, or_false] at ht'
          subst ht'
          exact e4.symm
        · have M := S.base
          have C := M.ruleAll; simp only [Go.Proofs.Ytjdfjlgjpjgnhaa.ruleAll] at C
          refine yield_walk (ops := #[]) rfl rfl (show 18 < 60 by decide) ?_
          go_wp2
          exact S.det (i := 5) (fun v h => Option.some.inj h) (by decide) (by decide) (by decide) (Below.refl _ _)
      · simp only [List.getElem?_cons_succ, List.getElem?_cons_zero, Option.some.injEq] at hi
        subst hi
        have d5 : D 5 = true := hpre ⟨5, .data⟩ (by simp) rfl
        have e5 : g 5 = .tuple #[.string x, .agg (bys f), .int .i64 d] := S.fc 5 _ rfl d5
        refine ⟨⟨#[undef, undef, undef, undef, undef, undef, undef, undef, undef, undef, undef, undef, undef, undef, undef, undef, undef, undef, .tuple #[.string x, .agg (bys f), .int .i64 d], undef, undef, undef, undef, undef, undef, undef, undef, undef, undef, undef, undef, undef, undef, undef, undef, undef, undef, undef, undef, undef, undef, undef, undef, undef, undef, undef, undef, undef, undef, undef, undef, undef, undef, undef, undef, undef, undef, undef, undef, undef], []⟩, ?_, ?_⟩
        · intro t ht
          have ht' : t ∈ ([18] : List Nat) := ht
          simp only [List.mem_cons, List.not_mem_nil, or_false] at ht'
          subst ht'
          exact e5.symm
        · have M := S.base
          have C := M.ruleAll; simp only [Go.Proofs.Ytjdfjlgjpjgnhaa.ruleAll] at C
          refine yield_walk (ops := #[]) rfl rfl (show 24 < 60 by decide) ?_
          go_wp2
          exact S.det (i := 6) (fun v h => Option.some.inj h) (by decide) (by decide) (by decide) (Below.refl _ _)
      · simp only [List.getElem?_cons_succ, List.getElem?_cons_zero, Option.some.injEq] at hi
        subst hi
        have d5 : D 5 = true := hpre ⟨5, .data⟩ (by simp) rfl
        have e5 : g 5 = .tuple #[.string x, .agg (bys f), .int .i64 d] := S.fc 5 _ rfl d5
        refine ⟨⟨#[undef, undef, undef, undef, undef, undef, undef, undef, undef, undef, undef, undef, undef, undef, undef, undef, undef, undef, .tuple #[.string x, .agg (bys f), .int .i64 d], undef, undef, undef, undef, undef, undef, undef, undef, undef, undef, undef, undef, undef, undef, undef, undef, undef, undef, undef, undef, undef, undef, undef, undef, undef, undef, undef, undef, undef, undef, undef, undef, undef, undef, undef, undef, undef, undef, undef, undef, undef], []⟩, ?_, ?_⟩
        · intro t ht
          have ht' : t ∈ ([18] : List Nat) := ht
          simp only [List.mem_cons, List.not_mem_nil, or_false] at ht'
          subst ht'
          exact e5.symm
        · have M := S.base
          have C := M.ruleAll; simp only [Go.Proofs.Ytjdfjlgjpjgnhaa.ruleAll] at C
          refine yield_walk (ops := #[]) rfl rfl (show 25 < 60 by decide) ?_
          go_wp2
          exact S.det (i := 7) (fun v h => Option.some.inj h) (by decide) (by decide) (by decide) (Below.refl _ _)
      · simp only [List.getElem?_cons_succ, List.getElem?_cons_zero, Option.some.injEq] at hi
        subst hi
        have d5 : D 5 = true := hpre ⟨5, .data⟩ (by simp) rfl
        have e5 : g 5 = .tuple #[.string x, .agg (bys f), .int .i64 d] := S.fc 5 _ rfl d5
        refine ⟨⟨#[undef, undef, undef, undef, undef, undef, undef, undef, undef, undef, undef, undef, undef, undef, undef, undef, undef, undef, .tuple #[.string x, .agg (bys f), .int .i64 d], undef, undef, undef, undef, undef, undef, undef, undef, undef, undef, undef, undef, undef, undef, undef, undef, undef, undef, undef, undef, undef, undef, undef, undef, undef, undef, undef, undef, undef, undef, undef, undef, undef, undef, undef, undef, undef, undef, undef, undef, undef], []⟩, ?_, ?_⟩
        · intro t ht
          have ht' : t ∈ ([18] : List Nat) := ht
          simp only [List.mem_cons, List.not_mem_nil, or_false] at ht'
          subst ht'
          exact e5.symm
        · have M := S.base
          have C := M.ruleAll; simp only [Go.Proofs.Ytjdfjlgjpjgnhaa.ruleAll] at C
          refine yield_walk (ops := #[]) rfl rfl (show 26 < 60 by decide) ?_
          go_wp2
          exact S.det (i := 8) (fun v h => Option.some.inj h) (by decide) (by decide) (by decide) (Below.refl _ _)
      · simp only [List.getElem?_cons_succ, List.getElem?_cons_zero, Option.some.injEq] at hi
        subst hi
        refine ⟨⟨#[undef, undef, undef, undef, undef, undef, undef, undef, undef, undef, undef, undef, undef, undef, undef, undef, undef, undef, undef, undef, undef, undef, undef, undef, undef, undef, undef, undef, undef, undef, undef, undef, undef, undef, undef, undef, undef, undef, undef, undef, undef, undef, undef, undef, undef, undef, undef, undef, undef, undef, undef, undef, undef, undef, undef, undef, undef, undef, undef, undef], []⟩, ?_, ?_⟩
        · intro t ht
          have ht' : t ∈ ([] : List Nat) := ht
          cases ht'
        · refine yield_walk (ops := #[]) rfl rfl (show 7 < 60 by decide) ?_
          go_wp2
          exact S.new hi0 rfl (by decide) (by decide)
      · simp only [List.getElem?_cons_succ, List.getElem?_cons_zero, Option.some.injEq] at hi
        subst hi
        have d6 : D 6 = true := hpre ⟨6, .data⟩ (by simp) rfl
        have e6 : g 6 = .string x := S.fc 6 _ rfl d6
        refine ⟨⟨#[undef, undef, undef, undef, undef, undef, undef, undef, undef, undef, undef, undef, undef, undef, undef, undef, undef, undef, undef, undef, undef, undef, undef, undef, .string x, undef, undef, undef, undef, undef, undef, undef, undef, undef, undef, undef, undef, undef, undef, undef, undef, undef, undef, undef, undef, undef, undef, undef, undef, undef, undef, undef, undef, undef, undef, undef, undef, undef, undef, undef], []⟩, ?_, ?_⟩
        · intro t ht
          have ht' : t ∈ ([24] : List Nat) := ht
          simp only [List.mem_cons, List.not_mem_nil, or_false] at ht'
          subst ht'
          exact e6.symm
        · have M := S.base
          have C := M.ruleAll; simp only [Go.Proofs.Ytjdfjlgjpjgnhaa.ruleAll] at C
          refine yield_walk (ops := #[]) rfl rfl (show 6 < 60 by decide) ?_
          go_wp2
          exact S.det (i := 10) (fun v h => Option.some.inj h) (by decide) (by decide) (by decide) (Below.refl _ _)
      · simp only [List.getElem?_cons_succ, List.getElem?_cons_zero, Option.some.injEq] at hi
        subst hi
        have d9 : D 9 = true := hpre ⟨9, .data⟩ (by simp) rfl
        have d7 : D 7 = true := hpre ⟨7, .data⟩ (by simp) rfl
        have e7 : g 7 = .agg (bys f) := S.fc 7 _ rfl d7
        have d1 : D 1 = true := hpre ⟨1, .phase⟩ (by simp) rfl
        obtain ⟨g1, g2, cs1, cs2, b, e1, hs1, hs2, e9, hb9, M⟩ := S.ahead d1 d9 hi0
        refine ⟨⟨#[undef, undef, undef, undef, undef, undef, undef, .pointer (some ⟨b, 0, none⟩), undef, undef, undef, undef, undef, undef, undef, undef, undef, undef, undef, undef, undef, undef, undef, undef, undef, .agg (bys f), undef, undef, undef, undef, undef, undef, undef, undef, undef, undef, undef, undef, undef, undef, undef, undef, undef, undef, undef, undef, undef, undef, undef, undef, undef, undef, undef, undef, undef, undef, undef, undef, undef, undef], []⟩, ?_, ?_⟩
        · intro t ht
          have ht' : t ∈ ([7, 25] : List Nat) := ht
          simp only [List.mem_cons, List.not_mem_nil, or_false] at ht'
          rcases ht' with rfl | rfl
          · exact e9.symm
          · exact e7.symm
        · have C := M.ruleAll; simp only [Go.Proofs.Ytjdfjlgjpjgnhaa.ruleAll] at C
          refine yield_store (ops := #[]) (by exact rfl) (by exact rfl) ?_
          go_wp2_with (first | ((with_reducible apply wpM_sta' M 2 33 (bys f)); rfl; rfl; rfl; rfl; (first | exact .inl (by assumption) | exact .inr rfl | exact .inr (by assumption)); exact ⟨rfl, inf_plc.trans (congrArg some (bys_size ..).symm), flat_bys _⟩; (simp only [entCells, List.getElem?_cons_zero, List.getElem?_cons_succ, bys_size, bys_size]); clear M; (try clear C); intro w9 M; simp only [List.set_cons_zero, List.set_cons_succ, entBlk, entT, List.getElem?_cons_zero, List.getElem?_cons_succ] at M; have C := M.ruleAll; simp only [Go.Proofs.Ytjdfjlgjpjgnhaa.ruleAll] at C))
          exact S.put d1 d9 rfl (by decide) (by decide) e1 hs1 hs2 e9 hb9 M
      · simp only [List.getElem?_cons_succ, List.getElem?_cons_zero, Option.some.injEq] at hi
        subst hi
        have d8 : D 8 = true := hpre ⟨8, .data⟩ (by simp) rfl
        have e8 : g 8 = .int .i64 d := S.fc 8 _ rfl d8
        refine ⟨⟨#[undef, undef, undef, undef, undef, undef, undef, undef, undef, undef, undef, undef, undef, undef, undef, undef, undef, undef, undef, undef, undef, undef, undef, undef, undef, undef, .int .i64 d, undef, undef, undef, undef, undef, undef, undef, undef, undef, undef, undef, undef, undef, undef, undef, undef, undef, undef, undef, undef, undef, undef, undef, undef, undef, undef, undef, undef, undef, undef, undef, undef, undef], []⟩, ?_, ?_⟩
        · intro t ht
          have ht' : t ∈ ([26] : List Nat) := ht
          simp only [List.mem_cons, List.not_mem_nil, or_false] at ht'
          subst ht'
          exact e8.symm
        · have M := S.base
          have C := M.ruleAll; simp only [Go.Proofs.Ytjdfjlgjpjgnhaa.ruleAll] at C
          refine yield_walk (ops := #[]) rfl rfl (show 8 < 60 by decide) ?_
          go_wp2
          exact S.det (i := 12) (fun v h => Option.some.inj h) (by decide) (by decide) (by decide) (Below.refl _ _)
    case hQ =>
      clear M
      intro D g w2 hall S
      obtain ⟨g1, g2, cs1, cs2, b7, e1, hs1, hs2, e9, hb7, M⟩ := S.done (hall 1 (by decide)) (hall 9 (by decide)) (hall 11 (by decide))
      have e0 : g 0 = .agg (bkV p1 c1 p2 c2 ns.length ls.length) := S.fc 0 _ rfl (hall 0 (by decide))
      have e2 : g 2 = .agg (sqs q.n q.t) := S.fc 2 _ rfl (hall 2 (by decide))
      have e3 : g 3 = .agg (sqs q.n q.t) := S.fc 3 _ rfl (hall 3 (by decide))
      have e4 : g 4 = .tuple #[.string x, .agg (bys f), .int .i64 d] := S.fc 4 _ rfl (hall 4 (by decide))
      have e5 : g 5 = .tuple #[.string x, .agg (bys f), .int .i64 d] := S.fc 5 _ rfl (hall 5 (by decide))
      have e6 : g 6 = .string x := S.fc 6 _ rfl (hall 6 (by decide))
      have e7 : g 7 = .agg (bys f) := S.fc 7 _ rfl (hall 7 (by decide))
      have e8 : g 8 = .int .i64 d := S.fc 8 _ rfl (hall 8 (by decide))
      have e10 : g 10 = .string x := S.fc 10 _ rfl (hall 10 (by decide))
      have e12 : g 12 = .int .i64 d := S.fc 12 _ rfl (hall 12 (by decide))
      simp only [fullAct, e1, e9, e0, e2, e3, e4, e5, e6, e7, e8, e10, e12, Act.put, List.setIfInBounds_toArray, List.set_cons_succ, List.set_cons_zero]
      clear S hall
      have C := M.ruleAll; simp only [Go.Proofs.Ytjdfjlgjpjgnhaa.ruleAll] at C
      go_wp2_with (first | ((with_reducible apply wpM_lda' M 4 42 0 (bkV p1 c1 p2 c2 ns.length ls.length)); rfl; rfl; rfl; exact ⟨rfl, inf_bk0.trans (congrArg some (bkv_size ..).symm), _, und_bk0, rfl⟩; exact whole_of rfl) | (go_at_call 22; fail))
      refine (HT _ M.below).mono ?_
      rintro e w1 ⟨g3, g4, cs3, cs4, rfl, hg3, hg4, hs3, hs4, M'⟩
      have M9 := M.join2 M' (new_box2 hg3 hg4)
      clear M; (try clear C)
      have M := M9
      clear M9 M'
      have C := M.ruleAll; simp only [Go.Proofs.Ytjdfjlgjpjgnhaa.ruleAll] at C
      go_wp2_with (first | ((with_reducible apply wpM_alloc' M 47 (bkZ)); rfl; exact ⟨rfl, _, zero_bok _, rfl⟩; clear M; (try clear C); intro b9 w9 h_b9 M; have C := M.ruleAll; simp only [Go.Proofs.Ytjdfjlgjpjgnhaa.ruleAll] at C) | ((with_reducible apply wpM_sta' M 0 47 (bkA g3 ns.length g4 ls.length ns.length ls.length)); rfl; rfl; rfl; rfl; (first | exact .inl (by assumption) | exact .inr rfl | exact .inr (by assumption)); exact ⟨rfl, inf_bok.trans (congrArg some (bok_size ..).symm), flat_bok _ _ _ _ _ _⟩; (simp only [entCells, List.getElem?_cons_zero, List.getElem?_cons_succ, bok_size, bkz_size]); clear M; (try clear C); intro w9 M; simp only [List.set_cons_zero, List.set_cons_succ, entBlk, entT, List.getElem?_cons_zero, List.getElem?_cons_succ] at M; have C := M.ruleAll; simp only [Go.Proofs.Ytjdfjlgjpjgnhaa.ruleAll] at C))
      apply wp_region_mmf3 M [0, 1, 2, 3, 4, 5, 6, 7] 8 9 10 11 _ _ _ (StN w x f) (by kernel_rfl) (by kernel_rfl) rfl rfl rfl rfl rfl rfl rfl
      case ht => (repeat (first | exact wpTextG_nil | (apply wpTextG_cons; (intro g9 w2 hG; obtain ⟨Lg9, hSt9, G⟩ := hG; have M := G.suffix; have C := M.ruleAll; simp only [Go.Proofs.Ytjdfjlgjpjgnhaa.ruleAll] at C; go_wp2_with (first | ((with_reducible apply wpM_lda' M 0 47 0 (bkA g3 ns.length g4 ls.length ns.length ls.length)); rfl; rfl; rfl; exact ⟨rfl, inf_bok.trans (congrArg some (bok_size ..).symm), _, und_bok, rfl⟩; exact whole_of rfl) | ((with_reducible apply wpM_lda' M 6 25 0 (sqs q.n q.t)); rfl; rfl; rfl; exact ⟨rfl, inf_sq0.trans (congrArg some (sqs_size ..).symm), _, und_sq0, rfl⟩; exact whole_of rfl) | (go_at_call 15; ((with_reducible refine (HQ _).mono ?_); rintro e w1 ⟨rfl, hb⟩; have hsz := M.size; (try (have G9 := G.later hb; clear G; have G := G9; clear G9)); have M9 := M.later hb; clear M; (try clear C); have M := M9; clear M9; have C := M.ruleAll; simp only [Go.Proofs.Ytjdfjlgjpjgnhaa.ruleAll] at C)) | (go_at_call 26; ((with_reducible refine (HP.out _ _ _ (BkHere.of M 1 2 (by decide) rfl rfl hs3 hs4)).mono ?_); rintro e w1 ⟨rfl, hb⟩; have hsz := M.size; (try (have G9 := G.later hb; clear G; have G := G9; clear G9)); have M9 := M.later hb; clear M; (try clear C); have M := M9; clear M9; have C := M.ruleAll; simp only [Go.Proofs.Ytjdfjlgjpjgnhaa.ruleAll] at C))); exact ⟨rfl, rfl, Lg9, hSt9, G⟩); rfl)))
      case hA =>
        intro Lg w2 h M
        obtain rfl : Lg = [] := h
        simp only [List.nil_append] at M
        refine yield_walk (ops := #[]) rfl rfl (by simp [Act.put]) ?_
        go_wp2_with (first | ((with_reducible apply wpM_alloc' M 33 (bys fun _ => 0)); rfl; exact ⟨rfl, _, zero_plc _, rfl⟩; clear M; (try clear C); intro b11 w9 h_b11 M; have C := M.ruleAll; simp only [Go.Proofs.Ytjdfjlgjpjgnhaa.ruleAll] at C))
        exact ⟨[_], ⟨b11, rfl, by assumption, rfl⟩, M⟩
      case hA2 =>
        intro v Lg w2 h M
        obtain ⟨b11, rfl, hb11, rfl⟩ := h
        refine yield_walk (ops := #[]) rfl rfl (by simp [Act.put]) ?_
        go_wp2
        exact ⟨_, ⟨⟨b11, rfl, hb11, rfl⟩, rfl⟩, M⟩
      case hA3 =>
        intro v u Lg w2 h M
        obtain ⟨⟨b11, rfl, hb11, rfl⟩, rfl⟩ := h
        refine yield_store (ops := #[]) (by exact rfl) (by exact rfl) ?_
        simp only [List.cons_append, List.nil_append] at M
        have C := M.ruleAll; simp only [Go.Proofs.Ytjdfjlgjpjgnhaa.ruleAll] at C
        go_wp2_with (first | ((with_reducible apply wpM_sta' M 0 33 (bys f)); rfl; rfl; rfl; rfl; (first | exact .inl (by assumption) | exact .inr rfl | exact .inr (by assumption)); exact ⟨rfl, inf_plc.trans (congrArg some (bys_size ..).symm), flat_bys _⟩; (simp only [entCells, List.getElem?_cons_zero, List.getElem?_cons_succ, bys_size, bys_size]); clear M; (try clear C); intro w9 M; simp only [List.set_cons_zero, List.set_cons_succ, entBlk, entT, List.getElem?_cons_zero, List.getElem?_cons_succ] at M; have C := M.ruleAll; simp only [Go.Proofs.Ytjdfjlgjpjgnhaa.ruleAll] at C))
        exact ⟨[_], ⟨⟨b11, rfl, hb11, rfl⟩, rfl⟩, M⟩
      clear M; (try clear C)
      intro v u y Lg w2 h M
      obtain ⟨⟨b11, rfl, hb11, rfl⟩, rfl⟩ := h
      simp only [List.drop_succ_cons, List.drop_zero, List.cons_append, List.nil_append] at M ⊢
      have C := M.ruleAll; simp only [Go.Proofs.Ytjdfjlgjpjgnhaa.ruleAll] at C
      go_wp2_with (first | ((with_reducible apply wpM_lda' M 0 33 0 (bys f)); rfl; rfl; rfl; exact ⟨rfl, inf_plc.trans (congrArg some (bys_size ..).symm), _, und_plc, rfl⟩; exact whole_of rfl) | ((with_reducible apply wpM_lda' M 6 33 0 (bys f)); rfl; rfl; rfl; exact ⟨rfl, inf_plc.trans (congrArg some (bys_size ..).symm), _, und_plc, rfl⟩; exact whole_of rfl) | (go_at_call 27; ((with_reducible refine (HF _).mono ?_); rintro e w1 ⟨rfl, hb⟩; have hsz := M.size; (try (have G9 := G.later hb; clear G; have G := G9; clear G9)); have M9 := M.later hb; clear M; (try clear C); have M := M9; clear M9; have C := M.ruleAll; simp only [Go.Proofs.Ytjdfjlgjpjgnhaa.ruleAll] at C)))
      apply wp_region_mmf1 M [0, 1] 2 3 _ (StBk ns ls) (by kernel_rfl) (by kernel_rfl) rfl rfl rfl
      case ht => (repeat (first | exact wpTextG_nil | (apply wpTextG_cons; (intro g9 w2 hG; obtain ⟨Lg9, hSt9, G⟩ := hG; have M := G.suffix; have C := M.ruleAll; simp only [Go.Proofs.Ytjdfjlgjpjgnhaa.ruleAll] at C; go_wp2_with (first | ((with_reducible apply wpM_lda' M 1 47 0 (bkA g3 ns.length g4 ls.length ns.length ls.length)); rfl; rfl; rfl; exact ⟨rfl, inf_bok.trans (congrArg some (bok_size ..).symm), _, und_bok, rfl⟩; exact whole_of rfl) | ((with_reducible apply wpM_lda' M 8 42 0 (bkV p1 c1 p2 c2 ns.length ls.length)); rfl; rfl; rfl; exact ⟨rfl, inf_bk0.trans (congrArg some (bkv_size ..).symm), _, und_bk0, rfl⟩; exact whole_of rfl)); exact ⟨rfl, rfl, Lg9, hSt9, G⟩); rfl)))
      case hA =>
        intro Lg w2 h M
        obtain rfl : Lg = [] := h
        refine yield_walk (ops := #[]) rfl rfl (by simp [Act.put]) ?_
        simp only [List.nil_append] at M
        go_wp2_with (first | (go_at_call 22; fail))
        refine (HT _ M.below).mono ?_
        rintro e w1 ⟨g5, g6, cs5, cs6, rfl, hg5, hg6, hs5, hs6, M'⟩
        have M9 := M.join2 M' (new_box2 hg5 hg6)
        go_wp2
        exact ⟨_, ⟨g5, g6, cs5, cs6, rfl, hs5, hs6, rfl⟩, M9⟩
      clear M; (try clear C)
      intro v Lg w2 h M
      obtain ⟨g5, g6, cs5, cs6, rfl, hs5, hs6, rfl⟩ := h
      simp only [List.drop_succ_cons, List.drop_zero, List.cons_append, List.nil_append] at M ⊢
      go_wp2_with (first | (go_at_call 24; ((with_reducible refine (HE.out _ _ _ _ _ (BkHere.of M 4 5 (by decide) rfl rfl hs3 hs4) (BkHere.of M 0 1 (by decide) rfl rfl hs5 hs6)).mono ?_); rintro e w1 ⟨rfl, hb⟩; have hsz := M.size; (try (have G9 := G.later hb; clear G; have G := G9; clear G9)); have M9 := M.later hb; clear M; (try clear C); have M := M9; clear M9; have C := M.ruleAll; simp only [Go.Proofs.Ytjdfjlgjpjgnhaa.ruleAll] at C)))
      go_ret
      exact ⟨rfl, M.below⟩
end Go.Proofs.Ytjdfjlgjpjgnhaa
