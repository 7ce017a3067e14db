/- Valid desks: contracts, and the law's walk. -/
import Derived.Test.YtjdfjlgjpjgnhaaC49
namespace Go.Proofs.Ytjdfjlgjpjgnhaa
set_option linter.unusedSimpArgs false
set_option linter.unusedVariables false
open Go Go.RowKit

theorem rdq_nat {w : World} {g n : Nat} {f : Nat → Value} (h : rds w g n f) : rdq w (some ⟨g, 0, none⟩) n f := h.rdq
/-- What is known of a desk in new memory. -/
structure DkHere (xs : List Int) (ns : List ByteArray) (ls : List Sqr) (w : World) (gs g1 g2 : Nat) : Prop where
  set : rds w gs xs.length (intF xs)
  book : BkHere ns ls w g1 g2
theorem DkHere.later {xs : List Int} {ns : List ByteArray} {ls : List Sqr} {w w' : World} {gs g1 g2 : Nat} (h : DkHere xs ns ls w gs g1 g2) (hb : Below w.heap.size w w') : DkHere xs ns ls w' gs g1 g2 := ⟨h.set.later hb, h.book.later hb⟩
theorem DkHere.of {D : Nat → Prop} {w0 w : World} {L : List Ent} (M : Mm D w0 w L) (a i j : Nat) (hij : i ≠ j) {xs : List Int} {ns : List ByteArray} {ls : List Sqr} {gs g1 g2 : Nat} {cs cs1 cs2 : Array Value} (h0 : L[a]? = some (.box gs cs 2)) (h1 : L[i]? = some (.box g1 cs1 9)) (h2 : L[j]? = some (.box g2 cs2 30))
    (hs : intC xs cs) (hs1 : strC ns cs1) (hs2 : sqaC ls cs2) : DkHere xs ns ls w gs g1 g2 := ⟨(M.box a h0).rds hs.2, BkHere.of M i j hij h1 h2 hs1 hs2⟩
/-- A desk in new memory. -/
def DeskNew (q r : Sqr) (xs : List Int) (ns : List ByteArray) (ls : List Sqr) (w : World) (e : Ending) (w' : World) : Prop :=
  ∃ gs g1 g2 cs cs1 cs2, e = .returned (.agg (dskC q r (some ⟨gs, 0, none⟩) xs.length xs.length (some ⟨g1, 0, none⟩) ns.length ns.length (some ⟨g2, 0, none⟩) ls.length ls.length)) ∧ w.heap.size ≤ gs ∧ w.heap.size ≤ g1 ∧ w.heap.size ≤ g2 ∧ intC xs cs ∧ strC ns cs1 ∧ sqaC ls cs2 ∧ Mm no w w' [.box gs cs 2, .box g1 cs1 9, .box g2 cs2 30]
theorem Mm.join3 {D : Nat → Prop} {w0 w w' : World} {L : List Ent} {x y z : Ent} (M : Mm D w0 w L) (M' : Mm no w w' [x, y, z]) (hn : ∀ u ∈ [x, y, z], ∀ b, u.place b → w.heap.size ≤ b) : Mm D w0 w' (x :: y :: z :: L) := M.join M' hn
theorem new_box3 {B g t g' t' g'' t'' : Nat} {cs cs' cs'' : Array Value} (h : B ≤ g) (h' : B ≤ g') (h'' : B ≤ g'') : ∀ x ∈ [Ent.box g cs t, Ent.box g' cs' t', Ent.box g'' cs'' t''], ∀ b, x.place b → B ≤ b := fun x hx b hb => by
  simp only [List.mem_cons, List.not_mem_nil, or_false] at hx
  rcases hx with rfl | rfl | rfl <;> cases hb <;> assumption
/-- Whether a desk is valid. -/
noncomputable def deskB (q r : Sqr) (xs : List Int) (ns : List ByteArray) (ls : List Sqr) : Bool := isSq q.n q.t && isSq r.n r.t && setB q.n xs && isBk ns ls

set_option maxRecDepth 100000 in
set_option maxHeartbeats 1000000 in
theorem szDesk_any (q r : Sqr) (k : Nat) (hk : k ≤ 9223372036854775807) (ns : List ByteArray) (hn : ns.length ≤ 9223372036854775807) (hs : ∀ x ∈ ns, x.size ≤ 9223372036854775807) (m : Nat) (hm : m ≤ 9223372036854775807) (w : World) (p0 p1 p2 : Option Addr) (c0 c1 c2 : Nat) (hr : rdp w p1 ns.length (nmF ns)) :
    Calls Try.prog 40 #[.agg (dskC q r p0 k c0 p1 ns.length c1 p2 m c2), .int .i64 1048576] w fun e w' => ∃ z : Int, e = .returned (.int .i64 z) ∧ (0 ≤ z → (k : Int) ≤ 1048576 ∧ (ns.length : Int) ≤ 1048576 ∧ (∀ x ∈ ns, (x.size : Int) ≤ 1048576) ∧ (m : Int) ≤ 1048576) ∧ Below w.heap.size w w' := by
  have M := Mm.start no w
  have k2 := dsk_p2 q r p0 k c0 p1 ns.length c1 p2 m c2
  have H1 := fun w1 => szInt64S_any k hk w1 p0 c0 1048576 (by omega) (by omega)
  have H2 := fun w1 (z : Int) (g0 : 0 ≤ z) (g1 : z ≤ 1048576) (hb : Below w.heap.size w w1) => szBook_any ns hn hs m hm w1 p1 p2 c1 c2 z g0 g1 (hr.later hb)
  clear hr hs
  go_enter Try.func40, Try.ntmps40
  go_wp2_with (first | ((with_reducible apply wpM_box' M 71 (dskC q r p0 k c0 p1 ns.length c1 p2 m c2)); rfl; exact ⟨rfl, rfl⟩; clear M; (try clear C); intro bb w9 h_bb M; have C := M.ruleAll; simp only [Go.Proofs.Ytjdfjlgjpjgnhaa.ruleAll] at C) | (go_at_call 85; fail))
  refine (H1 _).mono ?_
  rintro e w1 ⟨z, rfl, hz, hb⟩
  have M9 := M.later hb
  clear M; (try clear C)
  have M := M9
  clear M9
  have C := M.ruleAll; simp only [Go.Proofs.Ytjdfjlgjpjgnhaa.ruleAll] at C
  by_cases hneg : z < 0
  · go_wp2
    go_ret
    exact ⟨-1, rfl, fun h => by omega, M.below⟩
  · obtain ⟨q1, q2⟩ := hz (by omega)
    go_wp2_with (first | ((with_reducible apply wpM_lda' M 0 42 (203) (bkV p1 c1 p2 c2 ns.length m)); rfl; rfl; rfl; exact ⟨rfl, inf_bk0.trans (congrArg some (bkv_size ..).symm), _, und_bk0, rfl⟩; exact dsk_p3 _ _ _ _ _ _ _ _ _ _ _) | (go_at_call 20; fail))
    refine (H2 _ _ (by omega) q1 M.below).mono ?_
    rintro e w1 ⟨z2, rfl, hz2, hb⟩
    have M9 := M.later hb
    clear M; (try clear C)
    have M := M9
    clear M9
    by_cases hneg2 : z2 < 0
    · go_wp2
      go_ret
      exact ⟨-1, rfl, fun h => by omega, M.below⟩
    · obtain ⟨_, q5, q6, q7⟩ := hz2 (by omega)
      have Q6 := Hid2.mk q6
      clear hz2 q6
      go_wp2
      go_ret
      exact ⟨z2, rfl, fun _ => ⟨q2, by omega, fun x hx => by have := Q6.out x hx; omega, by omega⟩, M.below⟩

set_option maxRecDepth 100000 in
set_option maxHeartbeats 2000000 in
theorem toDesk_any (q r : Sqr) (xs : List Int) (ns : List ByteArray) (ls : List Sqr) (hk : xs.length ≤ 1048576) (hn : ns.length ≤ 1048576) (hm : ls.length ≤ 1048576) (w : World) (p0 p1 p2 : Option Addr) (c0 c1 c2 : Nat)
    (hr0 : rdp w p0 xs.length (intF xs)) (hr1 : rdp w p1 ns.length (nmF ns)) (hr2 : rdp w p2 (ls.length * 101) (fun j => (slC ls).getD j undef)) :
    Calls Try.prog 42 #[.agg (dskC q r p0 xs.length c0 p1 ns.length c1 p2 ls.length c2)] w (DeskNew q r xs ns ls w) := by
  have M := Mm.start no w
  have k2 := dsk_p2 q r p0 xs.length c0 p1 ns.length c1 p2 ls.length c2
  have HQ := fun (q : Sqr) w1 => toSquare_any q.n q.t w1
  have H0 := fun w1 (hb : Below w.heap.size w w1) => toInt64S_any xs hk w1 p0 c0 (hr0.later hb)
  have H1 := fun w1 (hb : Below w.heap.size w w1) => toBook_any ns ls hn hm w1 p1 p2 c1 c2 (hr1.later hb) (hr2.later hb)
  have hz := zero_dsk
  clear hr0 hr1 hr2
  go_enter Try.func42, Try.ntmps42
  go_wp2_with (first | ((with_reducible apply wpM_box' M 71 (dskC q r p0 xs.length c0 p1 ns.length c1 p2 ls.length c2)); rfl; exact ⟨rfl, rfl⟩; clear M; (try clear C); intro bb w9 h_bb M; have C := M.ruleAll; simp only [Go.Proofs.Ytjdfjlgjpjgnhaa.ruleAll] at C) | (have hq := h_b2; clear hq; ((with_reducible apply wpM_alloc' M 75 (dskC sq00 sq00 none 0 0 none 0 0 none 0 0)); rfl; exact ⟨rfl, _, zero_dsk _, rfl⟩; clear M; (try clear C); intro b3 w9 h_b3 M; have C := M.ruleAll; simp only [Go.Proofs.Ytjdfjlgjpjgnhaa.ruleAll] at C)) | ((with_reducible apply wpM_alloc' M 75 (dskC sq00 sq00 none 0 0 none 0 0 none 0 0)); rfl; exact ⟨rfl, _, zero_dsk _, rfl⟩; clear M; (try clear C); intro b2 w9 h_b2 M; have C := M.ruleAll; simp only [Go.Proofs.Ytjdfjlgjpjgnhaa.ruleAll] at C) | ((with_reducible apply wpM_lda' M 2 25 (0) (sqs q.n q.t)); rfl; rfl; rfl; exact ⟨rfl, inf_sq0.trans (congrArg some (sqs_size ..).symm), _, und_sq0, rfl⟩; exact dsk_p0 _ _ _ _ _ _ _ _ _ _ _) | (go_at_call 15; fail))
  refine (HQ q _).mono ?_
  rintro e w1 ⟨rfl, hb⟩
  have M9 := M.later hb
  clear M; (try clear C)
  have M := M9
  clear M9 hb
  have C := M.ruleAll; simp only [Go.Proofs.Ytjdfjlgjpjgnhaa.ruleAll] at C
  go_wp2_with (first | ((with_reducible apply wpM_stp' M 0 30 (0) (sqs q.n q.t) (dskC q sq00 none 0 0 none 0 0 none 0 0)); rfl; rfl; rfl; rfl; (first | exact .inl (by assumption) | exact .inr rfl | exact .inr (by assumption)); exact ⟨rfl, inf_sqs.trans (congrArg some (sqs_size ..).symm), flat_sqs _ _⟩; (simp only [entCells, List.getElem?_cons_zero, sqs_size, dsk_size]; omega); exact dsk_set0 ..; clear M; (try clear C); intro w9 M; simp only [List.set_cons_zero, List.set_cons_succ, entBlk, entT, List.getElem?_cons_zero, List.getElem?_cons_succ] at M; have C := M.ruleAll; simp only [Go.Proofs.Ytjdfjlgjpjgnhaa.ruleAll] at C) | ((with_reducible apply wpM_lda' M 2 25 (101) (sqs r.n r.t)); rfl; rfl; rfl; exact ⟨rfl, inf_sq0.trans (congrArg some (sqs_size ..).symm), _, und_sq0, rfl⟩; exact dsk_p1 _ _ _ _ _ _ _ _ _ _ _) | (go_at_call 15; fail))
  refine (HQ r _).mono ?_
  rintro e w1 ⟨rfl, hb⟩
  have M9 := M.later hb
  clear M; (try clear C)
  have M := M9
  clear M9 hb
  have C := M.ruleAll; simp only [Go.Proofs.Ytjdfjlgjpjgnhaa.ruleAll] at C
  go_wp2_with (first | ((with_reducible apply wpM_stp' M 0 30 (101) (sqs r.n r.t) (dskC q r none 0 0 none 0 0 none 0 0)); rfl; rfl; rfl; rfl; (first | exact .inl (by assumption) | exact .inr rfl | exact .inr (by assumption)); exact ⟨rfl, inf_sqs.trans (congrArg some (sqs_size ..).symm), flat_sqs _ _⟩; (simp only [entCells, List.getElem?_cons_zero, sqs_size, dsk_size]; omega); exact dsk_set1 ..; clear M; (try clear C); intro w9 M; simp only [List.set_cons_zero, List.set_cons_succ, entBlk, entT, List.getElem?_cons_zero, List.getElem?_cons_succ] at M; have C := M.ruleAll; simp only [Go.Proofs.Ytjdfjlgjpjgnhaa.ruleAll] at C) | (go_at_call 88; fail))
  refine (H0 _ M.below).mono ?_
  rintro e w1 ⟨gs, rfl, hgs, cs, hs, M'⟩
  have M9 := M.join1 M' (new_box hgs)
  have hgs9 : w.heap.size ≤ gs := by have := M.size; omega
  clear M; (try clear C)
  have M := M9
  clear M9 M'
  have C := M.ruleAll; simp only [Go.Proofs.Ytjdfjlgjpjgnhaa.ruleAll] at C
  go_wp2_with (first | ((with_reducible apply wpM_st' M 1 69 (202) (dskC q r (some ⟨gs, 0, none⟩) xs.length xs.length none 0 0 none 0 0)); rfl; rfl; rfl; (first | exact .inl (by assumption) | exact .inr rfl | exact .inr (by assumption)); exact ⟨rfl, rfl, by kernel_rfl⟩; (exact Nat.lt_of_lt_of_eq (by omega) (dsk_size q r none 0 0 none 0 0 none 0 0).symm); exact dsk_set2 ..; clear M; (try clear C); intro w9 M; simp only [List.set_cons_zero, List.set_cons_succ, entBlk, entT, List.getElem?_cons_zero, List.getElem?_cons_succ] at M; have C := M.ruleAll; simp only [Go.Proofs.Ytjdfjlgjpjgnhaa.ruleAll] at C) | ((with_reducible apply wpM_lda' M 3 42 (203) (bkV p1 c1 p2 c2 ns.length ls.length)); rfl; rfl; rfl; exact ⟨rfl, inf_bk0.trans (congrArg some (bkv_size ..).symm), _, und_bk0, rfl⟩; exact dsk_p3 _ _ _ _ _ _ _ _ _ _ _) | (go_at_call 22; fail))
  refine (H1 _ M.below).mono ?_
  rintro e w1 ⟨g1, g2, cs1, cs2, rfl, hg1, hg2, hs1, hs2, M'⟩
  have M9 := M.join2 M' (new_box2 hg1 hg2)
  have hg19 : w.heap.size ≤ g1 ∧ w.heap.size ≤ g2 := by have := M.size; omega
  clear M; (try clear C)
  have M := M9
  clear M9 M'
  have C := M.ruleAll; simp only [Go.Proofs.Ytjdfjlgjpjgnhaa.ruleAll] at C
  go_wp2_with (first | ((with_reducible apply wpM_stp' M 3 47 (203) (bkA g1 ns.length g2 ls.length ns.length ls.length) (dskC q r (some ⟨gs, 0, none⟩) xs.length xs.length (some ⟨g1, 0, none⟩) ns.length ns.length (some ⟨g2, 0, none⟩) ls.length ls.length)); rfl; rfl; rfl; rfl; (first | exact .inl (by assumption) | exact .inr rfl | exact .inr (by assumption)); exact ⟨rfl, inf_bok.trans (congrArg some (bok_size ..).symm), flat_bok _ _ _ _ _ _⟩; (simp only [entCells, List.getElem?_cons_zero, List.getElem?_cons_succ, bok_size, dsk_size]; omega); exact dsk_set3 ..; clear M; (try clear C); intro w9 M; simp only [List.set_cons_zero, List.set_cons_succ, entBlk, entT, List.getElem?_cons_zero, List.getElem?_cons_succ] at M; have C := M.ruleAll; simp only [Go.Proofs.Ytjdfjlgjpjgnhaa.ruleAll] at C) | ((with_reducible apply wpM_lda' M 3 75 0 (dskC q r (some ⟨gs, 0, none⟩) xs.length xs.length (some ⟨g1, 0, none⟩) ns.length ns.length (some ⟨g2, 0, none⟩) ls.length ls.length)); rfl; rfl; rfl; exact ⟨rfl, inf_dsk.trans (congrArg some (dsk_size ..).symm), _, und_dsk, rfl⟩; exact whole_of rfl) | ((with_reducible apply wpM_sta' M 4 75 (dskC q r (some ⟨gs, 0, none⟩) xs.length xs.length (some ⟨g1, 0, none⟩) ns.length ns.length (some ⟨g2, 0, none⟩) ls.length ls.length)); rfl; rfl; rfl; rfl; (first | exact .inl (by assumption) | exact .inr rfl | exact .inr (by assumption)); exact ⟨rfl, inf_dsk.trans (congrArg some (dsk_size ..).symm), flat_dsk _ _ _ _ _ _ _ _ _ _ _⟩; (simp only [entCells, List.getElem?_cons_zero, List.getElem?_cons_succ, dsk_size, dsk_size]); clear M; (try clear C); intro w9 M; simp only [List.set_cons_zero, List.set_cons_succ, entBlk, entT, List.getElem?_cons_zero, List.getElem?_cons_succ] at M; have C := M.ruleAll; simp only [Go.Proofs.Ytjdfjlgjpjgnhaa.ruleAll] at C))
  refine bodyPost_ret (v := .agg (dskC q r (some ⟨gs, 0, none⟩) xs.length xs.length (some ⟨g1, 0, none⟩) ns.length ns.length (some ⟨g2, 0, none⟩) ls.length ls.length)) (by exact results_part rfl _ _ _ _ _ _ rfl und_dsk rfl (inf_dsk.trans (congrArg some (dsk_size ..).symm)) (cells_of_blk0 (M.box 4 rfl))) rfl ?_
  exact ⟨gs, g1, g2, cs, cs1, cs2, rfl, hgs9, hg19.1, hg19.2, hs, hs1, hs2, (M.sub [2, 0, 1] (by decide))⟩
end Go.Proofs.Ytjdfjlgjpjgnhaa
