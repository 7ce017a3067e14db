/- The law on valid books: its walk. -/
import Derived.Test.YtjdfjlgjpjgnhaaC36
import Derived.Test.YtjdfjlgjpjgnhaaC42
namespace Go.Proofs.Ytjdfjlgjpjgnhaa
set_option linter.unusedSimpArgs false
set_option linter.unusedVariables false
open Go Go.RowKit

theorem und_bk0 : Try.prog.underlying 42 = some (.struct (Try.prog.fieldsOf 42)) := by kernel_rfl
theorem inf_bk0 : (Try.prog.info? 42).map (·.size) = some 2 := by kernel_rfl
theorem bkv_size (p1 : Option Addr) (c1 : Nat) (p2 : Option Addr) (c2 n m : Nat) : (bkV p1 c1 p2 c2 n m).size = 2 := rfl
/-- What is known of a book that comes in and is not too large. -/
structure BkIn (ns : List ByteArray) (ls : List Sqr) : Prop where
  n : ns.length ≤ 1048576
  m : ls.length ≤ 1048576
  s : ∀ x ∈ ns, x.size ≤ 1048576
  b : ∀ q ∈ ls, Byt2 q.t
/-- What is known of a book in new memory. -/
structure BkHere (ns : List ByteArray) (ls : List Sqr) (w : World) (g1 g2 : Nat) : Prop where
  r1 : rds w g1 ns.length (nmF ns)
  r2 : rds w g2 (ls.length * 101) (fun j => (slC ls).getD j undef)
  ne : g1 ≠ g2
theorem BkHere.of {D : Nat → Prop} {w0 w : World} {L : List Ent} (M : Mm D w0 w L) (i j : Nat) (hij : i ≠ j) {ns : List ByteArray} {ls : List Sqr} {g1 g2 : Nat} {cs1 cs2 : Array Value} (h1 : L[i]? = some (.box g1 cs1 9)) (h2 : L[j]? = some (.box g2 cs2 30)) (hs1 : strC ns cs1) (hs2 : sqaC ls cs2) : BkHere ns ls w g1 g2 :=
  ⟨(M.box i h1).rds hs1.2, (M.box j h2).rds hs2.2, fun e => M.dist i j _ _ h1 h2 hij g1 rfl e.symm⟩
theorem BkHere.later {ns : List ByteArray} {ls : List Sqr} {w w' : World} {g1 g2 : Nat} (h : BkHere ns ls w g1 g2) (hb : Below w.heap.size w w') : BkHere ns ls w' g1 g2 := ⟨h.r1.later hb, h.r2.later hb, h.ne⟩
theorem eqBookA_any {ns : List ByteArray} {ls : List Sqr} (h : BkIn ns ls) (w : World) {g1 g2 g3 g4 : Nat} (h1 : BkHere ns ls w g1 g2) (h2 : BkHere ns ls w g3 g4) (c1 c2 c3 c4 : Nat) :
    Calls Try.prog 24 #[.agg (bkA g1 c1 g2 c2 ns.length ls.length), .agg (bkA g3 c3 g4 c4 ns.length ls.length)] w fun e w' => e = .returned (.bool true) ∧ Below w.heap.size w w' :=
  eqBook_any ns ls (by have := h.n; omega) (by have := h.m; omega) w _ _ _ _ c1 c2 c3 c4 h1.r1.rdq h1.r2.rdq h2.r1.rdq h2.r2.rdq
theorem isBookP_any {ns : List ByteArray} {ls : List Sqr} (h : BkIn ns ls) (w : World) {g1 g2 : Nat} (h1 : BkHere ns ls w g1 g2) (c1 c2 : Nat) (hc : ns.length ≤ c1) :
    Calls Try.prog 23 #[.agg (bkA g1 c1 g2 c2 ns.length ls.length)] w fun e w' => e = .returned (.bool (isBk ns ls)) ∧ Below w.heap.size w w' := by
  rw [← isBkI_eq ns ls h.b]
  exact isBookI_any ns ls h.n h.m h.s h.b w g1 c1 g2 c2 hc h1.r1 h1.r2
theorem l11IsP_any {ns : List ByteArray} {ls : List Sqr} (h : BkIn ns ls) (w : World) {g1 g2 : Nat} (h1 : BkHere ns ls w g1 g2) (c1 c2 : Nat) :
    Calls Try.prog 63 #[.agg (bkA g1 c1 g2 c2 ns.length ls.length)] w fun e w' => e = .returned (.bool (isBk ns ls)) ∧ Below w.heap.size w w' :=
  l11Is_any ns ls h.n h.m h.s h.b w g1 c1 g2 c2 h1.r1 h1.r2 h1.ne

set_option maxRecDepth 100000 in
set_option maxHeartbeats 400000 in
theorem specIsBook_any {ns : List ByteArray} {ls : List Sqr} (h : BkIn ns ls) (w : World) {g1 g2 : Nat} (h1 : BkHere ns ls w g1 g2) (c1 c2 : Nat) :
    Calls Try.prog 21 #[.agg (bkA g1 c1 g2 c2 ns.length ls.length)] w fun e w' => e = .returned (.bool (isBk ns ls)) ∧ Below w.heap.size w w' := by
  have M := Mm.start no w
  have H := fun w1 (hb : Below w.heap.size w w1) => l11IsP_any h w1 (h1.later hb) c1 c2
  generalize isBk ns ls = b at H ⊢
  clear h h1
  go_enter Try.func21, Try.ntmps21
  go_wp2_with (first | ((with_reducible apply wpM_box' M 47 (bkA g1 c1 g2 c2 ns.length ls.length)); rfl; exact ⟨rfl, rfl⟩; clear M; (try clear C); intro bb w9 h_bb M; have C := M.ruleAll; simp only [Go.Proofs.Ytjdfjlgjpjgnhaa.ruleAll] at C) | ((with_reducible apply wpM_lda' M 0 47 0 (bkA g1 c1 g2 c2 ns.length ls.length)); rfl; rfl; rfl; exact ⟨rfl, inf_bok.trans (congrArg some (bok_size ..).symm), _, und_bok, rfl⟩; exact whole_of rfl) | (go_at_call 63; ((with_reducible refine (H _ M.below).mono ?_); rintro e w1 ⟨rfl, hb⟩; have hsz := M.size; (try (have G9 := G.later hb; clear G; have G := G9; clear G9)); have M9 := M.later hb; clear M; (try clear C); have M := M9; clear M9; have C := M.ruleAll; simp only [Go.Proofs.Ytjdfjlgjpjgnhaa.ruleAll] at C)))
  go_ret
  exact ⟨rfl, M.below⟩

/-- A book in new memory that floats. -/
def StBk (ns : List ByteArray) (ls : List Sqr) : List Value → List Ent → Prop
  | [], Lg => Lg = []
  | v :: _, Lg => ∃ g1 g2 cs1 cs2, v = .agg (bkA g1 ns.length g2 ls.length ns.length ls.length) ∧ strC ns cs1 ∧ sqaC ls cs2 ∧ Lg = [.box g1 cs1 9, .box g2 cs2 30]

set_option maxRecDepth 100000 in
set_option maxHeartbeats 2000000 in
theorem lawIsBook_any (ns : List ByteArray) (ls : List Sqr) (hn : ns.length ≤ maxLen) (hm : ls.length ≤ maxLen) (hs : ∀ x ∈ ns, x.size ≤ maxLen) (hby : ∀ q ∈ ls, Byt2 q.t) (w : World) (p1 p2 : Option Addr) (c1 c2 : Nat)
    (hr1 : rdp w p1 ns.length (nmF ns)) (hr2 : rdp w p2 (ls.length * 101) (fun j => (slC ls).getD j undef)) :
    Calls Try.prog 5 #[.agg (bkV p1 c1 p2 c2 ns.length ls.length)] w fun e w' => e = .returned (.bool true) ∧ Below w.heap.size w w' := by
  have M := Mm.start no w
  have HS := fun w1 (hb : Below w.heap.size w w1) => szBook_any ns hn hs ls.length hm w1 p1 p2 c1 c2 1048576 (by omega) (by omega) (hr1.later hb)
  have R1 := Hid2.mk (fun w1 (hb : Below w.heap.size w w1) => hr1.later hb)
  have R2 := Hid2.mk (fun w1 (hb : Below w.heap.size w w1) => hr2.later hb)
  have HBY := Hid2.mk hby
  clear hr1 hr2 hs hby
  go_enter Try.func5, Try.ntmps5
  go_wp2_with (first | ((with_reducible apply wpM_box' M 42 (bkV p1 c1 p2 c2 ns.length ls.length)); rfl; exact ⟨rfl, rfl⟩; clear M; (try clear C); intro bb w9 h_bb M; have C := M.ruleAll; simp only [Go.Proofs.Ytjdfjlgjpjgnhaa.ruleAll] at C) | ((with_reducible apply wpM_lda' M 0 42 0 (bkV p1 c1 p2 c2 ns.length ls.length)); rfl; rfl; rfl; exact ⟨rfl, inf_bk0.trans (congrArg some (bkv_size ..).symm), _, und_bk0, rfl⟩; exact whole_of rfl) | (go_at_call 20; fail))
  refine (HS _ M.below).mono ?_
  rintro e w1 ⟨r, rfl, hr, hb⟩
  have M9 := M.later hb
  clear M; (try clear C)
  have M := M9
  clear M9 hb
  have C := M.ruleAll; simp only [Go.Proofs.Ytjdfjlgjpjgnhaa.ruleAll] at C
  clear HS
  by_cases hneg : r < 0
  · go_wp2
    go_ret
    exact ⟨rfl, M.below⟩
  · obtain ⟨_, q1, q2, q3⟩ := hr (by omega)
    have HB : BkIn ns ls := ⟨by omega, by omega, fun x hx => by have := q2 x hx; omega, HBY.out⟩
    clear hr q2
    have HT := fun w1 (hb : Below w.heap.size w w1) => toBook_any ns ls HB.n HB.m w1 p1 p2 c1 c2 (R1.out w1 hb) (R2.out w1 hb)
    have HS := Hid2.mk (fun w1 g1 g2 (h : BkHere ns ls w1 g1 g2) => specIsBook_any HB w1 h ns.length ls.length)
    have HP := Hid2.mk (fun w1 g1 g2 (h : BkHere ns ls w1 g1 g2) => isBookP_any HB w1 h ns.length ls.length (Nat.le_refl _))
    have HE := Hid2.mk (fun w1 g1 g2 g3 g4 (h : BkHere ns ls w1 g1 g2) (h' : BkHere ns ls w1 g3 g4) => eqBookA_any HB w1 h h' ns.length ls.length ns.length ls.length)
    generalize isBk ns ls = b at HS HP
    go_wp2_with (first | ((with_reducible apply wpM_lda' M 0 42 0 (bkV p1 c1 p2 c2 ns.length ls.length)); rfl; rfl; rfl; exact ⟨rfl, inf_bk0.trans (congrArg some (bkv_size ..).symm), _, und_bk0, rfl⟩; exact whole_of rfl) | (go_at_call 22; fail))
    refine (HT _ M.below).mono ?_
    rintro e w1 ⟨g1, g2, cs1, cs2, rfl, hg1, hg2, hs1, hs2, M'⟩
    have M9 := M.join2 M' (new_box2 hg1 hg2)
    clear M; (try clear C)
    have M := M9
    clear M9 M'
    have C := M.ruleAll; simp only [Go.Proofs.Ytjdfjlgjpjgnhaa.ruleAll] at C
    go_wp2_with (first | ((with_reducible apply wpM_lda' M 2 42 0 (bkV p1 c1 p2 c2 ns.length ls.length)); rfl; rfl; rfl; exact ⟨rfl, inf_bk0.trans (congrArg some (bkv_size ..).symm), _, und_bk0, rfl⟩; exact whole_of rfl) | (go_at_call 21; ((with_reducible refine (HS.out _ _ _ (BkHere.of M 0 1 (by decide) rfl rfl hs1 hs2)).mono ?_); rintro e w1 ⟨rfl, hb⟩; have hsz := M.size; (try (have G9 := G.later hb; clear G; have G := G9; clear G9)); have M9 := M.later hb; clear M; (try clear C); have M := M9; clear M9; have C := M.ruleAll; simp only [Go.Proofs.Ytjdfjlgjpjgnhaa.ruleAll] at C)) | (go_at_call 22; fail))
    refine (HT _ M.below).mono ?_
    rintro e w1 ⟨g3, g4, cs3, cs4, rfl, hg3, hg4, hs3, hs4, M'⟩
    have M9 := M.join2 M' (new_box2 hg3 hg4)
    clear M; (try clear C)
    have M := M9
    clear M9 M'
    have C := M.ruleAll; simp only [Go.Proofs.Ytjdfjlgjpjgnhaa.ruleAll] at C
    go_wp2_with (first | ((with_reducible apply wpM_alloc' M 47 (bkZ)); rfl; exact ⟨rfl, _, zero_bok _, rfl⟩; clear M; (try clear C); intro b5 w9 h_b5 M; have C := M.ruleAll; simp only [Go.Proofs.Ytjdfjlgjpjgnhaa.ruleAll] at C) | ((with_reducible apply wpM_sta' M 0 47 (bkA g3 ns.length g4 ls.length ns.length ls.length)); rfl; rfl; rfl; rfl; (first | exact .inl (by assumption) | exact .inr rfl | exact .inr (by assumption)); exact ⟨rfl, inf_bok.trans (congrArg some (bok_size ..).symm), flat_bok _ _ _ _ _ _⟩; (simp only [entCells, List.getElem?_cons_zero, List.getElem?_cons_succ, bok_size, bkz_size]); clear M; (try clear C); intro w9 M; simp only [List.set_cons_zero, List.set_cons_succ, entBlk, entT, List.getElem?_cons_zero, List.getElem?_cons_succ] at M; have C := M.ruleAll; simp only [Go.Proofs.Ytjdfjlgjpjgnhaa.ruleAll] at C) | ((with_reducible apply wpM_lda' M 0 47 0 (bkA g3 ns.length g4 ls.length ns.length ls.length)); rfl; rfl; rfl; exact ⟨rfl, inf_bok.trans (congrArg some (bok_size ..).symm), _, und_bok, rfl⟩; exact whole_of rfl) | (go_at_call 23; ((with_reducible refine (HP.out _ _ _ (BkHere.of M 1 2 (by decide) rfl rfl hs3 hs4)).mono ?_); rintro e w1 ⟨rfl, hb⟩; have hsz := M.size; (try (have G9 := G.later hb; clear G; have G := G9; clear G9)); have M9 := M.later hb; clear M; (try clear C); have M := M9; clear M9; have C := M.ruleAll; simp only [Go.Proofs.Ytjdfjlgjpjgnhaa.ruleAll] at C)))
    apply wp_region_mmf1 M [0, 1] 2 3 _ (StBk ns ls) (by kernel_rfl) (by kernel_rfl) rfl rfl rfl
    case ht => (repeat (first | exact wpTextG_nil | (apply wpTextG_cons; (intro g9 w2 hG; obtain ⟨Lg9, hSt9, G⟩ := hG; have M := G.suffix; have C := M.ruleAll; simp only [Go.Proofs.Ytjdfjlgjpjgnhaa.ruleAll] at C; go_wp2_with (first | ((with_reducible apply wpM_lda' M 0 47 0 (bkA g3 ns.length g4 ls.length ns.length ls.length)); rfl; rfl; rfl; exact ⟨rfl, inf_bok.trans (congrArg some (bok_size ..).symm), _, und_bok, rfl⟩; exact whole_of rfl) | ((with_reducible apply wpM_lda' M 5 42 0 (bkV p1 c1 p2 c2 ns.length ls.length)); rfl; rfl; rfl; exact ⟨rfl, inf_bk0.trans (congrArg some (bkv_size ..).symm), _, und_bk0, rfl⟩; exact whole_of rfl)); exact ⟨rfl, rfl, Lg9, hSt9, G⟩); rfl)))
    case hA =>
      intro Lg w2 h M
      obtain rfl : Lg = [] := h
      refine yield_walk (ops := #[]) rfl rfl (by simp [Act.put]) ?_
      simp only [List.nil_append] at M
      go_wp2_with (first | (go_at_call 22; fail))
      refine (HT _ M.below).mono ?_
      rintro e w1 ⟨g5, g6, cs5, cs6, rfl, hg5, hg6, hs5, hs6, M'⟩
      have M9 := M.join2 M' (new_box2 hg5 hg6)
      go_wp2
      exact ⟨_, ⟨g5, g6, cs5, cs6, rfl, hs5, hs6, rfl⟩, M9⟩
    clear M; (try clear C)
    intro v Lg w2 h M
    obtain ⟨g5, g6, cs5, cs6, rfl, hs5, hs6, rfl⟩ := h
    simp only [List.drop_succ_cons, List.drop_zero, List.cons_append, List.nil_append] at M ⊢
    go_wp2_with (first | (go_at_call 24; ((with_reducible refine (HE.out _ _ _ _ _ (BkHere.of M 3 4 (by decide) rfl rfl hs3 hs4) (BkHere.of M 0 1 (by decide) rfl rfl hs5 hs6)).mono ?_); rintro e w1 ⟨rfl, hb⟩; have hsz := M.size; (try (have G9 := G.later hb; clear G; have G := G9; clear G9)); have M9 := M.later hb; clear M; (try clear C); have M := M9; clear M9; have C := M.ruleAll; simp only [Go.Proofs.Ytjdfjlgjpjgnhaa.ruleAll] at C)))
    go_ret
    exact ⟨rfl, M.below⟩
end Go.Proofs.Ytjdfjlgjpjgnhaa
