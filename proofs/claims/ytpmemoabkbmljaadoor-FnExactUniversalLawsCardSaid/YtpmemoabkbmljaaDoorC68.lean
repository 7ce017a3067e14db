/- Whether an identity holds at three elements, for the program: a contract. -/
import Derived.Test.YtpmemoabkbmljaaDoorC67
import Derived.Shelf.Abstract
namespace Go.Proofs.YtpmemoabkbmljaaDoor
set_option linter.unusedSimpArgs false
set_option linter.unusedVariables false
open Go Go.RowKit

theorem neB_eq (t : Nat → Nat → Nat) (f : Nat → Nat) (m : Nat) (g : Nat → Nat) (l x y z : Nat) : neB t f m g l x y z = !((evB t x y z f m : Int) == (evB t x y z g l : Int)) := by
  by_cases h : evB t x y z f m = evB t x y z g l
  · rw [neB_false h, h]; simp
  · rw [neB_true h, neI h]; rfl

set_option maxRecDepth 100000 in
set_option maxHeartbeats 2000000 in
theorem holds_any (n : Nat) (t : Nat → Nat → Nat) (hs : IsSq (n : Int) t) (x y z : Nat) (hx : x < n) (hy : y < n) (hz : z < n) (xs ys : List Nat) (hX : isTm (elB xs) xs.length = true) (hY : isTm (elB ys) ys.length = true) (vcs : Array Value) (hv : VlC n t vcs) (bv : Nat)
    (w : World) (p1 p2 : Option Addr) (c1 c2 : Nat) (r1 : rdq w p1 xs.length (bytF xs)) (r2 : rdq w p2 ys.length (bytF ys)) (hb : blk w bv vcs 87) :
    Calls Tryd.prog 49 #[.pointer (some ⟨bv, 0, none⟩), .agg (idV p1 c1 p2 c2 xs.length ys.length), .agg (by3 x y z)] w fun e w' => e = .returned (.bool (!neB t (elB xs) xs.length (elB ys) ys.length x y z)) ∧ Below w.heap.size w w' := by
  have M := Mm.start no w
  have O1 := fun w1 (h : Below w.heap.size w w1) => of_any n t hs x y z (by omega) (by omega) (by omega) xs hX vcs hv bv w1 p1 c1 (r1.later h) (hb.later h)
  have O2 := fun w1 (h : Below w.heap.size w w1) => of_any n t hs x y z (by omega) (by omega) (by omega) ys hY vcs hv bv w1 p2 c2 (r2.later h) (hb.later h)
  have hI1 := idv_0 p1 c1 p2 c2 xs.length ys.length
  have hI2 := idv_1 p1 c1 p2 c2 xs.length ys.length
  rw [neB_eq, Bool.not_not]
  generalize evB t x y z (elB xs) xs.length = v1 at O1
  generalize evB t x y z (elB ys) ys.length = v2 at O2
  clear r1 r2 hb hv hX hY hs
  go_enter Tryd.func49, Tryd.ntmps49
  go_wp2_with (first | ((with_reducible apply wpM_box' M 49 (idV p1 c1 p2 c2 xs.length ys.length)); rfl; exact ⟨rfl, rfl⟩; clear M; (try clear C); intro bi w9 h_bi M; have C := M.ruleAll; simp only [Go.Proofs.YtpmemoabkbmljaaDoor.ruleAll] at C) | ((with_reducible apply wpM_box' M 69 (by3 x y z)); rfl; exact ⟨rfl, rfl⟩; clear M; (try clear C); intro ba w9 h_ba M; have C := M.ruleAll; simp only [Go.Proofs.YtpmemoabkbmljaaDoor.ruleAll] at C))
  apply wp_region_mm M 10 (by kernel_rfl) (by kernel_rfl); (simp only [List.take_succ_cons, List.take_zero]; repeat (first | exact wpText_nil | (apply wpText_cons; (intro w2 M; have C := M.ruleAll; simp only [Go.Proofs.YtpmemoabkbmljaaDoor.ruleAll] at C; go_wp2_with (first | ((with_reducible apply wpM_lda' M 0 69 0 (by3 x y z)); rfl; rfl; rfl; exact ⟨rfl, inf_by3.trans (congrArg some (by3_size ..).symm), _, und_by3, rfl⟩; exact whole_of rfl) | (go_at_call 64; ((with_reducible refine (O1 _ M.below).mono ?_); rintro e w1 ⟨rfl, hb⟩; have hsz := M.size; (try (have G9 := G.later hb; clear G; have G := G9; clear G9)); have M9 := M.later hb; clear M; (try clear C); have M := M9; clear M9; have C := M.ruleAll; simp only [Go.Proofs.YtpmemoabkbmljaaDoor.ruleAll] at C)) | (go_at_call 64; ((with_reducible refine (O2 _ M.below).mono ?_); rintro e w1 ⟨rfl, hb⟩; have hsz := M.size; (try (have G9 := G.later hb; clear G; have G := G9; clear G9)); have M9 := M.later hb; clear M; (try clear C); have M := M9; clear M9; have C := M.ruleAll; simp only [Go.Proofs.YtpmemoabkbmljaaDoor.ruleAll] at C))); exact ⟨rfl, rfl, M⟩); rfl))); (clear M; (try clear C); intro w2 M; simp only [List.drop_succ_cons, List.drop_zero]; have C := M.ruleAll; simp only [Go.Proofs.YtpmemoabkbmljaaDoor.ruleAll] at C)
  go_wp2
  go_ret
  exact ⟨rfl, M.below⟩
end Go.Proofs.YtpmemoabkbmljaaDoor

/- The search for the first place where an identity does not hold, for the program: contracts. -/
namespace Go.Proofs.YtpmemoabkbmljaaDoor
set_option linter.unusedSimpArgs false
set_option linter.unusedVariables false
open Go Go.RowKit

theorem Mm.wide {w0 w : World} {L : List Ent} (M : Mm no w0 w L) (D : Nat → Prop) : Mm D w0 w L := ⟨⟨M.kept.os, M.kept.tape, M.kept.output, M.kept.size, fun k h _ => M.kept.block k h id⟩, M.ents, M.dist⟩
/-- The variables that the visitor has: where the values, the identity and the list lie. -/
structure FEnv (n : Nat) (t : Nat → Nat → Nat) (xs ys : List Nat) (V vcs : Array Value) (bv bp bi bo : Nat) (p1 p2 : Option Addr) (c1 c2 : Nat) : Prop where
  sq : IsSq (n : Int) t
  tx : isTm (elB xs) xs.length = true
  ty : isTm (elB ys) ys.length = true
  vl : VlC n t vcs
  hV : V = idV p1 c1 p2 c2 xs.length ys.length
/-- What the visitor's world holds. -/
def fL (V vcs : Array Value) (bv bp bi bo : Nat) (v0 : Value) : List Ent := [.box bo #[v0] 26, .box bp #[.pointer (some ⟨bv, 0, none⟩)] 66, .box bi V 49, .box bv vcs 87]
def by3I (x y z : Nat) : Array Value := #[.int .i64 (x : Int), .int .i64 (y : Int), .int .i64 (z : Int)]

set_option maxRecDepth 100000 in
set_option maxHeartbeats 2000000 in
theorem failsFn_any (n : Nat) (t : Nat → Nat → Nat) (xs ys : List Nat) (V vcs : Array Value) (bv bp bi bo : Nat) (p1 p2 : Option Addr) (c1 c2 : Nat) (F : FEnv n t xs ys V vcs bv bp bi bo p1 p2 c1 c2) (x y z : Nat) (hx : x < n) (hy : y < n) (hz : z < n) (v0 : Value)
    (D : Nat → Prop) (hD : D bo) (w : World) (M0 : Mm no w w (fL V vcs bv bp bi bo v0)) (r1 : rdq w p1 xs.length (bytF xs)) (r2 : rdq w p2 ys.length (bytF ys)) :
    Calls Tryd.prog 48 #[.agg (by3 x y z), .pointer (some ⟨bp, 0, none⟩), .pointer (some ⟨bi, 0, none⟩), .pointer (some ⟨bo, 0, none⟩)] w fun e w' =>
      (neB t (elB xs) xs.length (elB ys) ys.length x y z = false → e = .returned (.bool false) ∧ Below w.heap.size w w') ∧
      (neB t (elB xs) xs.length (elB ys) ys.length x y z = true → e = .returned (.bool true) ∧ ∃ g, w.heap.size ≤ g ∧ Mm D w w' [.box bo #[.slice (some ⟨g, 0, none⟩) 3 3] 26, .box g (by3I x y z) 2]) := by
  obtain ⟨sq, tx, ty, vl, rfl⟩ := F
  have hn2 : n ≤ 10 := by have := sq.hi; omega
  have H := fun w1 (h : Below w.heap.size w w1) => holds_any n t sq x y z hx hy hz xs ys tx ty vcs vl bv w1 p1 p2 c1 c2 (r1.later h) (r2.later h) ((M0.box 3 rfl).later h)
  have M : Mm no w w [.box bo #[v0] 26, .box bp #[.pointer (some ⟨bv, 0, none⟩)] 66, .box bi (idV p1 c1 p2 c2 xs.length ys.length) 49, .box bv vcs 87] := M0
  have hp0 : (#[.pointer (some ⟨bv, 0, none⟩)] : Array Value)[0]? = some (.pointer (some ⟨bv, 0, none⟩)) := rfl
  have ha0 : (by3 x y z)[0]? = some (.int .u8 (x : Int)) := rfl
  have ha1 : (by3 x y z)[1]? = some (.int .u8 (y : Int)) := rfl
  have ha2 : (by3 x y z)[2]? = some (.int .u8 (z : Int)) := rfl
  have hx10 : (x : Int) < 10 := by omega
  have hy10 : (y : Int) < 10 := by omega
  have hz10 : (z : Int) < 10 := by omega
  have HB := Hid2.mk (show ∀ w', Kept no w w' → Below w.heap.size w w' from fun _ h => h.below)
  clear M0 r1 r2 tx ty vl sq
  have C := M.ruleAll; simp only [Go.Proofs.YtpmemoabkbmljaaDoor.ruleAll] at C
  cases hp : neB t (elB xs) xs.length (elB ys) ys.length x y z with
  | false =>
    rw [hp] at H
    go_enter Tryd.func48, Tryd.ntmps48
    go_wp2_with (first | ((with_reducible apply wpM_box' M 69 (by3 x y z)); rfl; exact ⟨rfl, rfl⟩; clear M; (try clear C); intro ba w9 h_ba M; have C := M.ruleAll; simp only [Go.Proofs.YtpmemoabkbmljaaDoor.ruleAll] at C) | ((with_reducible apply wpM_lda' M 0 69 0 (by3 x y z)); rfl; rfl; rfl; exact ⟨rfl, inf_by3.trans (congrArg some (by3_size ..).symm), _, und_by3, rfl⟩; exact whole_of rfl) | ((with_reducible apply wpM_lda' M 3 49 0 (idV p1 c1 p2 c2 xs.length ys.length)); rfl; rfl; rfl; exact ⟨rfl, inf_idn.trans (congrArg some (idv_size ..).symm), _, und_idn, rfl⟩; exact whole_of rfl) | (go_at_call 49; fail))
    refine (H _ M.below).mono ?_
    rintro e w1 ⟨rfl, hb⟩
    have M9 := M.later hb
    clear M; (try clear C)
    have M := M9
    clear M9 hb
    have C := M.ruleAll; simp only [Go.Proofs.YtpmemoabkbmljaaDoor.ruleAll] at C
    go_wp2
    go_ret
    exact ⟨fun _ => ⟨rfl, M.below⟩, fun h => (by cases h)⟩
  | true =>
    rw [hp] at H
    go_enter Tryd.func48, Tryd.ntmps48
    go_wp2_with (first | ((with_reducible apply wpM_box' M 69 (by3 x y z)); rfl; exact ⟨rfl, rfl⟩; clear M; (try clear C); intro ba w9 h_ba M; have C := M.ruleAll; simp only [Go.Proofs.YtpmemoabkbmljaaDoor.ruleAll] at C) | ((with_reducible apply wpM_lda' M 0 69 0 (by3 x y z)); rfl; rfl; rfl; exact ⟨rfl, inf_by3.trans (congrArg some (by3_size ..).symm), _, und_by3, rfl⟩; exact whole_of rfl) | ((with_reducible apply wpM_lda' M 3 49 0 (idV p1 c1 p2 c2 xs.length ys.length)); rfl; rfl; rfl; exact ⟨rfl, inf_idn.trans (congrArg some (idv_size ..).symm), _, und_idn, rfl⟩; exact whole_of rfl) | (go_at_call 49; fail))
    refine (H _ M.below).mono ?_
    rintro e w1 ⟨rfl, hb⟩
    have M9 := (M.later hb).wide D
    clear M; (try clear C)
    have M := M9
    clear M9 hb
    have C := M.ruleAll; simp only [Go.Proofs.YtpmemoabkbmljaaDoor.ruleAll] at C
    go_wp2_with (first | ((with_reducible apply wpM_bsl' M 26 3 2 ([(0, .int .i64 (x : Int)), (1, .int .i64 (y : Int)), (2, .int .i64 (z : Int))]) (by3I x y z)); rfl; rfl; rfl; exact bsl_i3 _ _ _; clear M; (try clear C); intro bs w9 h_bs M; have C := M.ruleAll; simp only [Go.Proofs.YtpmemoabkbmljaaDoor.ruleAll] at C) | ((with_reducible apply wpM_st' M 2 26 (0) (#[.slice (some ⟨bs, 0, none⟩) 3 3])); rfl; rfl; rfl; (first | exact .inl (by assumption) | exact .inr rfl | exact .inr (by assumption)); exact ⟨rfl, rfl, by kernel_rfl⟩; exact Nat.zero_lt_one; exact rfl; clear M; (try clear C); intro w9 M; simp only [List.set_cons_zero, List.set_cons_succ, entBlk, entT, List.getElem?_cons_zero, List.getElem?_cons_succ] at M; have C := M.ruleAll; simp only [Go.Proofs.YtpmemoabkbmljaaDoor.ruleAll] at C))
    go_ret
    exact ⟨fun h => (by cases h), fun _ => ⟨rfl, bs, h_bs, M.sub [2, 0] (by decide)⟩⟩
end Go.Proofs.YtpmemoabkbmljaaDoor

/- The visit of all lists of three elements, for the program: a contract. -/
namespace Go.Proofs.YtpmemoabkbmljaaDoor
set_option linter.unusedSimpArgs false
set_option linter.unusedVariables false
open Go Go.RowKit

theorem build_by3 (x y z : Int) (w : World) : (Instr.build 69 #[(0, .int .u8 x), (1, .int .u8 y), (2, .int .u8 z)]).run Tryd.prog w = .ok (.agg #[.int .u8 x, .int .u8 y, .int .u8 z]) w := by kernel_rfl
/-- What the visit gives. -/
def PlacesPost (o : Option (Nat × Nat × Nat)) (bo : Nat) (D : Nat → Prop) (w : World) (e : Ending) (w' : World) : Prop :=
  match o with
  | none => e = .returned (.bool false) ∧ Below w.heap.size w w'
  | some (x, y, z) => e = .returned (.bool true) ∧ ∃ g, w.heap.size ≤ g ∧ Mm D w w' [.box bo #[.slice (some ⟨g, 0, none⟩) 3 3] 26, .box g (by3I x y z) 2]

set_option maxRecDepth 100000 in
set_option maxHeartbeats 4000000 in
theorem places_any (n : Nat) (t : Nat → Nat → Nat) (xs ys : List Nat) (V vcs : Array Value) (bv bp bi bo : Nat) (p1 p2 : Option Addr) (c1 c2 : Nat) (F : FEnv n t xs ys V vcs bv bp bi bo p1 p2 c1 c2) (v0 : Value)
    (D : Nat → Prop) (hD : D bo) (w : World) (M0 : Mm no w w (fL V vcs bv bp bi bo v0)) (r1 : rdq w p1 xs.length (bytF xs)) (r2 : rdq w p2 ys.length (bytF ys)) :
    Calls Tryd.prog 47 #[.agg (sqs n t), .func (.func 48) #[] #[.pointer (some ⟨bp, 0, none⟩), .pointer (some ⟨bi, 0, none⟩), .pointer (some ⟨bo, 0, none⟩)]] w fun e w' => PlacesPost (fst3 (neB t (elB xs) xs.length (elB ys) ys.length) n n n) bo D w e w' := by
  have hn1 : 1 ≤ n := by have := F.sq.lo; omega
  have hn2 : n ≤ 10 := by have := F.sq.hi; omega
  have hn10 : (n : Int) ≤ 10 := by omega
  have HV := Hid2.mk (fun x y z (hx : x < n) (hy : y < n) (hz : z < n) w1 (M1 : Mm no w1 w1 (fL V vcs bv bp bi bo v0)) (hb : Below w.heap.size w w1) => failsFn_any n t xs ys V vcs bv bp bi bo p1 p2 c1 c2 F x y z hx hy hz v0 D hD w1 M1 (r1.later hb) (r2.later hb))
  have hen := enters_of (P := Tryd.prog) (f := 48) (by exact Tryd.func48) (by kernel_rfl) rfl
  have hmm : ∀ {w1 w2 : World} {L1 L2 : List Ent}, Mm no w w1 L1 → Mm D w1 w2 L2 → Mm D w w2 L2 := fun M M' => ⟨(M.wide D).kept.trans M'.kept fun _ _ h => h, M'.ents, M'.dist⟩
  have HMM := Hid2.mk @hmm
  have M : Mm no w w [.box bo #[v0] 26, .box bp #[.pointer (some ⟨bv, 0, none⟩)] 66, .box bi V 49, .box bv vcs 87] := M0
  generalize neB t (elB xs) xs.length (elB ys) ys.length = p at HV ⊢
  generalize hG : (fun x => fstTo (fun y => fstTo (fun z => if p x y z = true then some (x, y, z) else none) n) n) = G
  have HG := Hid2.mk hG
  have hF3 : fst3 p n n n = fstTo G n := by rw [← hG]; rfl
  rw [hF3]
  clear hF3 hG M0 r1 r2 F hmm
  have C := M.ruleAll; simp only [Go.Proofs.YtpmemoabkbmljaaDoor.ruleAll] at C
  go_enter Tryd.func47, Tryd.ntmps47
  go_wp2_with (first | ((with_reducible apply wpM_box' M 31 (sqs n t)); rfl; exact ⟨rfl, rfl⟩; clear M; (try clear C); intro bq w9 h_bq M; have C := M.ruleAll; simp only [Go.Proofs.YtpmemoabkbmljaaDoor.ruleAll] at C) | ((with_reducible apply wpM_lda' M 0 31 0 (sqs n t)); rfl; rfl; rfl; exact ⟨rfl, inf_sqs.trans (congrArg some (sqs_size ..).symm), _, und_sqs, rfl⟩; exact whole_of rfl) | (go_at_call 59; ((with_reducible refine (elements_any _ _ _ (by omega) (by omega)).mono ?_); rintro e w1 ⟨g1, cap_g1, rfl, hb, hg, hr⟩; have hsz := M.size; have M9 := M.gain hb (x := .rd g1 n (fun j => .int .u8 (j : Int))) hr (fun b h => by cases h; exact hg); clear M; (try clear C); have M := M9; clear M9; (try simp only [List.set_cons_zero, List.set_cons_succ] at M); have C := M.ruleAll; simp only [Go.Proofs.YtpmemoabkbmljaaDoor.ruleAll] at C; clear hb hg hr)))
  go_loopw [14, 6, 8, 10, 21, 28] (fun i _ _ _ _ _ wr => ∃ x : Nat, x ≤ n ∧ i = .int .i64 (x : Int) ∧ (∀ j, j < x → G j = none) ∧ Mm no w wr [.rd g1 n (fun j => .int .u8 (j : Int)), .box bq (sqs n t) 31, .box bo #[v0] 26, .box bp #[.pointer (some ⟨bv, 0, none⟩)] 66, .box bi V 49, .box bv vcs 87]) (fun i _ _ _ _ _ _ => n - (intOf i).toNat)
  case atStart => exact ⟨0, by omega, rfl, fun j h => by omega, M⟩
  case round =>
    obtain ⟨x, hx, rfl, hg, M9⟩ := hrel
    clear M; (try clear C)
    have M := M9
    clear M9
    have C := M.ruleAll; simp only [Go.Proofs.YtpmemoabkbmljaaDoor.ruleAll] at C
    have HX := Hid2.mk hg
    clear hg
    by_cases hxA : x < n
    · have hxA' : (x : Int) < (n : Int) := by omega
      have hx10 : (x : Int) < 10 := by omega
      have dlt : decide ((x : Int) < (n : Int)) = true := decide_eq_true hxA'
      have HXA := Hid2.mk hxA
      generalize hF : (fun y => fstTo (fun z => if p x y z = true then some (x, y, z) else none) n) = F
      have HGx := Hid2.mk (show G x = fstTo F n by rw [← HG.out, ← hF])
      have HF := Hid2.mk hF
      clear hF
      go_wp2_with (first | ((with_reducible apply wpM_lda' M 1 31 0 (sqs n t)); rfl; rfl; rfl; exact ⟨rfl, inf_sqs.trans (congrArg some (sqs_size ..).symm), _, und_sqs, rfl⟩; exact whole_of rfl) | (go_at_call 59; ((with_reducible refine (elements_any _ _ _ (by omega) (by omega)).mono ?_); rintro e w2 ⟨g2, cap_g2, rfl, hb, hg, hr⟩; have hsz := M.size; have M9 := M.gain hb (x := .rd g2 n (fun j => .int .u8 (j : Int))) hr (fun b h => by cases h; exact hg); clear M; (try clear C); have M := M9; clear M9; (try simp only [List.set_cons_zero, List.set_cons_succ] at M); have C := M.ruleAll; simp only [Go.Proofs.YtpmemoabkbmljaaDoor.ruleAll] at C; clear hb hg hr)))
      have M9 : Mm no w w2 [.rd g2 n (fun j => .int .u8 (j : Int)), .rd g1 n (fun j => .int .u8 (j : Int)), .box bq (sqs n t) 31, .box bo #[v0] 26, .box bp #[.pointer (some ⟨bv, 0, none⟩)] 66, .box bi V 49, .box bv vcs 87] := M
      clear M; (try clear C)
      have M := M9
      clear M9 dlt
      go_loopw [21, 8, 10, 28] (fun i _ _ _ wr => ∃ y : Nat, y ≤ n ∧ i = .int .i64 (y : Int) ∧ (∀ j, j < y → F j = none) ∧ Mm no w wr [.rd g2 n (fun j => .int .u8 (j : Int)), .rd g1 n (fun j => .int .u8 (j : Int)), .box bq (sqs n t) 31, .box bo #[v0] 26, .box bp #[.pointer (some ⟨bv, 0, none⟩)] 66, .box bi V 49, .box bv vcs 87]) (fun i _ _ _ _ => n - (intOf i).toNat)
      case atStart => exact ⟨0, by omega, rfl, fun j h => by omega, M⟩
      case round =>
        obtain ⟨y, hy, rfl, hg, M9⟩ := hrel
        clear M; (try clear C)
        have M := M9
        clear M9
        have C := M.ruleAll; simp only [Go.Proofs.YtpmemoabkbmljaaDoor.ruleAll] at C
        have HY := Hid2.mk hg
        clear hg
        by_cases hyB : y < n
        · have hyB' : (y : Int) < (n : Int) := by omega
          have hy10 : (y : Int) < 10 := by omega
          have dlt : decide ((y : Int) < (n : Int)) = true := decide_eq_true hyB'
          have HYB := Hid2.mk hyB
          generalize hE : (fun z => if p x y z = true then some (x, y, z) else none) = E
          have HFy := Hid2.mk (show F y = fstTo E n by rw [← HF.out, ← hE])
          have HE := Hid2.mk hE
          clear hE
          go_wp2_with (first | ((with_reducible apply wpM_lda' M 2 31 0 (sqs n t)); rfl; rfl; rfl; exact ⟨rfl, inf_sqs.trans (congrArg some (sqs_size ..).symm), _, und_sqs, rfl⟩; exact whole_of rfl) | (go_at_call 59; ((with_reducible refine (elements_any _ _ _ (by omega) (by omega)).mono ?_); rintro e w3 ⟨g3, cap_g3, rfl, hb, hg, hr⟩; have hsz := M.size; have M9 := M.gain hb (x := .rd g3 n (fun j => .int .u8 (j : Int))) hr (fun b h => by cases h; exact hg); clear M; (try clear C); have M := M9; clear M9; (try simp only [List.set_cons_zero, List.set_cons_succ] at M); have C := M.ruleAll; simp only [Go.Proofs.YtpmemoabkbmljaaDoor.ruleAll] at C; clear hb hg hr)))
          have M9 : Mm no w w3 [.rd g3 n (fun j => .int .u8 (j : Int)), .rd g2 n (fun j => .int .u8 (j : Int)), .rd g1 n (fun j => .int .u8 (j : Int)), .box bq (sqs n t) 31, .box bo #[v0] 26, .box bp #[.pointer (some ⟨bv, 0, none⟩)] 66, .box bi V 49, .box bv vcs 87] := M
          clear M; (try clear C)
          have M := M9
          clear M9 dlt
          go_loopw [28, 10] (fun i _ wr => ∃ z : Nat, z ≤ n ∧ i = .int .i64 (z : Int) ∧ (∀ j, j < z → E j = none) ∧ Mm no w wr [.rd g3 n (fun j => .int .u8 (j : Int)), .rd g2 n (fun j => .int .u8 (j : Int)), .rd g1 n (fun j => .int .u8 (j : Int)), .box bq (sqs n t) 31, .box bo #[v0] 26, .box bp #[.pointer (some ⟨bv, 0, none⟩)] 66, .box bi V 49, .box bv vcs 87]) (fun i _ _ => n - (intOf i).toNat)
          case atStart => exact ⟨0, by omega, rfl, fun j h => by omega, M⟩
          case round =>
            obtain ⟨z, hz, rfl, hg, M9⟩ := hrel
            clear M; (try clear C)
            have M := M9
            clear M9
            have C := M.ruleAll; simp only [Go.Proofs.YtpmemoabkbmljaaDoor.ruleAll] at C
            have HZ := Hid2.mk hg
            clear hg
            by_cases hzC : z < n
            · have hzC' : (z : Int) < (n : Int) := by omega
              have hz10 : (z : Int) < 10 := by omega
              have HZC := Hid2.mk hzC
              have hEz : E z = if p x y z = true then some (x, y, z) else none := by rw [← HE.out]
              have A1 := HV.out x y z hxA hyB hzC
              cases hp : p x y z with
              | false =>
                have HEz := Hid2.mk (show E z = none by rw [hEz, hp]; rfl)
                rw [hp] at A1
                clear hEz hp
                go_wp2_with (first | (refine wpList_build 69 _ rfl rfl [(0, .int .u8 (x : Int)), (1, .int .u8 (y : Int)), (2, .int .u8 (z : Int))] rfl _ (build_by3 _ _ _) ?_))
                refine (A1 _ (Mm.suffix (Lg := [.rd g3 n (fun j => .int .u8 (j : Int)), .rd g2 n (fun j => .int .u8 (j : Int)), .rd g1 n (fun j => .int .u8 (j : Int)), .box bq (sqs n t) 31]) M).anew M.below).mono ?_
                rintro e w4 ⟨h1, _⟩
                obtain ⟨rfl, hb⟩ := h1 trivial
                have M9 := M.later hb
                clear M; (try clear C)
                have M := M9
                clear M9 hb h1
                go_wp2
                go_roundw
                case rel => exact ⟨z + 1, by omega, by go_num, fun j hj => if e : j = z then e ▸ HEz.out else HZ.out j (by omega), M⟩
                case measure => simp [intOf]; omega
              | true =>
                have HEz := Hid2.mk (show E z = some (x, y, z) by rw [hEz, hp]; rfl)
                have HRES := Hid2.mk (show fstTo G n = some (x, y, z) from fstTo_at HX.out (by rw [HGx.out]; exact fstTo_at HY.out (by rw [HFy.out]; exact fstTo_at HZ.out HEz.out _ HZC.out) _ HYB.out) _ HXA.out)
                rw [hp] at A1
                clear hEz hp
                go_wp2_with (first | (refine wpList_build 69 _ rfl rfl [(0, .int .u8 (x : Int)), (1, .int .u8 (y : Int)), (2, .int .u8 (z : Int))] rfl _ (build_by3 _ _ _) ?_))
                refine (A1 _ (Mm.suffix (Lg := [.rd g3 n (fun j => .int .u8 (j : Int)), .rd g2 n (fun j => .int .u8 (j : Int)), .rd g1 n (fun j => .int .u8 (j : Int)), .box bq (sqs n t) 31]) M).anew M.below).mono ?_
                rintro e w4 ⟨_, h1⟩
                obtain ⟨rfl, g, hg, M'⟩ := h1 trivial
                have HM := Hid2.mk (HMM.out M M')
                have HGG := Hid2.mk (Nat.le_trans M.size hg)
                clear M' h1 hg
                clear M; (try clear C)
                go_wp2
                go_ret
                rw [HRES.out]
                exact ⟨rfl, g, HGG.out, HM.out⟩
            · have hge : ¬ ((z : Int) < (n : Int)) := by omega
              have HFN := Hid2.mk (show F y = none by rw [HFy.out, fstTo_none]; exact fun k hk => HZ.out k (by omega))
              go_wp2
              go_roundw
              case rel => exact ⟨y + 1, by omega, by go_num, fun j hj => if e : j = y then e ▸ HFN.out else HY.out j (by omega), M.drop 0⟩
              case measure => simp [intOf]; omega
        · have hge : ¬ ((y : Int) < (n : Int)) := by omega
          have HGN := Hid2.mk (show G x = none by rw [HGx.out, fstTo_none]; exact fun k hk => HY.out k (by omega))
          go_wp2
          go_roundw
          case rel => exact ⟨x + 1, by omega, by go_num, fun j hj => if e : j = x then e ▸ HGN.out else HX.out j (by omega), M.drop 0⟩
          case measure => simp [intOf]; omega
    · have hge : ¬ ((x : Int) < (n : Int)) := by omega
      have HRES := Hid2.mk (show fstTo G n = none by rw [fstTo_none]; exact fun k hk => HX.out k (by omega))
      go_wp2
      go_ret
      rw [HRES.out]
      exact ⟨rfl, M.below⟩
end Go.Proofs.YtpmemoabkbmljaaDoor

/- The first place where an identity does not hold, for the program: a contract. -/
namespace Go.Proofs.YtpmemoabkbmljaaDoor
set_option linter.unusedSimpArgs false
set_option linter.unusedVariables false
open Go Go.RowKit

theorem zero_sl64 (w : World) : (zeroValue 26).run Tryd.prog w = .ok (.slice none 0 0) w := by kernel_rfl
theorem zero_pvl (w : World) : (zeroValue 66).run Tryd.prog w = .ok (.pointer none) w := by kernel_rfl
/-- What the search hands back. -/
def FailsPost (o : Option (Nat × Nat × Nat)) (w : World) (e : Ending) (w' : World) : Prop :=
  match o with
  | none => e = .returned (.tuple #[.slice none 0 0, .bool false]) ∧ Below w.heap.size w w'
  | some (x, y, z) => ∃ g, e = .returned (.tuple #[.slice (some ⟨g, 0, none⟩) 3 3, .bool true]) ∧ w.heap.size ≤ g ∧ Mm no w w' [.box g (by3I x y z) 2]

set_option maxRecDepth 100000 in
set_option maxHeartbeats 2000000 in
theorem fails_any (n : Nat) (t : Nat → Nat → Nat) (hs : IsSq (n : Int) t) (xs ys : List Nat) (hX : isTm (elB xs) xs.length = true) (hY : isTm (elB ys) ys.length = true) (w : World) (p1 p2 : Option Addr) (c1 c2 : Nat) (r1 : rdq w p1 xs.length (bytF xs)) (r2 : rdq w p2 ys.length (bytF ys)) :
    Calls Tryd.prog 29 #[.agg (sqs n t), .agg (idV p1 c1 p2 c2 xs.length ys.length)] w fun e w' => FailsPost (fst3 (neB t (elB xs) xs.length (elB ys) ys.length) n n n) w e w' := by
  have M := Mm.start no w
  have HN := fun w1 => newValues_any n t hs w1
  have hmf : ∀ (fn : Fn) (first cap : Array Value) (w : World), (Instr.makeFunc fn first cap).run Tryd.prog w = .ok (.func fn first cap) w := fun _ _ _ _ => rfl
  have HP := Hid2.mk (fun vcs bv bp bi bo (hv : VlC n t vcs) w1 (M1 : Mm no w1 w1 (fL (idV p1 c1 p2 c2 xs.length ys.length) vcs bv bp bi bo (.slice none 0 0))) (hb : Below w.heap.size w w1) => places_any n t xs ys (idV p1 c1 p2 c2 xs.length ys.length) vcs bv bp bi bo p1 p2 c1 c2 ⟨hs, hX, hY, hv, rfl⟩ (.slice none 0 0) (fun k => k = bo) rfl w1 M1 (r1.later hb) (r2.later hb))
  generalize fst3 (neB t (elB xs) xs.length (elB ys) ys.length) n n n = o at HP ⊢
  clear hs hX hY r1 r2
  go_enter Tryd.func29, Tryd.ntmps29
  go_wp2_with (first | ((with_reducible apply wpM_box' M 31 (sqs n t)); rfl; exact ⟨rfl, rfl⟩; clear M; (try clear C); intro bq w9 h_bq M; have C := M.ruleAll; simp only [Go.Proofs.YtpmemoabkbmljaaDoor.ruleAll] at C) | ((with_reducible apply wpM_box' M 49 (idV p1 c1 p2 c2 xs.length ys.length)); rfl; exact ⟨rfl, rfl⟩; clear M; (try clear C); intro bi w9 h_bi M; have C := M.ruleAll; simp only [Go.Proofs.YtpmemoabkbmljaaDoor.ruleAll] at C) | ((with_reducible apply wpM_lda' M 1 31 0 (sqs n t)); rfl; rfl; rfl; exact ⟨rfl, inf_sqs.trans (congrArg some (sqs_size ..).symm), _, und_sqs, rfl⟩; exact whole_of rfl) | (go_at_call 46; fail))
  refine (HN _).mono ?_
  rintro e w1 ⟨bv, rfl, hbv, vcs, hv, M'⟩
  have M9 := M.join1 M' (new_box hbv)
  clear M; (try clear C)
  have M := M9
  clear M9 M' HN
  have HV := Hid2.mk hv
  clear hv hbv
  have C := M.ruleAll; simp only [Go.Proofs.YtpmemoabkbmljaaDoor.ruleAll] at C
  go_wp2_with (first | ((with_reducible apply wpM_alloc' M 26 (#[.slice none 0 0])); rfl; exact ⟨rfl, _, zero_sl64 _, rfl⟩; clear M; (try clear C); intro bo w9 h_bo M; have C := M.ruleAll; simp only [Go.Proofs.YtpmemoabkbmljaaDoor.ruleAll] at C) | ((with_reducible apply wpM_alloc' M 66 (#[.pointer none])); rfl; exact ⟨rfl, _, zero_pvl _, rfl⟩; clear M; (try clear C); intro bp w9 h_bp M; have C := M.ruleAll; simp only [Go.Proofs.YtpmemoabkbmljaaDoor.ruleAll] at C) | ((with_reducible apply wpM_st' M 1 26 (0) (#[.slice none 0 0])); rfl; rfl; rfl; (first | exact .inl (by assumption) | exact .inr rfl | exact .inr (by assumption)); exact ⟨rfl, rfl, by kernel_rfl⟩; exact Nat.zero_lt_one; exact rfl; clear M; (try clear C); intro w9 M; simp only [List.set_cons_zero, List.set_cons_succ, entBlk, entT, List.getElem?_cons_zero, List.getElem?_cons_succ] at M; have C := M.ruleAll; simp only [Go.Proofs.YtpmemoabkbmljaaDoor.ruleAll] at C) | ((with_reducible apply wpM_st' M 0 66 (0) (#[.pointer (some ⟨bv, 0, none⟩)])); rfl; rfl; rfl; (first | exact .inl (by assumption) | exact .inr rfl | exact .inr (by assumption)); exact ⟨rfl, rfl, by kernel_rfl⟩; exact Nat.zero_lt_one; exact rfl; clear M; (try clear C); intro w9 M; simp only [List.set_cons_zero, List.set_cons_succ, entBlk, entT, List.getElem?_cons_zero, List.getElem?_cons_succ] at M; have C := M.ruleAll; simp only [Go.Proofs.YtpmemoabkbmljaaDoor.ruleAll] at C) | ((with_reducible apply wpM_lda' M 4 31 0 (sqs n t)); rfl; rfl; rfl; exact ⟨rfl, inf_sqs.trans (congrArg some (sqs_size ..).symm), _, und_sqs, rfl⟩; exact whole_of rfl) | (go_at_call 47; fail))
  have M8 : Mm no w _ (fL (idV p1 c1 p2 c2 xs.length ys.length) vcs bv bp bi bo (.slice none 0 0)) := M.sub [1, 0, 3, 2] (by decide)
  have HR := HP.out vcs bv bp bi bo HV.out _ M8.anew M.below
  refine HR.mono ?_
  rintro e w4 hpost
  clear HR M8
  unfold PlacesPost at hpost
  rcases o with _ | ⟨x, y, z⟩
  · obtain ⟨he, hb⟩ := hpost
    subst he
    have M9 := M.later hb
    clear M; (try clear C)
    have M := M9
    clear M9 hb
    have C := M.ruleAll; simp only [Go.Proofs.YtpmemoabkbmljaaDoor.ruleAll] at C
    go_wp2
    go_ret2
    exact ⟨rfl, M.below⟩
  · obtain ⟨he, g, hg, M'⟩ := hpost
    subst he
    have M9 : Mm no w w4 [.box bo #[.slice (some ⟨g, 0, none⟩) 3 3] 26, .box g (by3I x y z) 2] := ⟨M.kept.trans M'.kept fun k hk (e : k = bo) => by subst e; exact absurd hk (Nat.not_lt.2 h_bo), M'.ents, M'.dist⟩
    have HG := Hid2.mk (Nat.le_trans M.size hg)
    clear M; (try clear C)
    have M := M9
    clear M9 M' hg
    have C := M.ruleAll; simp only [Go.Proofs.YtpmemoabkbmljaaDoor.ruleAll] at C
    go_wp2
    go_ret2
    exact ⟨g, rfl, HG.out, M.drop 0⟩
end Go.Proofs.YtpmemoabkbmljaaDoor

