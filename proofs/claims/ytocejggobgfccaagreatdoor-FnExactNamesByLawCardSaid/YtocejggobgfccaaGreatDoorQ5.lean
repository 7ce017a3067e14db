/- Whether an identity holds at three elements, for the program: a contract. -/
import Derived.Test.YtocejggobgfccaaGreatDoorQ4
import Derived.Shelf.Abstract
import Derived.Test.YtocejggobgfccaaGreatDoorQ3
import Derived.Test.YtocejggobgfccaaGreatDoorQ2
import Derived.Test.YtocejggobgfccaaGreatDoorQ1
import Derived.LaidMore
import Derived.Lay
import Derived.Stop.Joined
import Derived.ArgAppend
namespace Go.Proofs.YtocejggobgfccaaGreatDoor
set_option linter.unusedSimpArgs false
set_option linter.unusedVariables false
open Go Go.RowKit

theorem neB_eq (t : Nat → Nat → Nat) (f : Nat → Nat) (m : Nat) (g : Nat → Nat) (l x y z : Nat) : neB t f m g l x y z = !((evB t x y z f m : Int) == (evB t x y z g l : Int)) := by
  by_cases h : evB t x y z f m = evB t x y z g l
  · rw [neB_false h, h]; simp
  · rw [neB_true h, neI h]; rfl

set_option maxRecDepth 100000 in
set_option maxHeartbeats 2000000 in
theorem holds_any (n : Nat) (t : Nat → Nat → Nat) (hs : IsSq (n : Int) t) (x y z : Nat) (hx : x < n) (hy : y < n) (hz : z < n) (xs ys : List Nat) (hX : isTm (elB xs) xs.length = true) (hY : isTm (elB ys) ys.length = true) (vcs : Array Value) (hv : VlC n t vcs) (bv : Nat)
    (w : World) (p1 p2 : Option Addr) (c1 c2 : Nat) (r1 : rdq w p1 xs.length (bytF xs)) (r2 : rdq w p2 ys.length (bytF ys)) (hb : blk w bv vcs 112) :
    Calls Tryz.prog 64 #[.pointer (some ⟨bv, 0, none⟩), .agg (idV p1 c1 p2 c2 xs.length ys.length), .agg (by3 x y z)] w fun e w' => e = .returned (.bool (!neB t (elB xs) xs.length (elB ys) ys.length x y z)) ∧ Below w.heap.size w w' := by
  have M := Mm.start no w
  have O1 := fun w1 (h : Below w.heap.size w w1) => of_any n t hs x y z (by omega) (by omega) (by omega) xs hX vcs hv bv w1 p1 c1 (r1.later h) (hb.later h)
  have O2 := fun w1 (h : Below w.heap.size w w1) => of_any n t hs x y z (by omega) (by omega) (by omega) ys hY vcs hv bv w1 p2 c2 (r2.later h) (hb.later h)
  have hI1 := idv_0 p1 c1 p2 c2 xs.length ys.length
  have hI2 := idv_1 p1 c1 p2 c2 xs.length ys.length
  rw [neB_eq, Bool.not_not]
  generalize evB t x y z (elB xs) xs.length = v1 at O1
  generalize evB t x y z (elB ys) ys.length = v2 at O2
  clear r1 r2 hb hv hX hY hs
  go_enter Tryz.func64, Tryz.ntmps64
  go_wp2_with (first | ((with_reducible apply wpM_box' M 43 (idV p1 c1 p2 c2 xs.length ys.length)); rfl; exact ⟨rfl, rfl⟩; clear M; (try clear C); intro bi w9 h_bi M; have C := M.ruleAll; simp only [Go.Proofs.YtocejggobgfccaaGreatDoor.ruleAll] at C) | ((with_reducible apply wpM_box' M 97 (by3 x y z)); rfl; exact ⟨rfl, rfl⟩; clear M; (try clear C); intro ba w9 h_ba M; have C := M.ruleAll; simp only [Go.Proofs.YtocejggobgfccaaGreatDoor.ruleAll] at C))
  apply wp_region_mm M 10 (by kernel_rfl) (by kernel_rfl); (simp only [List.take_succ_cons, List.take_zero]; repeat (first | exact wpText_nil | (apply wpText_cons; (intro w2 M; have C := M.ruleAll; simp only [Go.Proofs.YtocejggobgfccaaGreatDoor.ruleAll] at C; go_wp2_with (first | ((with_reducible apply wpM_lda' M 0 97 0 (by3 x y z)); rfl; rfl; rfl; exact ⟨rfl, inf_by3.trans (congrArg some (by3_size ..).symm), _, und_by3, rfl⟩; exact whole_of rfl) | (go_at_call 81; ((with_reducible refine (O1 _ M.below).mono ?_); rintro e w1 ⟨rfl, hb⟩; have hsz := M.size; (try (have G9 := G.later hb; clear G; have G := G9; clear G9)); have M9 := M.later hb; clear M; (try clear C); have M := M9; clear M9; have C := M.ruleAll; simp only [Go.Proofs.YtocejggobgfccaaGreatDoor.ruleAll] at C)) | (go_at_call 81; ((with_reducible refine (O2 _ M.below).mono ?_); rintro e w1 ⟨rfl, hb⟩; have hsz := M.size; (try (have G9 := G.later hb; clear G; have G := G9; clear G9)); have M9 := M.later hb; clear M; (try clear C); have M := M9; clear M9; have C := M.ruleAll; simp only [Go.Proofs.YtocejggobgfccaaGreatDoor.ruleAll] at C))); exact ⟨rfl, rfl, M⟩); rfl))); (clear M; (try clear C); intro w2 M; simp only [List.drop_succ_cons, List.drop_zero]; have C := M.ruleAll; simp only [Go.Proofs.YtocejggobgfccaaGreatDoor.ruleAll] at C)
  go_wp2
  go_ret
  exact ⟨rfl, M.below⟩
end Go.Proofs.YtocejggobgfccaaGreatDoor

/- The search for the first place where an identity does not hold, for the program: contracts. -/
namespace Go.Proofs.YtocejggobgfccaaGreatDoor
set_option linter.unusedSimpArgs false
set_option linter.unusedVariables false
open Go Go.RowKit

theorem Mm.wide {w0 w : World} {L : List Ent} (M : Mm no w0 w L) (D : Nat → Prop) : Mm D w0 w L := ⟨⟨M.kept.os, M.kept.tape, M.kept.output, M.kept.size, fun k h _ => M.kept.block k h id⟩, M.ents, M.dist⟩
/-- The variables that the visitor has: where the values, the identity and the list lie. -/
structure FEnv (n : Nat) (t : Nat → Nat → Nat) (xs ys : List Nat) (V vcs : Array Value) (bv bp bi bo : Nat) (p1 p2 : Option Addr) (c1 c2 : Nat) : Prop where
  sq : IsSq (n : Int) t
  tx : isTm (elB xs) xs.length = true
  ty : isTm (elB ys) ys.length = true
  vl : VlC n t vcs
  hV : V = idV p1 c1 p2 c2 xs.length ys.length
/-- What the visitor's world holds. -/
def fL (V vcs : Array Value) (bv bp bi bo : Nat) (v0 : Value) : List Ent := [.box bo #[v0] 66, .box bp #[.pointer (some ⟨bv, 0, none⟩)] 94, .box bi V 43, .box bv vcs 112]
def by3I (x y z : Nat) : Array Value := #[.int .i64 (x : Int), .int .i64 (y : Int), .int .i64 (z : Int)]

set_option maxRecDepth 100000 in
set_option maxHeartbeats 2000000 in
theorem failsFn_any (n : Nat) (t : Nat → Nat → Nat) (xs ys : List Nat) (V vcs : Array Value) (bv bp bi bo : Nat) (p1 p2 : Option Addr) (c1 c2 : Nat) (F : FEnv n t xs ys V vcs bv bp bi bo p1 p2 c1 c2) (x y z : Nat) (hx : x < n) (hy : y < n) (hz : z < n) (v0 : Value)
    (D : Nat → Prop) (hD : D bo) (w : World) (M0 : Mm no w w (fL V vcs bv bp bi bo v0)) (r1 : rdq w p1 xs.length (bytF xs)) (r2 : rdq w p2 ys.length (bytF ys)) :
    Calls Tryz.prog 63 #[.agg (by3 x y z), .pointer (some ⟨bp, 0, none⟩), .pointer (some ⟨bi, 0, none⟩), .pointer (some ⟨bo, 0, none⟩)] w fun e w' =>
      (neB t (elB xs) xs.length (elB ys) ys.length x y z = false → e = .returned (.bool false) ∧ Below w.heap.size w w') ∧
      (neB t (elB xs) xs.length (elB ys) ys.length x y z = true → e = .returned (.bool true) ∧ ∃ g, w.heap.size ≤ g ∧ Mm D w w' [.box bo #[.slice (some ⟨g, 0, none⟩) 3 3] 66, .box g (by3I x y z) 2]) := by
  obtain ⟨sq, tx, ty, vl, rfl⟩ := F
  have hn2 : n ≤ 10 := by have := sq.hi; omega
  have H := fun w1 (h : Below w.heap.size w w1) => holds_any n t sq x y z hx hy hz xs ys tx ty vcs vl bv w1 p1 p2 c1 c2 (r1.later h) (r2.later h) ((M0.box 3 rfl).later h)
  have M : Mm no w w [.box bo #[v0] 66, .box bp #[.pointer (some ⟨bv, 0, none⟩)] 94, .box bi (idV p1 c1 p2 c2 xs.length ys.length) 43, .box bv vcs 112] := M0
  have hp0 : (#[.pointer (some ⟨bv, 0, none⟩)] : Array Value)[0]? = some (.pointer (some ⟨bv, 0, none⟩)) := rfl
  have ha0 : (by3 x y z)[0]? = some (.int .u8 (x : Int)) := rfl
  have ha1 : (by3 x y z)[1]? = some (.int .u8 (y : Int)) := rfl
  have ha2 : (by3 x y z)[2]? = some (.int .u8 (z : Int)) := rfl
  have hx10 : (x : Int) < 10 := by omega
  have hy10 : (y : Int) < 10 := by omega
  have hz10 : (z : Int) < 10 := by omega
  have HB := Hid2.mk (show ∀ w', Kept no w w' → Below w.heap.size w w' from fun _ h => h.below)
  clear M0 r1 r2 tx ty vl sq
  have C := M.ruleAll; simp only [Go.Proofs.YtocejggobgfccaaGreatDoor.ruleAll] at C
  cases hp : neB t (elB xs) xs.length (elB ys) ys.length x y z with
  | false =>
    rw [hp] at H
    go_enter Tryz.func63, Tryz.ntmps63
    go_wp2_with (first | ((with_reducible apply wpM_box' M 97 (by3 x y z)); rfl; exact ⟨rfl, rfl⟩; clear M; (try clear C); intro ba w9 h_ba M; have C := M.ruleAll; simp only [Go.Proofs.YtocejggobgfccaaGreatDoor.ruleAll] at C) | ((with_reducible apply wpM_lda' M 0 97 0 (by3 x y z)); rfl; rfl; rfl; exact ⟨rfl, inf_by3.trans (congrArg some (by3_size ..).symm), _, und_by3, rfl⟩; exact whole_of rfl) | ((with_reducible apply wpM_lda' M 3 43 0 (idV p1 c1 p2 c2 xs.length ys.length)); rfl; rfl; rfl; exact ⟨rfl, inf_idn.trans (congrArg some (idv_size ..).symm), _, und_idn, rfl⟩; exact whole_of rfl) | (go_at_call 64; fail))
    refine (H _ M.below).mono ?_
    rintro e w1 ⟨rfl, hb⟩
    have M9 := M.later hb
    clear M; (try clear C)
    have M := M9
    clear M9 hb
    have C := M.ruleAll; simp only [Go.Proofs.YtocejggobgfccaaGreatDoor.ruleAll] at C
    go_wp2
    go_ret
    exact ⟨fun _ => ⟨rfl, M.below⟩, fun h => (by cases h)⟩
  | true =>
    rw [hp] at H
    go_enter Tryz.func63, Tryz.ntmps63
    go_wp2_with (first | ((with_reducible apply wpM_box' M 97 (by3 x y z)); rfl; exact ⟨rfl, rfl⟩; clear M; (try clear C); intro ba w9 h_ba M; have C := M.ruleAll; simp only [Go.Proofs.YtocejggobgfccaaGreatDoor.ruleAll] at C) | ((with_reducible apply wpM_lda' M 0 97 0 (by3 x y z)); rfl; rfl; rfl; exact ⟨rfl, inf_by3.trans (congrArg some (by3_size ..).symm), _, und_by3, rfl⟩; exact whole_of rfl) | ((with_reducible apply wpM_lda' M 3 43 0 (idV p1 c1 p2 c2 xs.length ys.length)); rfl; rfl; rfl; exact ⟨rfl, inf_idn.trans (congrArg some (idv_size ..).symm), _, und_idn, rfl⟩; exact whole_of rfl) | (go_at_call 64; fail))
    refine (H _ M.below).mono ?_
    rintro e w1 ⟨rfl, hb⟩
    have M9 := (M.later hb).wide D
    clear M; (try clear C)
    have M := M9
    clear M9 hb
    have C := M.ruleAll; simp only [Go.Proofs.YtocejggobgfccaaGreatDoor.ruleAll] at C
    go_wp2_with (first | ((with_reducible apply wpM_bsl' M 66 3 2 ([(0, .int .i64 (x : Int)), (1, .int .i64 (y : Int)), (2, .int .i64 (z : Int))]) (by3I x y z)); rfl; rfl; rfl; exact bsl_i3 _ _ _; clear M; (try clear C); intro bs w9 h_bs M; have C := M.ruleAll; simp only [Go.Proofs.YtocejggobgfccaaGreatDoor.ruleAll] at C) | ((with_reducible apply wpM_st' M 2 66 (0) (#[.slice (some ⟨bs, 0, none⟩) 3 3])); rfl; rfl; rfl; (first | exact .inl (by assumption) | exact .inr rfl | exact .inr (by assumption)); exact ⟨rfl, rfl, by kernel_rfl⟩; exact Nat.zero_lt_one; exact rfl; clear M; (try clear C); intro w9 M; simp only [List.set_cons_zero, List.set_cons_succ, entBlk, entT, List.getElem?_cons_zero, List.getElem?_cons_succ] at M; have C := M.ruleAll; simp only [Go.Proofs.YtocejggobgfccaaGreatDoor.ruleAll] at C))
    go_ret
    exact ⟨fun h => (by cases h), fun _ => ⟨rfl, bs, h_bs, M.sub [2, 0] (by decide)⟩⟩
end Go.Proofs.YtocejggobgfccaaGreatDoor

/- The visit of all lists of three elements, for the program: a contract. -/
namespace Go.Proofs.YtocejggobgfccaaGreatDoor
set_option linter.unusedSimpArgs false
set_option linter.unusedVariables false
open Go Go.RowKit

theorem build_by3 (x y z : Int) (w : World) : (Instr.build 97 #[(0, .int .u8 x), (1, .int .u8 y), (2, .int .u8 z)]).run Tryz.prog w = .ok (.agg #[.int .u8 x, .int .u8 y, .int .u8 z]) w := by kernel_rfl
/-- What the visit gives. -/
def PlacesPost (o : Option (Nat × Nat × Nat)) (bo : Nat) (D : Nat → Prop) (w : World) (e : Ending) (w' : World) : Prop :=
  match o with
  | none => e = .returned (.bool false) ∧ Below w.heap.size w w'
  | some (x, y, z) => e = .returned (.bool true) ∧ ∃ g, w.heap.size ≤ g ∧ Mm D w w' [.box bo #[.slice (some ⟨g, 0, none⟩) 3 3] 66, .box g (by3I x y z) 2]

set_option maxRecDepth 100000 in
set_option maxHeartbeats 4000000 in
theorem places_any (n : Nat) (t : Nat → Nat → Nat) (xs ys : List Nat) (V vcs : Array Value) (bv bp bi bo : Nat) (p1 p2 : Option Addr) (c1 c2 : Nat) (F : FEnv n t xs ys V vcs bv bp bi bo p1 p2 c1 c2) (v0 : Value)
    (D : Nat → Prop) (hD : D bo) (w : World) (M0 : Mm no w w (fL V vcs bv bp bi bo v0)) (r1 : rdq w p1 xs.length (bytF xs)) (r2 : rdq w p2 ys.length (bytF ys)) :
    Calls Tryz.prog 62 #[.agg (sqs n t), .func (.func 63) #[] #[.pointer (some ⟨bp, 0, none⟩), .pointer (some ⟨bi, 0, none⟩), .pointer (some ⟨bo, 0, none⟩)]] w fun e w' => PlacesPost (fst3 (neB t (elB xs) xs.length (elB ys) ys.length) n n n) bo D w e w' := by
  have hn1 : 1 ≤ n := by have := F.sq.lo; omega
  have hn2 : n ≤ 10 := by have := F.sq.hi; omega
  have hn10 : (n : Int) ≤ 10 := by omega
  have HV := Hid2.mk (fun x y z (hx : x < n) (hy : y < n) (hz : z < n) w1 (M1 : Mm no w1 w1 (fL V vcs bv bp bi bo v0)) (hb : Below w.heap.size w w1) => failsFn_any n t xs ys V vcs bv bp bi bo p1 p2 c1 c2 F x y z hx hy hz v0 D hD w1 M1 (r1.later hb) (r2.later hb))
  have hen := enters_of (P := Tryz.prog) (f := 63) (by exact Tryz.func63) (by kernel_rfl) rfl
  have hmm : ∀ {w1 w2 : World} {L1 L2 : List Ent}, Mm no w w1 L1 → Mm D w1 w2 L2 → Mm D w w2 L2 := fun M M' => ⟨(M.wide D).kept.trans M'.kept fun _ _ h => h, M'.ents, M'.dist⟩
  have HMM := Hid2.mk @hmm
  have M : Mm no w w [.box bo #[v0] 66, .box bp #[.pointer (some ⟨bv, 0, none⟩)] 94, .box bi V 43, .box bv vcs 112] := M0
  generalize neB t (elB xs) xs.length (elB ys) ys.length = p at HV ⊢
  generalize hG : (fun x => fstTo (fun y => fstTo (fun z => if p x y z = true then some (x, y, z) else none) n) n) = G
  have HG := Hid2.mk hG
  have hF3 : fst3 p n n n = fstTo G n := by rw [← hG]; rfl
  rw [hF3]
  clear hF3 hG M0 r1 r2 F hmm
  have C := M.ruleAll; simp only [Go.Proofs.YtocejggobgfccaaGreatDoor.ruleAll] at C
  go_enter Tryz.func62, Tryz.ntmps62
  go_wp2_with (first | ((with_reducible apply wpM_box' M 50 (sqs n t)); rfl; exact ⟨rfl, rfl⟩; clear M; (try clear C); intro bq w9 h_bq M; have C := M.ruleAll; simp only [Go.Proofs.YtocejggobgfccaaGreatDoor.ruleAll] at C) | ((with_reducible apply wpM_lda' M 0 50 0 (sqs n t)); rfl; rfl; rfl; exact ⟨rfl, inf_sqs.trans (congrArg some (sqs_size ..).symm), _, und_sqs, rfl⟩; exact whole_of rfl) | (go_at_call 80; ((with_reducible refine (elements_any _ _ _ (by omega) (by omega)).mono ?_); rintro e w1 ⟨g1, cap_g1, rfl, hb, hg, hr⟩; have hsz := M.size; have M9 := M.gain hb (x := .rd g1 n (fun j => .int .u8 (j : Int))) hr (fun b h => by cases h; exact hg); clear M; (try clear C); have M := M9; clear M9; (try simp only [List.set_cons_zero, List.set_cons_succ] at M); have C := M.ruleAll; simp only [Go.Proofs.YtocejggobgfccaaGreatDoor.ruleAll] at C; clear hb hg hr)))
  go_loopw [14, 6, 8, 10, 21, 28] (fun i _ _ _ _ _ wr => ∃ x : Nat, x ≤ n ∧ i = .int .i64 (x : Int) ∧ (∀ j, j < x → G j = none) ∧ Mm no w wr [.rd g1 n (fun j => .int .u8 (j : Int)), .box bq (sqs n t) 50, .box bo #[v0] 66, .box bp #[.pointer (some ⟨bv, 0, none⟩)] 94, .box bi V 43, .box bv vcs 112]) (fun i _ _ _ _ _ _ => n - (intOf i).toNat)
  case atStart => exact ⟨0, by omega, rfl, fun j h => by omega, M⟩
  case round =>
    obtain ⟨x, hx, rfl, hg, M9⟩ := hrel
    clear M; (try clear C)
    have M := M9
    clear M9
    have C := M.ruleAll; simp only [Go.Proofs.YtocejggobgfccaaGreatDoor.ruleAll] at C
    have HX := Hid2.mk hg
    clear hg
    by_cases hxA : x < n
    · have hxA' : (x : Int) < (n : Int) := by omega
      have hx10 : (x : Int) < 10 := by omega
      have dlt : decide ((x : Int) < (n : Int)) = true := decide_eq_true hxA'
      have HXA := Hid2.mk hxA
      generalize hF : (fun y => fstTo (fun z => if p x y z = true then some (x, y, z) else none) n) = F
      have HGx := Hid2.mk (show G x = fstTo F n by rw [← HG.out, ← hF])
      have HF := Hid2.mk hF
      clear hF
      go_wp2_with (first | ((with_reducible apply wpM_lda' M 1 50 0 (sqs n t)); rfl; rfl; rfl; exact ⟨rfl, inf_sqs.trans (congrArg some (sqs_size ..).symm), _, und_sqs, rfl⟩; exact whole_of rfl) | (go_at_call 80; ((with_reducible refine (elements_any _ _ _ (by omega) (by omega)).mono ?_); rintro e w2 ⟨g2, cap_g2, rfl, hb, hg, hr⟩; have hsz := M.size; have M9 := M.gain hb (x := .rd g2 n (fun j => .int .u8 (j : Int))) hr (fun b h => by cases h; exact hg); clear M; (try clear C); have M := M9; clear M9; (try simp only [List.set_cons_zero, List.set_cons_succ] at M); have C := M.ruleAll; simp only [Go.Proofs.YtocejggobgfccaaGreatDoor.ruleAll] at C; clear hb hg hr)))
      have M9 : Mm no w w2 [.rd g2 n (fun j => .int .u8 (j : Int)), .rd g1 n (fun j => .int .u8 (j : Int)), .box bq (sqs n t) 50, .box bo #[v0] 66, .box bp #[.pointer (some ⟨bv, 0, none⟩)] 94, .box bi V 43, .box bv vcs 112] := M
      clear M; (try clear C)
      have M := M9
      clear M9 dlt
      go_loopw [21, 8, 10, 28] (fun i _ _ _ wr => ∃ y : Nat, y ≤ n ∧ i = .int .i64 (y : Int) ∧ (∀ j, j < y → F j = none) ∧ Mm no w wr [.rd g2 n (fun j => .int .u8 (j : Int)), .rd g1 n (fun j => .int .u8 (j : Int)), .box bq (sqs n t) 50, .box bo #[v0] 66, .box bp #[.pointer (some ⟨bv, 0, none⟩)] 94, .box bi V 43, .box bv vcs 112]) (fun i _ _ _ _ => n - (intOf i).toNat)
      case atStart => exact ⟨0, by omega, rfl, fun j h => by omega, M⟩
      case round =>
        obtain ⟨y, hy, rfl, hg, M9⟩ := hrel
        clear M; (try clear C)
        have M := M9
        clear M9
        have C := M.ruleAll; simp only [Go.Proofs.YtocejggobgfccaaGreatDoor.ruleAll] at C
        have HY := Hid2.mk hg
        clear hg
        by_cases hyB : y < n
        · have hyB' : (y : Int) < (n : Int) := by omega
          have hy10 : (y : Int) < 10 := by omega
          have dlt : decide ((y : Int) < (n : Int)) = true := decide_eq_true hyB'
          have HYB := Hid2.mk hyB
          generalize hE : (fun z => if p x y z = true then some (x, y, z) else none) = E
          have HFy := Hid2.mk (show F y = fstTo E n by rw [← HF.out, ← hE])
          have HE := Hid2.mk hE
          clear hE
          go_wp2_with (first | ((with_reducible apply wpM_lda' M 2 50 0 (sqs n t)); rfl; rfl; rfl; exact ⟨rfl, inf_sqs.trans (congrArg some (sqs_size ..).symm), _, und_sqs, rfl⟩; exact whole_of rfl) | (go_at_call 80; ((with_reducible refine (elements_any _ _ _ (by omega) (by omega)).mono ?_); rintro e w3 ⟨g3, cap_g3, rfl, hb, hg, hr⟩; have hsz := M.size; have M9 := M.gain hb (x := .rd g3 n (fun j => .int .u8 (j : Int))) hr (fun b h => by cases h; exact hg); clear M; (try clear C); have M := M9; clear M9; (try simp only [List.set_cons_zero, List.set_cons_succ] at M); have C := M.ruleAll; simp only [Go.Proofs.YtocejggobgfccaaGreatDoor.ruleAll] at C; clear hb hg hr)))
          have M9 : Mm no w w3 [.rd g3 n (fun j => .int .u8 (j : Int)), .rd g2 n (fun j => .int .u8 (j : Int)), .rd g1 n (fun j => .int .u8 (j : Int)), .box bq (sqs n t) 50, .box bo #[v0] 66, .box bp #[.pointer (some ⟨bv, 0, none⟩)] 94, .box bi V 43, .box bv vcs 112] := M
          clear M; (try clear C)
          have M := M9
          clear M9 dlt
          go_loopw [28, 10] (fun i _ wr => ∃ z : Nat, z ≤ n ∧ i = .int .i64 (z : Int) ∧ (∀ j, j < z → E j = none) ∧ Mm no w wr [.rd g3 n (fun j => .int .u8 (j : Int)), .rd g2 n (fun j => .int .u8 (j : Int)), .rd g1 n (fun j => .int .u8 (j : Int)), .box bq (sqs n t) 50, .box bo #[v0] 66, .box bp #[.pointer (some ⟨bv, 0, none⟩)] 94, .box bi V 43, .box bv vcs 112]) (fun i _ _ => n - (intOf i).toNat)
          case atStart => exact ⟨0, by omega, rfl, fun j h => by omega, M⟩
          case round =>
            obtain ⟨z, hz, rfl, hg, M9⟩ := hrel
            clear M; (try clear C)
            have M := M9
            clear M9
            have C := M.ruleAll; simp only [Go.Proofs.YtocejggobgfccaaGreatDoor.ruleAll] at C
            have HZ := Hid2.mk hg
            clear hg
            by_cases hzC : z < n
            · have hzC' : (z : Int) < (n : Int) := by omega
              have hz10 : (z : Int) < 10 := by omega
              have HZC := Hid2.mk hzC
              have hEz : E z = if p x y z = true then some (x, y, z) else none := by rw [← HE.out]
              have A1 := HV.out x y z hxA hyB hzC
              cases hp : p x y z with
              | false =>
                have HEz := Hid2.mk (show E z = none by rw [hEz, hp]; rfl)
                rw [hp] at A1
                clear hEz hp
                go_wp2_with (first | (refine wpList_build 97 _ rfl rfl [(0, .int .u8 (x : Int)), (1, .int .u8 (y : Int)), (2, .int .u8 (z : Int))] rfl _ (build_by3 _ _ _) ?_))
                refine (A1 _ (Mm.suffix (Lg := [.rd g3 n (fun j => .int .u8 (j : Int)), .rd g2 n (fun j => .int .u8 (j : Int)), .rd g1 n (fun j => .int .u8 (j : Int)), .box bq (sqs n t) 50]) M).anew M.below).mono ?_
                rintro e w4 ⟨h1, _⟩
                obtain ⟨rfl, hb⟩ := h1 trivial
                have M9 := M.later hb
                clear M; (try clear C)
                have M := M9
                clear M9 hb h1
                go_wp2
                go_roundw
                case rel => exact ⟨z + 1, by omega, by go_num, fun j hj => if e : j = z then e ▸ HEz.out else HZ.out j (by omega), M⟩
                case measure => simp [intOf]; omega
              | true =>
                have HEz := Hid2.mk (show E z = some (x, y, z) by rw [hEz, hp]; rfl)
                have HRES := Hid2.mk (show fstTo G n = some (x, y, z) from fstTo_at HX.out (by rw [HGx.out]; exact fstTo_at HY.out (by rw [HFy.out]; exact fstTo_at HZ.out HEz.out _ HZC.out) _ HYB.out) _ HXA.out)
                rw [hp] at A1
                clear hEz hp
                go_wp2_with (first | (refine wpList_build 97 _ rfl rfl [(0, .int .u8 (x : Int)), (1, .int .u8 (y : Int)), (2, .int .u8 (z : Int))] rfl _ (build_by3 _ _ _) ?_))
                refine (A1 _ (Mm.suffix (Lg := [.rd g3 n (fun j => .int .u8 (j : Int)), .rd g2 n (fun j => .int .u8 (j : Int)), .rd g1 n (fun j => .int .u8 (j : Int)), .box bq (sqs n t) 50]) M).anew M.below).mono ?_
                rintro e w4 ⟨_, h1⟩
                obtain ⟨rfl, g, hg, M'⟩ := h1 trivial
                have HM := Hid2.mk (HMM.out M M')
                have HGG := Hid2.mk (Nat.le_trans M.size hg)
                clear M' h1 hg
                clear M; (try clear C)
                go_wp2
                go_ret
                rw [HRES.out]
                exact ⟨rfl, g, HGG.out, HM.out⟩
            · have hge : ¬ ((z : Int) < (n : Int)) := by omega
              have HFN := Hid2.mk (show F y = none by rw [HFy.out, fstTo_none]; exact fun k hk => HZ.out k (by omega))
              go_wp2
              go_roundw
              case rel => exact ⟨y + 1, by omega, by go_num, fun j hj => if e : j = y then e ▸ HFN.out else HY.out j (by omega), M.drop 0⟩
              case measure => simp [intOf]; omega
        · have hge : ¬ ((y : Int) < (n : Int)) := by omega
          have HGN := Hid2.mk (show G x = none by rw [HGx.out, fstTo_none]; exact fun k hk => HY.out k (by omega))
          go_wp2
          go_roundw
          case rel => exact ⟨x + 1, by omega, by go_num, fun j hj => if e : j = x then e ▸ HGN.out else HX.out j (by omega), M.drop 0⟩
          case measure => simp [intOf]; omega
    · have hge : ¬ ((x : Int) < (n : Int)) := by omega
      have HRES := Hid2.mk (show fstTo G n = none by rw [fstTo_none]; exact fun k hk => HX.out k (by omega))
      go_wp2
      go_ret
      rw [HRES.out]
      exact ⟨rfl, M.below⟩
end Go.Proofs.YtocejggobgfccaaGreatDoor

/- The first place where an identity does not hold, for the program: a contract. -/
namespace Go.Proofs.YtocejggobgfccaaGreatDoor
set_option linter.unusedSimpArgs false
set_option linter.unusedVariables false
open Go Go.RowKit

theorem zero_sl64 (w : World) : (zeroValue 66).run Tryz.prog w = .ok (.slice none 0 0) w := by kernel_rfl
theorem zero_pvl (w : World) : (zeroValue 94).run Tryz.prog w = .ok (.pointer none) w := by kernel_rfl
/-- What the search hands back. -/
def FailsPost (o : Option (Nat × Nat × Nat)) (w : World) (e : Ending) (w' : World) : Prop :=
  match o with
  | none => e = .returned (.tuple #[.slice none 0 0, .bool false]) ∧ Below w.heap.size w w'
  | some (x, y, z) => ∃ g, e = .returned (.tuple #[.slice (some ⟨g, 0, none⟩) 3 3, .bool true]) ∧ w.heap.size ≤ g ∧ Mm no w w' [.box g (by3I x y z) 2]

set_option maxRecDepth 100000 in
set_option maxHeartbeats 2000000 in
theorem fails_any (n : Nat) (t : Nat → Nat → Nat) (hs : IsSq (n : Int) t) (xs ys : List Nat) (hX : isTm (elB xs) xs.length = true) (hY : isTm (elB ys) ys.length = true) (w : World) (p1 p2 : Option Addr) (c1 c2 : Nat) (r1 : rdq w p1 xs.length (bytF xs)) (r2 : rdq w p2 ys.length (bytF ys)) :
    Calls Tryz.prog 44 #[.agg (sqs n t), .agg (idV p1 c1 p2 c2 xs.length ys.length)] w fun e w' => FailsPost (fst3 (neB t (elB xs) xs.length (elB ys) ys.length) n n n) w e w' := by
  have M := Mm.start no w
  have HN := fun w1 => newValues_any n t hs w1
  have hmf : ∀ (fn : Fn) (first cap : Array Value) (w : World), (Instr.makeFunc fn first cap).run Tryz.prog w = .ok (.func fn first cap) w := fun _ _ _ _ => rfl
  have HP := Hid2.mk (fun vcs bv bp bi bo (hv : VlC n t vcs) w1 (M1 : Mm no w1 w1 (fL (idV p1 c1 p2 c2 xs.length ys.length) vcs bv bp bi bo (.slice none 0 0))) (hb : Below w.heap.size w w1) => places_any n t xs ys (idV p1 c1 p2 c2 xs.length ys.length) vcs bv bp bi bo p1 p2 c1 c2 ⟨hs, hX, hY, hv, rfl⟩ (.slice none 0 0) (fun k => k = bo) rfl w1 M1 (r1.later hb) (r2.later hb))
  generalize fst3 (neB t (elB xs) xs.length (elB ys) ys.length) n n n = o at HP ⊢
  clear hs hX hY r1 r2
  go_enter Tryz.func44, Tryz.ntmps44
  go_wp2_with (first | ((with_reducible apply wpM_box' M 50 (sqs n t)); rfl; exact ⟨rfl, rfl⟩; clear M; (try clear C); intro bq w9 h_bq M; have C := M.ruleAll; simp only [Go.Proofs.YtocejggobgfccaaGreatDoor.ruleAll] at C) | ((with_reducible apply wpM_box' M 43 (idV p1 c1 p2 c2 xs.length ys.length)); rfl; exact ⟨rfl, rfl⟩; clear M; (try clear C); intro bi w9 h_bi M; have C := M.ruleAll; simp only [Go.Proofs.YtocejggobgfccaaGreatDoor.ruleAll] at C) | ((with_reducible apply wpM_lda' M 1 50 0 (sqs n t)); rfl; rfl; rfl; exact ⟨rfl, inf_sqs.trans (congrArg some (sqs_size ..).symm), _, und_sqs, rfl⟩; exact whole_of rfl) | (go_at_call 61; fail))
  refine (HN _).mono ?_
  rintro e w1 ⟨bv, rfl, hbv, vcs, hv, M'⟩
  have M9 := M.join1 M' (new_box hbv)
  clear M; (try clear C)
  have M := M9
  clear M9 M' HN
  have HV := Hid2.mk hv
  clear hv hbv
  have C := M.ruleAll; simp only [Go.Proofs.YtocejggobgfccaaGreatDoor.ruleAll] at C
  go_wp2_with (first | ((with_reducible apply wpM_alloc' M 66 (#[.slice none 0 0])); rfl; exact ⟨rfl, _, zero_sl64 _, rfl⟩; clear M; (try clear C); intro bo w9 h_bo M; have C := M.ruleAll; simp only [Go.Proofs.YtocejggobgfccaaGreatDoor.ruleAll] at C) | ((with_reducible apply wpM_alloc' M 94 (#[.pointer none])); rfl; exact ⟨rfl, _, zero_pvl _, rfl⟩; clear M; (try clear C); intro bp w9 h_bp M; have C := M.ruleAll; simp only [Go.Proofs.YtocejggobgfccaaGreatDoor.ruleAll] at C) | ((with_reducible apply wpM_st' M 1 66 (0) (#[.slice none 0 0])); rfl; rfl; rfl; (first | exact .inl (by assumption) | exact .inr rfl | exact .inr (by assumption)); exact ⟨rfl, rfl, by kernel_rfl⟩; exact Nat.zero_lt_one; exact rfl; clear M; (try clear C); intro w9 M; simp only [List.set_cons_zero, List.set_cons_succ, entBlk, entT, List.getElem?_cons_zero, List.getElem?_cons_succ] at M; have C := M.ruleAll; simp only [Go.Proofs.YtocejggobgfccaaGreatDoor.ruleAll] at C) | ((with_reducible apply wpM_st' M 0 94 (0) (#[.pointer (some ⟨bv, 0, none⟩)])); rfl; rfl; rfl; (first | exact .inl (by assumption) | exact .inr rfl | exact .inr (by assumption)); exact ⟨rfl, rfl, by kernel_rfl⟩; exact Nat.zero_lt_one; exact rfl; clear M; (try clear C); intro w9 M; simp only [List.set_cons_zero, List.set_cons_succ, entBlk, entT, List.getElem?_cons_zero, List.getElem?_cons_succ] at M; have C := M.ruleAll; simp only [Go.Proofs.YtocejggobgfccaaGreatDoor.ruleAll] at C) | ((with_reducible apply wpM_lda' M 4 50 0 (sqs n t)); rfl; rfl; rfl; exact ⟨rfl, inf_sqs.trans (congrArg some (sqs_size ..).symm), _, und_sqs, rfl⟩; exact whole_of rfl) | (go_at_call 62; fail))
  have M8 : Mm no w _ (fL (idV p1 c1 p2 c2 xs.length ys.length) vcs bv bp bi bo (.slice none 0 0)) := M.sub [1, 0, 3, 2] (by decide)
  have HR := HP.out vcs bv bp bi bo HV.out _ M8.anew M.below
  refine HR.mono ?_
  rintro e w4 hpost
  clear HR M8
  unfold PlacesPost at hpost
  rcases o with _ | ⟨x, y, z⟩
  · obtain ⟨he, hb⟩ := hpost
    subst he
    have M9 := M.later hb
    clear M; (try clear C)
    have M := M9
    clear M9 hb
    have C := M.ruleAll; simp only [Go.Proofs.YtocejggobgfccaaGreatDoor.ruleAll] at C
    go_wp2
    go_ret2
    exact ⟨rfl, M.below⟩
  · obtain ⟨he, g, hg, M'⟩ := hpost
    subst he
    have M9 : Mm no w w4 [.box bo #[.slice (some ⟨g, 0, none⟩) 3 3] 66, .box g (by3I x y z) 2] := ⟨M.kept.trans M'.kept fun k hk (e : k = bo) => by subst e; exact absurd hk (Nat.not_lt.2 h_bo), M'.ents, M'.dist⟩
    have HG := Hid2.mk (Nat.le_trans M.size hg)
    clear M; (try clear C)
    have M := M9
    clear M9 M' hg
    have C := M.ruleAll; simp only [Go.Proofs.YtocejggobgfccaaGreatDoor.ruleAll] at C
    go_wp2
    go_ret2
    exact ⟨g, rfl, HG.out, M.drop 0⟩
end Go.Proofs.YtocejggobgfccaaGreatDoor

/- Which of some texts of identities hold everywhere, on both sides: contracts. -/
namespace Go.Proofs.YtocejggobgfccaaGreatDoor
set_option linter.unusedSimpArgs false
set_option linter.unusedVariables false
open Go Go.RowKit

noncomputable def holdsB (n : Nat) (t : Nat → Nat → Nat) (xs ys : List Nat) : Bool := (fst3 (neB t (elB xs) xs.length (elB ys) ys.length) n n n).isNone
set_option maxRecDepth 100000 in
set_option maxHeartbeats 1000000 in
theorem l03Holds_any (n : Nat) (t : Nat → Nat → Nat) (hs : IsSq (n : Int) t) (xs ys : List Nat) (hX : isTm (elB xs) xs.length = true) (hY : isTm (elB ys) ys.length = true) (w : World) (p1 p2 : Option Addr) (c1 c2 : Nat) (r1 : rdq w p1 xs.length (bytF xs)) (r2 : rdq w p2 ys.length (bytF ys)) :
    Calls Tryz.prog 18 #[.agg (sqs n t), .agg (idV p1 c1 p2 c2 xs.length ys.length)] w fun e w' => e = .returned (.bool (holdsB n t xs ys)) ∧ Below w.heap.size w w' := by
  have M := Mm.start no w
  have HF := fun w1 (hb : Below w.heap.size w w1) => l03Fails_any n t hs xs ys hX hY w1 p1 p2 c1 c2 (r1.later hb) (r2.later hb)
  have HH := Hid2.mk (show holdsB n t xs ys = (fst3 (neB t (elB xs) xs.length (elB ys) ys.length) n n n).isNone from rfl)
  generalize holdsB n t xs ys = b at HH ⊢
  generalize fst3 (neB t (elB xs) xs.length (elB ys) ys.length) n n n = o at HF HH
  clear hs hX hY r1 r2
  rcases o with _ | ⟨x, y, z⟩
  · have hb : b = true := HH.out
    subst hb
    go_enter Tryz.func18, Tryz.ntmps18
    go_wp2_with (first | ((with_reducible apply wpM_box' M 43 (idV p1 c1 p2 c2 xs.length ys.length)); rfl; exact ⟨rfl, rfl⟩; clear M; (try clear C); intro bi w9 h_bi M; have C := M.ruleAll; simp only [Go.Proofs.YtocejggobgfccaaGreatDoor.ruleAll] at C) | ((with_reducible apply wpM_box' M 50 (sqs (n : Int) t)); rfl; exact ⟨rfl, rfl⟩; clear M; (try clear C); intro bq w9 h_bq M; have C := M.ruleAll; simp only [Go.Proofs.YtocejggobgfccaaGreatDoor.ruleAll] at C) | ((with_reducible apply wpM_lda' M 1 50 0 (sqs (n : Int) t)); rfl; rfl; rfl; exact ⟨rfl, inf_sqs.trans (congrArg some (sqs_size ..).symm), _, und_sqs, rfl⟩; exact whole_of rfl) | ((with_reducible apply wpM_lda' M 0 43 0 (idV p1 c1 p2 c2 xs.length ys.length)); rfl; rfl; rfl; exact ⟨rfl, inf_idn.trans (congrArg some (idv_size ..).symm), _, und_idn, rfl⟩; exact whole_of rfl) | (go_at_call 34; ((with_reducible refine (HF _ M.below).mono ?_); rintro e w1 ⟨rfl, hb⟩; have hsz := M.size; (try (have G9 := G.later hb; clear G; have G := G9; clear G9)); have M9 := M.later hb; clear M; (try clear C); have M := M9; clear M9; have C := M.ruleAll; simp only [Go.Proofs.YtocejggobgfccaaGreatDoor.ruleAll] at C)))
    go_ret
    exact ⟨rfl, M.below⟩
  · have hb : b = false := HH.out
    subst hb
    go_enter Tryz.func18, Tryz.ntmps18
    go_wp2_with (first | ((with_reducible apply wpM_box' M 43 (idV p1 c1 p2 c2 xs.length ys.length)); rfl; exact ⟨rfl, rfl⟩; clear M; (try clear C); intro bi w9 h_bi M; have C := M.ruleAll; simp only [Go.Proofs.YtocejggobgfccaaGreatDoor.ruleAll] at C) | ((with_reducible apply wpM_box' M 50 (sqs (n : Int) t)); rfl; exact ⟨rfl, rfl⟩; clear M; (try clear C); intro bq w9 h_bq M; have C := M.ruleAll; simp only [Go.Proofs.YtocejggobgfccaaGreatDoor.ruleAll] at C) | ((with_reducible apply wpM_lda' M 1 50 0 (sqs (n : Int) t)); rfl; rfl; rfl; exact ⟨rfl, inf_sqs.trans (congrArg some (sqs_size ..).symm), _, und_sqs, rfl⟩; exact whole_of rfl) | ((with_reducible apply wpM_lda' M 0 43 0 (idV p1 c1 p2 c2 xs.length ys.length)); rfl; rfl; rfl; exact ⟨rfl, inf_idn.trans (congrArg some (idv_size ..).symm), _, und_idn, rfl⟩; exact whole_of rfl) | (go_at_call 34; fail))
    refine (HF _ M.below).mono ?_
    rintro e w4 ⟨g, rfl, hg, M'⟩
    have M9 := M.later M'.below
    clear M; (try clear C)
    have M := M9
    clear M9 M' hg
    go_wp2
    go_ret
    exact ⟨rfl, M.below⟩

/-- What is known of one text: no identity, or whether it holds. -/
noncomputable def laAt (n : Nat) (t : Nat → Nat → Nat) (l : List Nat) : Option Bool := match rdI l with | none => none | some (xs, ys) => some (holdsB n t xs ys)
noncomputable def laTo (at_ : Nat → Option Bool) : Nat → Option (List Int)
  | 0 => some []
  | k + 1 => match laTo at_ k with
    | none => none
    | some out => match at_ k with | none => none | some b => some (if b = true then out ++ [(k : Int)] else out)
theorem laTo_none {f : Nat → Option Bool} {k : Nat} (h : laTo f k = none) : ∀ m, k ≤ m → laTo f m = none := by
  intro m hm
  induction m with
  | zero => obtain rfl : k = 0 := by omega
            exact h
  | succ m ih =>
    by_cases e : k = m + 1
    · subst e; exact h
    · rw [laTo, ih (by omega)]
theorem laTo_len {f : Nat → Option Bool} : ∀ {k : Nat} {out : List Int}, laTo f k = some out → out.length ≤ k
  | 0, out, h => by cases h; exact Nat.le_refl _
  | k + 1, out, h => by
    rw [laTo] at h
    split at h
    · cases h
    · rename_i o ho
      have := laTo_len ho
      split at h
      · cases h
      · cases h
        split
        · simp only [List.length_append, List.length_singleton]; omega
        · omega
noncomputable def laRes (n : Int) (t : Nat → Nat → Nat) (ls : List (List Nat)) : List Int × Int :=
  if isSq n t = true then (if 30 < ls.length then ([], 2) else match laTo (fun k => laAt n.toNat t (ls.getD k [])) ls.length with | none => ([], 6) | some out => (out, 0)) else ([], 1)
/-- Texts as cells. -/
def txF (ls : List (List Nat)) (j : Nat) : Value := .string (str (ls.getD j []))
theorem bsl_i640 (w : World) : (Instr.buildSlice 66 0 [].toArray).run Tryz.prog w = .ok (.slice (some ⟨w.heap.size, 0, none⟩) 0 0) (w.alloc (.cells #[] 2)) := by kernel_rfl
theorem bsl_i641 (x : Int) (w : World) : (Instr.buildSlice 66 1 [(0, Value.int .i64 x)].toArray).run Tryz.prog w = .ok (.slice (some ⟨w.heap.size, 0, none⟩) 1 1) (w.alloc (.cells #[.int .i64 x] 2)) := by kernel_rfl
theorem flat_i1 (x : Int) : flat #[.int .i64 x] := fun u hu => by
  have : u = .int .i64 x := by simpa using hu
  subst this; rfl

end Go.Proofs.YtocejggobgfccaaGreatDoor

/- The program's check of loops: a contract. -/
namespace Go.Proofs.YtocejggobgfccaaGreatDoor
set_option linter.unusedSimpArgs false
set_option linter.unusedVariables false
open Go.RowKit

theorem unit_isLp {n : Int} {t : Nat → Nat → Nat} (h : IsSq n t) : isLp n t = unitB n t 0 := by
  cases hu : unitB n t 0 with
  | true =>
    have := unitB_true.1 hu
    exact isLp_true.2 ⟨h, fun x _ hx => (this x hx).1, fun x _ hx => (this x hx).2⟩
  | false =>
    refine isLp_false.2 fun hl => unitB_false.1 hu fun x hx => ?_
    have := h.hi
    exact ⟨hl.left x (by omega) hx, hl.right x (by omega) hx⟩

set_option maxRecDepth 100000 in
set_option maxHeartbeats 1000000 in
theorem isLoop_any (n : Int) (t : Nat → Nat → Nat) (w : World) (hby : Byt2 t) :
    Calls Tryz.prog 55 #[.agg (sqs n t)] w fun e w' => e = .returned (.bool (isLp n t)) ∧ Below w.heap.size w w' := by
  have b1 := blk_new w (sqs n t) 50 w.heap.size rfl
  have hB : Below w.heap.size w (w.alloc (.cells (sqs n t) 50)) := (Below.refl _ _).alloc (by simp) _
  cases hs : isSq n t with
  | false =>
    have hF : isLp n t = false := isLp_false.2 fun h => by have := isSq_true.2 h.sq; rw [hs] at this; cases this
    go_enter Tryz.func55, Tryz.ntmps55
    go_wp2_with (first | (refine wpList_load_part rfl 50 _ rfl _ _ rfl (sqs n t) _ und_sqs rfl inf_sqs (cells_of_blk0 b1) ?_) | (go_at_call 76; ((with_reducible refine (isSquare_any _ _ _ hby).mono ?_); rintro e w1 ⟨rfl, hb⟩)))
    go_ret
    exact ⟨by first | rfl | exact ret_b hF, below_self hB hb⟩
  | true =>
    have hsq := isSq_true.1 hs
    have hL := unit_isLp hsq
    go_enter Tryz.func55, Tryz.ntmps55
    go_wp2_with (first | (refine wpList_load_part rfl 50 _ rfl _ _ rfl (sqs n t) _ und_sqs rfl inf_sqs (cells_of_blk0 b1) ?_) | (go_at_call 76; ((with_reducible refine (isSquare_any _ _ _ hby).mono ?_); rintro e w1 ⟨rfl, hb⟩; have b2 := b1.later hb)) | (refine wpList_load_part_g 50 _ rfl rfl _ _ rfl (sqs n t) _ und_sqs rfl inf_sqs (cells_of_blk0 b2) ?_) | (go_at_call 77; refine (isUnit_any n t 0 _ hsq.lo hsq.hi (by omega) hby).mono ?_; rintro e w2 ⟨rfl, hb2⟩))
    go_ret
    exact ⟨by first | rfl | exact ret_b hL, below_self (below_self hB hb) hb2⟩
end Go.Proofs.YtocejggobgfccaaGreatDoor

/- The reference's check of loops: a contract. -/
namespace Go.Proofs.YtocejggobgfccaaGreatDoor
set_option linter.unusedSimpArgs false
set_option linter.unusedVariables false
open Go.RowKit

set_option maxRecDepth 100000 in
set_option maxHeartbeats 1000000 in
theorem l01Loop_any (n : Int) (t : Nat → Nat → Nat) (w : World) (hby : Byt2 t) :
    Calls Tryz.prog 29 #[.agg (sqs n t)] w fun e w' => e = .returned (.bool (isLp n t)) ∧ Below w.heap.size w w' := by
  have b1 := blk_new w (sqs n t) 50 w.heap.size rfl
  have hB : Below w.heap.size w (w.alloc (.cells (sqs n t) 50)) := (Below.refl _ _).alloc (by simp) _
  cases hs : isSq n t with
  | false =>
    have hF : isLp n t = false := isLp_false.2 fun h => by have := isSq_true.2 h.sq; rw [hs] at this; cases this
    go_enter Tryz.func29, Tryz.ntmps29
    go_wp2_with (first | (refine wpList_load_part rfl 50 _ rfl _ _ rfl (sqs n t) _ und_sqs rfl inf_sqs (cells_of_blk0 b1) ?_) | (go_at_call 47; ((with_reducible refine (l01Is_any _ _ _ hby).mono ?_); rintro e w1 ⟨rfl, hb⟩)))
    go_ret
    exact ⟨by first | rfl | exact ret_b hF, below_self hB hb⟩
  | true =>
    have hsq := isSq_true.1 hs
    have hn1 := hsq.lo
    have hn2 := hsq.hi
    go_enter Tryz.func29, Tryz.ntmps29
    go_wp2_with (first | (refine wpList_load_part rfl 50 _ rfl _ _ rfl (sqs n t) _ und_sqs rfl inf_sqs (cells_of_blk0 b1) ?_) | (go_at_call 47; ((with_reducible refine (l01Is_any _ _ _ hby).mono ?_); rintro e w1 ⟨rfl, hb⟩)))
    go_loopw [2, 3] (fun _ i wr => ∃ k : Nat, (k : Int) ≤ n ∧ i = .int .i64 k ∧ Below w.heap.size w wr ∧ blk wr w.heap.size (sqs n t) 50 ∧
      ∀ x : Nat, x < k → t 0 x = x ∧ t x 0 = x) (fun _ i _ => (10 - intOf i).toNat)
    case atStart => exact ⟨0, by omega, rfl, below_self hB hb, b1.later hb, fun _ h => absurd h (by omega)⟩
    case round =>
      obtain ⟨k, hk, rfl, hB2, b2, hr⟩ := hrel
      have HR := Hid2.mk hr
      clear hr
      have c0 := b2.cell 0 _ (sqs_order n t)
      by_cases hlt : (k : Int) < n
      · have c1 := b2.cell _ _ (sqs_get_first (n := n) (t := t) (y := k) (by omega))
        have c2 := b2.cell _ _ (sqs_get_head (n := n) (t := t) (x := k) (by omega))
        by_cases h1 : t 0 k = k
        · by_cases h2 : t k 0 = k
          · go_wp2
            go_roundw
            case rel =>
              refine ⟨k + 1, by omega, by go_num, hB2, b2, fun x hx => ?_⟩
              by_cases h : x = k
              · subst h; exact ⟨h1, h2⟩
              · exact HR.out x (by omega)
            case measure => simp [intOf]; omega
          · have hF : isLp n t = false := isLp_false.2 fun h => h2 (h.right k (by omega) hlt)
            go_wp2
            go_ret
            exact ⟨by first | rfl | exact ret_b hF, hB2⟩
        · have hF : isLp n t = false := isLp_false.2 fun h => h1 (h.left k (by omega) hlt)
          go_wp2
          go_ret
          exact ⟨by first | rfl | exact ret_b hF, hB2⟩
      · have hT : isLp n t = true := isLp_true.2 ⟨hsq, fun x _ hx => (HR.out x (by omega)).1, fun x _ hx => (HR.out x (by omega)).2⟩
        go_wp2
        go_ret
        exact ⟨by first | rfl | exact ret_b hT, hB2⟩

end Go.Proofs.YtocejggobgfccaaGreatDoor

/- The texts of the laws, and the laws; contracts. -/
namespace Go.Proofs.YtocejggobgfccaaGreatDoor
set_option linter.unusedSimpArgs false
set_option linter.unusedVariables false
open Go Go.RowKit

/-- The texts of the laws. -/
def lawL : List (List Nat) := [[40, 101, 47, 120, 41, 42, 40, 120, 42, 121, 41, 61, 121],
  [40, 121, 42, 120, 41, 42, 40, 120, 92, 101, 41, 61, 121],
  [40, 120, 42, 121, 41, 92, 101, 61, 40, 120, 92, 101, 41, 42, 40, 121, 92, 101, 41],
  [40, 120, 42, 121, 41, 92, 101, 61, 40, 121, 92, 101, 41, 42, 40, 120, 92, 101, 41],
  [120, 42, 40, 40, 121, 42, 120, 41, 92, 101, 41, 61, 121, 92, 101],
  [40, 120, 42, 121, 41, 42, 40, 120, 92, 101, 41, 61, 121],
  [120, 42, 40, 121, 42, 120, 41, 61, 40, 120, 42, 121, 41, 42, 120],
  [120, 42, 40, 120, 42, 121, 41, 61, 40, 120, 42, 120, 41, 42, 121],
  [40, 121, 42, 120, 41, 42, 120, 61, 121, 42, 40, 120, 42, 120, 41],
  [120, 42, 40, 121, 42, 40, 120, 42, 122, 41, 41, 61, 40, 120, 42, 40, 121, 42, 120, 41, 41, 42, 122],
  [40, 40, 122, 42, 120, 41, 42, 121, 41, 42, 120, 61, 122, 42, 40, 40, 120, 42, 121, 41, 42, 120, 41],
  [40, 120, 42, 121, 41, 42, 40, 122, 42, 120, 41, 61, 40, 120, 42, 40, 121, 42, 122, 41, 41, 42, 120],
  [120, 42, 40, 121, 42, 40, 122, 42, 120, 41, 41, 61, 40, 40, 120, 42, 121, 41, 42, 122, 41, 42, 120],
  [120, 42, 40, 121, 42, 40, 121, 42, 122, 41, 41, 61, 40, 40, 120, 42, 121, 41, 42, 121, 41, 42, 122],
  [120, 42, 40, 121, 42, 122, 41, 61, 40, 40, 120, 42, 121, 41, 47, 120, 41, 42, 40, 120, 42, 122, 41],
  [40, 120, 42, 121, 41, 42, 122, 61, 40, 120, 42, 122, 41, 42, 40, 122, 92, 40, 121, 42, 122, 41, 41],
  [120, 42, 121, 61, 121, 42, 120],
  [40, 120, 42, 121, 41, 42, 122, 61, 120, 42, 40, 121, 42, 122, 41],
  [120, 42, 120, 61, 101],
  [120, 42, 40, 121, 42, 120, 41, 61, 121]]
def lawT (k : Nat) : List Nat := lawL.getD k []
theorem lawT_ok : ∀ k, k < 20 → (lawT k).length ≤ 100 ∧ Byts (lawT k) := by
  unfold Byts
  decide +kernel
theorem lawT_rd : ∀ k, k < 20 → (rdI (lawT k)).isSome = true := by decide +kernel
/-- A law. -/
def lawI (k : Nat) : List Nat × List Nat := (rdI (lawT k)).getD ([], [])
theorem lawI_rd {k : Nat} (h : k < 20) : rdI (lawT k) = some (lawI k) := by
  have := lawT_rd k h
  unfold lawI
  revert this
  rcases rdI (lawT k) with _ | x
  · intro h; cases h
  · intro _; rfl
theorem lawI_tm {k : Nat} (h : k < 20) : isTm (elB (lawI k).1) (lawI k).1.length = true ∧ isTm (elB (lawI k).2) (lawI k).2.length = true :=
  isId_iff.1 (rdI_iff.1 (lawI_rd h)).1
/-- The package's texts, as they are laid. -/
def glb (w : World) : Prop := ∀ k, k < 20 → w.cell? ⟨0, k, none⟩ = some (.string (str (lawT k)))
theorem glb.later {w w' : World} (h : glb w) (hb : Below w.heap.size w w') : glb w' := fun k hk => by
  have hlt : 0 < w.heap.size := World.block_lt_of_cell? w ⟨0, k, none⟩ (h k hk)
  rw [hb.cell (p := ⟨0, k, none⟩) hlt]; exact h k hk
/-- An identity handed back, its sides in new memory. -/
def LawPost (xs ys : List Nat) (w : World) (e : Ending) (w' : World) : Prop :=
  ∃ p1 c1 p2 c2, e = .returned (.agg (idV p1 c1 p2 c2 xs.length ys.length)) ∧ Mm no w w' [.row w.heap.size (.slice p1 xs.length c1) xs.length (u8s xs) 5 1, .row w.heap.size (.slice p2 ys.length c2) ys.length (u8s ys) 5 1]
theorem Mm.weakRows {D : Nat → Prop} {w0 w : World} {L : List Ent} {B1 B2 B : Nat} {v1 v2 : Value} {n1 n2 : Nat} {xs1 xs2 : List Value} {e1 e2 s1 s2 : Nat} (M : Mm D w0 w (.row B1 v1 n1 xs1 e1 s1 :: .row B2 v2 n2 xs2 e2 s2 :: L)) (h1 : B ≤ B1) (h2 : B ≤ B2) : Mm D w0 w (.row B v1 n1 xs1 e1 s1 :: .row B v2 n2 xs2 e2 s2 :: L) :=
  (M.set 0 rfl (y := .row B v1 n1 xs1 e1 s1) (.refl no w) (fun _ h => h.elim) (fun _ _ h => h.elim) (ownsRow_weak (M.row 0 rfl) h1) fun k h => .inl h).set 1 rfl (y := .row B v2 n2 xs2 e2 s2) (.refl no w) (fun _ h => h.elim) (fun _ _ h => h.elim) (ownsRow_weak (M.row 1 rfl) h2) fun k h => .inl h

set_option maxRecDepth 100000 in
set_option maxHeartbeats 2000000 in
theorem law_any (k : Nat) (hk : k < 20) (w : World) (hg : glb w) : Calls Tryz.prog 45 #[.int .i64 (k : Int)] w (LawPost (lawI k).1 (lawI k).2 w) := by
  have M := Mm.start no w
  have HG := Hid2.mk (fun w1 (hb : Below w.heap.size w w1) => (hg.later hb) k hk)
  have HP := Hid2.mk (fun w1 => parseIdentity_any (lawT k) (Nat.le_trans (lawT_ok k hk).1 (by decide)) (lawT_ok k hk).2 w1)
  rw [lawI_rd hk] at HP
  generalize str (lawT k) = s at HG HP
  generalize lawI k = r at HP ⊢
  obtain ⟨xs, ys⟩ := r
  simp only at HP ⊢
  have hk2 : (k : Int) < 20 := by omega
  have hc := HG.out _ M.below
  clear hg
  go_enter Tryz.func45, Tryz.ntmps45
  go_wp2_with (first | (((with_reducible apply wpM_alloc' M 43 (idV none 0 none 0 0 0)); rfl; exact ⟨rfl, _, zero_idn _, rfl⟩; clear M; (try clear C); intro bz w9 h_bz M; have C := M.ruleAll; simp only [Go.Proofs.YtocejggobgfccaaGreatDoor.ruleAll] at C); have hc := HG.out _ M.below) | (go_at_call 65; fail))
  refine (HP.out _).mono ?_
  rintro e w1 ⟨p1, c1, p2, c2, rfl, M'⟩
  have M9 := (M.joinRows M').weakRows M.size M.size
  clear M; (try clear C)
  have M := M9
  clear M9 M' hc
  have C := M.ruleAll; simp only [Go.Proofs.YtocejggobgfccaaGreatDoor.ruleAll] at C
  go_wp2_with (first | ((with_reducible apply wpM_alloc' M 43 (idV none 0 none 0 0 0)); rfl; exact ⟨rfl, _, zero_idn _, rfl⟩; clear M; (try clear C); intro bi w9 h_bi M; have C := M.ruleAll; simp only [Go.Proofs.YtocejggobgfccaaGreatDoor.ruleAll] at C) | ((with_reducible apply wpM_sta' M 0 43 (idV p1 c1 p2 c2 xs.length ys.length)); rfl; rfl; rfl; rfl; (first | exact .inl (by assumption) | exact .inr rfl | exact .inr (by assumption)); exact ⟨rfl, inf_idn.trans (congrArg some (idv_size ..).symm), flat_idv _ _ _ _ _ _⟩; (simp only [entCells, List.getElem?_cons_zero, List.getElem?_cons_succ, idv_size, idv_size]); clear M; (try clear C); intro w9 M; simp only [List.set_cons_zero, List.set_cons_succ, entBlk, entT, List.getElem?_cons_zero, List.getElem?_cons_succ] at M; have C := M.ruleAll; simp only [Go.Proofs.YtocejggobgfccaaGreatDoor.ruleAll] at C) | ((with_reducible apply wpM_lda' M 0 43 0 (idV p1 c1 p2 c2 xs.length ys.length)); rfl; rfl; rfl; exact ⟨rfl, inf_idn.trans (congrArg some (idv_size ..).symm), _, und_idn, rfl⟩; exact whole_of rfl) | ((with_reducible apply wpM_sta' M 3 43 (idV p1 c1 p2 c2 xs.length ys.length)); rfl; rfl; rfl; rfl; (first | exact .inl (by assumption) | exact .inr rfl | exact .inr (by assumption)); exact ⟨rfl, inf_idn.trans (congrArg some (idv_size ..).symm), flat_idv _ _ _ _ _ _⟩; (simp only [entCells, List.getElem?_cons_zero, List.getElem?_cons_succ, idv_size, idv_size]); clear M; (try clear C); intro w9 M; simp only [List.set_cons_zero, List.set_cons_succ, entBlk, entT, List.getElem?_cons_zero, List.getElem?_cons_succ] at M; have C := M.ruleAll; simp only [Go.Proofs.YtocejggobgfccaaGreatDoor.ruleAll] at C))
  refine bodyPost_ret (v := .agg (idV p1 c1 p2 c2 xs.length ys.length)) (by exact results_part rfl _ _ _ _ _ _ rfl und_idn rfl inf_idn (cells_of_blk0 (M.box 3 rfl))) rfl ?_
  exact ⟨p1, c1, p2, c2, rfl, by
    have M9 := M.sub [1, 2] (by decide)
    simp only [List.filterMap_cons, List.filterMap_nil, List.getElem?_cons_succ, List.getElem?_cons_zero] at M9
    exact M9⟩

/-- The reference's texts in a new slice. -/
def lawV : List (Nat × Value) := [(0, .string ⟨#[40, 101, 47, 120, 41, 42, 40, 120, 42, 121, 41, 61, 121]⟩), (1, .string ⟨#[40, 121, 42, 120, 41, 42, 40, 120, 92, 101, 41, 61, 121]⟩), (2, .string ⟨#[40, 120, 42, 121, 41, 92, 101, 61, 40, 120, 92, 101, 41, 42, 40, 121, 92, 101, 41]⟩), (3, .string ⟨#[40, 120, 42, 121, 41, 92, 101, 61, 40, 121, 92, 101, 41, 42, 40, 120, 92, 101, 41]⟩), (4, .string ⟨#[120, 42, 40, 40, 121, 42, 120, 41, 92, 101, 41, 61, 121, 92, 101]⟩), (5, .string ⟨#[40, 120, 42, 121, 41, 42, 40, 120, 92, 101, 41, 61, 121]⟩), (6, .string ⟨#[120, 42, 40, 121, 42, 120, 41, 61, 40, 120, 42, 121, 41, 42, 120]⟩), (7, .string ⟨#[120, 42, 40, 120, 42, 121, 41, 61, 40, 120, 42, 120, 41, 42, 121]⟩), (8, .string ⟨#[40, 121, 42, 120, 41, 42, 120, 61, 121, 42, 40, 120, 42, 120, 41]⟩), (9, .string ⟨#[120, 42, 40, 121, 42, 40, 120, 42, 122, 41, 41, 61, 40, 120, 42, 40, 121, 42, 120, 41, 41, 42, 122]⟩), (10, .string ⟨#[40, 40, 122, 42, 120, 41, 42, 121, 41, 42, 120, 61, 122, 42, 40, 40, 120, 42, 121, 41, 42, 120, 41]⟩), (11, .string ⟨#[40, 120, 42, 121, 41, 42, 40, 122, 42, 120, 41, 61, 40, 120, 42, 40, 121, 42, 122, 41, 41, 42, 120]⟩), (12, .string ⟨#[120, 42, 40, 121, 42, 40, 122, 42, 120, 41, 41, 61, 40, 40, 120, 42, 121, 41, 42, 122, 41, 42, 120]⟩), (13, .string ⟨#[120, 42, 40, 121, 42, 40, 121, 42, 122, 41, 41, 61, 40, 40, 120, 42, 121, 41, 42, 121, 41, 42, 122]⟩), (14, .string ⟨#[120, 42, 40, 121, 42, 122, 41, 61, 40, 40, 120, 42, 121, 41, 47, 120, 41, 42, 40, 120, 42, 122, 41]⟩), (15, .string ⟨#[40, 120, 42, 121, 41, 42, 122, 61, 40, 120, 42, 122, 41, 42, 40, 122, 92, 40, 121, 42, 122, 41, 41]⟩), (16, .string ⟨#[120, 42, 121, 61, 121, 42, 120]⟩), (17, .string ⟨#[40, 120, 42, 121, 41, 42, 122, 61, 120, 42, 40, 121, 42, 122, 41]⟩), (18, .string ⟨#[120, 42, 120, 61, 101]⟩), (19, .string ⟨#[120, 42, 40, 121, 42, 120, 41, 61, 121]⟩)]
def lawC : Array Value := #[.string ⟨#[40, 101, 47, 120, 41, 42, 40, 120, 42, 121, 41, 61, 121]⟩, .string ⟨#[40, 121, 42, 120, 41, 42, 40, 120, 92, 101, 41, 61, 121]⟩, .string ⟨#[40, 120, 42, 121, 41, 92, 101, 61, 40, 120, 92, 101, 41, 42, 40, 121, 92, 101, 41]⟩, .string ⟨#[40, 120, 42, 121, 41, 92, 101, 61, 40, 121, 92, 101, 41, 42, 40, 120, 92, 101, 41]⟩, .string ⟨#[120, 42, 40, 40, 121, 42, 120, 41, 92, 101, 41, 61, 121, 92, 101]⟩, .string ⟨#[40, 120, 42, 121, 41, 42, 40, 120, 92, 101, 41, 61, 121]⟩, .string ⟨#[120, 42, 40, 121, 42, 120, 41, 61, 40, 120, 42, 121, 41, 42, 120]⟩, .string ⟨#[120, 42, 40, 120, 42, 121, 41, 61, 40, 120, 42, 120, 41, 42, 121]⟩, .string ⟨#[40, 121, 42, 120, 41, 42, 120, 61, 121, 42, 40, 120, 42, 120, 41]⟩, .string ⟨#[120, 42, 40, 121, 42, 40, 120, 42, 122, 41, 41, 61, 40, 120, 42, 40, 121, 42, 120, 41, 41, 42, 122]⟩, .string ⟨#[40, 40, 122, 42, 120, 41, 42, 121, 41, 42, 120, 61, 122, 42, 40, 40, 120, 42, 121, 41, 42, 120, 41]⟩, .string ⟨#[40, 120, 42, 121, 41, 42, 40, 122, 42, 120, 41, 61, 40, 120, 42, 40, 121, 42, 122, 41, 41, 42, 120]⟩, .string ⟨#[120, 42, 40, 121, 42, 40, 122, 42, 120, 41, 41, 61, 40, 40, 120, 42, 121, 41, 42, 122, 41, 42, 120]⟩, .string ⟨#[120, 42, 40, 121, 42, 40, 121, 42, 122, 41, 41, 61, 40, 40, 120, 42, 121, 41, 42, 121, 41, 42, 122]⟩, .string ⟨#[120, 42, 40, 121, 42, 122, 41, 61, 40, 40, 120, 42, 121, 41, 47, 120, 41, 42, 40, 120, 42, 122, 41]⟩, .string ⟨#[40, 120, 42, 121, 41, 42, 122, 61, 40, 120, 42, 122, 41, 42, 40, 122, 92, 40, 121, 42, 122, 41, 41]⟩, .string ⟨#[120, 42, 121, 61, 121, 42, 120]⟩, .string ⟨#[40, 120, 42, 121, 41, 42, 122, 61, 120, 42, 40, 121, 42, 122, 41]⟩, .string ⟨#[120, 42, 120, 61, 101]⟩, .string ⟨#[120, 42, 40, 121, 42, 120, 41, 61, 121]⟩]
theorem bsl_law (w : World) : (Instr.buildSlice 22 20 lawV.toArray).run Tryz.prog w = .ok (.slice (some ⟨w.heap.size, 0, none⟩) 20 20) (w.alloc (.cells lawC 9)) := by kernel_rfl
theorem lawC_get : ∀ k, k < 20 → lawC[k]? = some (.string (str (lawT k)))
  | 0, _ => by kernel_rfl
  | 1, _ => by kernel_rfl
  | 2, _ => by kernel_rfl
  | 3, _ => by kernel_rfl
  | 4, _ => by kernel_rfl
  | 5, _ => by kernel_rfl
  | 6, _ => by kernel_rfl
  | 7, _ => by kernel_rfl
  | 8, _ => by kernel_rfl
  | 9, _ => by kernel_rfl
  | 10, _ => by kernel_rfl
  | 11, _ => by kernel_rfl
  | 12, _ => by kernel_rfl
  | 13, _ => by kernel_rfl
  | 14, _ => by kernel_rfl
  | 15, _ => by kernel_rfl
  | 16, _ => by kernel_rfl
  | 17, _ => by kernel_rfl
  | 18, _ => by kernel_rfl
  | 19, _ => by kernel_rfl
  | n + 20, h => absurd h (by omega)
set_option maxRecDepth 100000 in
set_option maxHeartbeats 1000000 in
theorem l07Texts_any (w : World) : Calls Tryz.prog 33 #[] w fun e w' => ∃ g, e = .returned (.slice (some ⟨g, 0, none⟩) 20 20) ∧ w.heap.size ≤ g ∧ Mm no w w' [.box g lawC 9] := by
  have M := Mm.start no w
  go_enter Tryz.func33, Tryz.ntmps33
  go_wp2_with (first | ((with_reducible apply wpM_bsl' M 22 20 9 (lawV) (lawC)); rfl; rfl; rfl; exact bsl_law; clear M; (try clear C); intro b w9 h_b M; have C := M.ruleAll; simp only [Go.Proofs.YtocejggobgfccaaGreatDoor.ruleAll] at C))
  go_ret
  exact ⟨b, rfl, by assumption, M⟩

set_option maxRecDepth 100000 in
set_option maxHeartbeats 2000000 in
theorem l07Law_any (k : Nat) (hk : k < 20) (w : World) : Calls Tryz.prog 17 #[.int .i64 (k : Int)] w (LawPost (lawI k).1 (lawI k).2 w) := by
  have M := Mm.start no w
  have HP := Hid2.mk (fun w1 => rd_same (lawT k) ▸ l03Read_any (lawT k) (Nat.le_trans (lawT_ok k hk).1 (by decide)) (lawT_ok k hk).2 w1)
  rw [lawI_rd hk] at HP
  have hck := lawC_get k hk
  generalize str (lawT k) = s at hck HP
  have HTX := Hid2.mk (fun w1 => l07Texts_any w1)
  generalize lawC = cs at hck HTX
  generalize lawI k = r at HP ⊢
  obtain ⟨xs, ys⟩ := r
  simp only at HP ⊢
  have hk2 : (k : Int) < 20 := by omega
  go_enter Tryz.func17, Tryz.ntmps17
  go_wp2_with (first | ((with_reducible apply wpM_alloc' M 43 (idV none 0 none 0 0 0)); rfl; exact ⟨rfl, _, zero_idn _, rfl⟩; clear M; (try clear C); intro bz w9 h_bz M; have C := M.ruleAll; simp only [Go.Proofs.YtocejggobgfccaaGreatDoor.ruleAll] at C) | (go_at_call 33; fail))
  refine (HTX.out _).mono ?_
  rintro e w1 ⟨g, rfl, hg, M'⟩
  have M9 := M.join1 M' (new_box hg)
  clear M; (try clear C)
  have M := M9
  clear M9 M' hg
  have C := M.ruleAll; simp only [Go.Proofs.YtocejggobgfccaaGreatDoor.ruleAll] at C
  go_wp2_with (first | (go_at_call 32; fail))
  refine (HP.out _).mono ?_
  rintro e w1 ⟨p1, c1, p2, c2, rfl, M'⟩
  have M9 := (M.joinRows M').weakRows M.size M.size
  clear M; (try clear C)
  have M := M9
  clear M9 M'
  have C := M.ruleAll; simp only [Go.Proofs.YtocejggobgfccaaGreatDoor.ruleAll] at C
  go_wp2_with (first | ((with_reducible apply wpM_alloc' M 43 (idV none 0 none 0 0 0)); rfl; exact ⟨rfl, _, zero_idn _, rfl⟩; clear M; (try clear C); intro bi w9 h_bi M; have C := M.ruleAll; simp only [Go.Proofs.YtocejggobgfccaaGreatDoor.ruleAll] at C) | ((with_reducible apply wpM_sta' M 0 43 (idV p1 c1 p2 c2 xs.length ys.length)); rfl; rfl; rfl; rfl; (first | exact .inl (by assumption) | exact .inr rfl | exact .inr (by assumption)); exact ⟨rfl, inf_idn.trans (congrArg some (idv_size ..).symm), flat_idv _ _ _ _ _ _⟩; (simp only [entCells, List.getElem?_cons_zero, List.getElem?_cons_succ, idv_size, idv_size]); clear M; (try clear C); intro w9 M; simp only [List.set_cons_zero, List.set_cons_succ, entBlk, entT, List.getElem?_cons_zero, List.getElem?_cons_succ] at M; have C := M.ruleAll; simp only [Go.Proofs.YtocejggobgfccaaGreatDoor.ruleAll] at C) | ((with_reducible apply wpM_lda' M 0 43 0 (idV p1 c1 p2 c2 xs.length ys.length)); rfl; rfl; rfl; exact ⟨rfl, inf_idn.trans (congrArg some (idv_size ..).symm), _, und_idn, rfl⟩; exact whole_of rfl) | ((with_reducible apply wpM_sta' M 4 43 (idV p1 c1 p2 c2 xs.length ys.length)); rfl; rfl; rfl; rfl; (first | exact .inl (by assumption) | exact .inr rfl | exact .inr (by assumption)); exact ⟨rfl, inf_idn.trans (congrArg some (idv_size ..).symm), flat_idv _ _ _ _ _ _⟩; (simp only [entCells, List.getElem?_cons_zero, List.getElem?_cons_succ, idv_size, idv_size]); clear M; (try clear C); intro w9 M; simp only [List.set_cons_zero, List.set_cons_succ, entBlk, entT, List.getElem?_cons_zero, List.getElem?_cons_succ] at M; have C := M.ruleAll; simp only [Go.Proofs.YtocejggobgfccaaGreatDoor.ruleAll] at C))
  refine bodyPost_ret (v := .agg (idV p1 c1 p2 c2 xs.length ys.length)) (by exact results_part rfl _ _ _ _ _ _ rfl und_idn rfl inf_idn (cells_of_blk0 (M.box 4 rfl))) rfl ?_
  exact ⟨p1, c1, p2, c2, rfl, by
    have M9 := M.sub [1, 2] (by decide)
    simp only [List.filterMap_cons, List.filterMap_nil, List.getElem?_cons_succ, List.getElem?_cons_zero] at M9
    exact M9⟩

/-- The number of a law. -/
noncomputable def lwCode (n : Int) (t : Nat → Nat → Nat) (k : Int) : Int := if isLp n t = true then (if 0 ≤ k ∧ k ≤ 19 then 0 else 2) else 1
set_option maxRecDepth 100000 in
theorem l07Number_any (k : Int) (b : Bool) (hb : b = true ↔ 0 ≤ k ∧ k ≤ 19) (w : World) : Calls Tryz.prog 16 #[.int .i64 k] w fun e w' => e = .returned (.bool b) ∧ w = w' := by
  have H := fun w1 => l01In_b k 0 19 b hb w1
  clear hb
  go_enter Tryz.func16, Tryz.ntmps16
  go_wp2_with (first | (go_at_call 31; ((with_reducible refine (H _).mono ?_); rintro e w1 ⟨rfl, rfl⟩)))
  go_ret
  exact ⟨rfl, rfl⟩
set_option maxRecDepth 100000 in
theorem isLaw_any (k : Int) (b : Bool) (hb : b = true ↔ 0 ≤ k ∧ k ≤ 19) (w : World) : Calls Tryz.prog 22 #[.int .i64 k] w fun e w' => e = .returned (.bool b) ∧ w = w' := by
  have H := fun w1 => within_b k 0 19 b hb w1
  clear hb
  go_enter Tryz.func22, Tryz.ntmps22
  go_wp2_with (first | (go_at_call 43; ((with_reducible refine (H _).mono ?_); rintro e w1 ⟨rfl, rfl⟩)))
  go_ret
  exact ⟨rfl, rfl⟩


/-! ### What the search hands back, as a row -/
def ffOut (o : Option (Nat × Nat × Nat)) : List Int := match o with | none => [] | some (x, y, z) => [(x : Int), (y : Int), (z : Int)]
theorem ff_len (o : Option (Nat × Nat × Nat)) : (ffOut o).length ≤ 3 := by rcases o with _ | ⟨x, y, z⟩ <;> simp [ffOut]
theorem fails2_any (n : Nat) (t : Nat → Nat → Nat) (hs : IsSq (n : Int) t) (xs ys : List Nat) (hX : isTm (elB xs) xs.length = true) (hY : isTm (elB ys) ys.length = true) (w : World) (p1 p2 : Option Addr) (c1 c2 : Nat) (r1 : rdq w p1 xs.length (bytF xs)) (r2 : rdq w p2 ys.length (bytF ys)) :
    Calls Tryz.prog 44 #[.agg (sqs n t), .agg (idV p1 c1 p2 c2 xs.length ys.length)] w fun e w' =>
      ∃ v, e = .returned (.tuple #[v, .bool (!holdsB n t xs ys)]) ∧ Mm no w w' [.row w.heap.size v (ffOut (fst3 (neB t (elB xs) xs.length (elB ys) ys.length) n n n)).length (i64s (ffOut (fst3 (neB t (elB xs) xs.length (elB ys) ys.length) n n n))) 2 1] := by
  refine (fails_any n t hs xs ys hX hY w p1 p2 c1 c2 r1 r2).mono ?_
  unfold holdsB
  rcases fst3 (neB t (elB xs) xs.length (elB ys) ys.length) n n n with _ | ⟨x, y, z⟩
  · rintro e w' ⟨rfl, hb⟩
    exact ⟨_, rfl, ((Mm.start no w).later hb).nilRow w.heap.size 2 1⟩
  · rintro e w' ⟨g, rfl, hg, M⟩
    exact ⟨_, rfl, M.asRow 0 rfl w.heap.size 3 1 hg rfl (by decide)⟩
theorem l03Fails2_any (n : Nat) (t : Nat → Nat → Nat) (hs : IsSq (n : Int) t) (xs ys : List Nat) (hX : isTm (elB xs) xs.length = true) (hY : isTm (elB ys) ys.length = true) (w : World) (p1 p2 : Option Addr) (c1 c2 : Nat) (r1 : rdq w p1 xs.length (bytF xs)) (r2 : rdq w p2 ys.length (bytF ys)) :
    Calls Tryz.prog 34 #[.agg (sqs n t), .agg (idV p1 c1 p2 c2 xs.length ys.length)] w fun e w' =>
      ∃ v, e = .returned v ∧ Mm no w w' [.row w.heap.size v (ffOut (fst3 (neB t (elB xs) xs.length (elB ys) ys.length) n n n)).length (i64s (ffOut (fst3 (neB t (elB xs) xs.length (elB ys) ys.length) n n n))) 2 1] := by
  refine (l03Fails_any n t hs xs ys hX hY w p1 p2 c1 c2 r1 r2).mono ?_
  rcases fst3 (neB t (elB xs) xs.length (elB ys) ys.length) n n n with _ | ⟨x, y, z⟩
  · rintro e w' ⟨rfl, hb⟩
    exact ⟨_, rfl, ((Mm.start no w).later hb).nilRow w.heap.size 2 1⟩
  · rintro e w' ⟨g, rfl, hg, M⟩
    exact ⟨_, rfl, M.asRow 0 rfl w.heap.size 3 1 hg rfl (by decide)⟩
end Go.Proofs.YtocejggobgfccaaGreatDoor

/- The package's texts of laws, as they are laid. -/
namespace Go.Proofs.YtocejggobgfccaaGreatDoor
set_option linter.unusedSimpArgs false
set_option linter.unusedVariables false
open Go.ChangeShapes Go.WideShapes Go.ChangeAt Go.RowKit

theorem laid_list : (Rows.laid_loop_example_g01195_impl_lawTexts : DataW Unit) = .agg (lawL.map fun l => .lit (.string (l.map UInt8.ofNat))) := by kernel_rfl
theorem glb_of_laid {W : World} (h : laidMetH Tryz.prog [("loop.example/g01195/impl.lawTexts", Rows.laid_loop_example_g01195_impl_lawTexts)] W) : glb W := by
  intro k hk
  rw [MakeChecks.laidMetH_plain _ _ _ (by kernel_rfl)] at h
  obtain ⟨ps, ⟨g, t, cs, fuel, p, q, hg, ht, hv, hd, _, _⟩, _, _⟩ := h
  obtain rfl := Option.some.inj ((show Tryz.prog.globalNamed "loop.example/g01195/impl.lawTexts" = some 0 by kernel_rfl).symm.trans hg)
  obtain rfl := Option.some.inj ((show (Tryz.prog.globals[0]?).map (·.type) = some 100 by kernel_rfl).symm.trans ht)
  rw [laid_list] at hd
  obtain ⟨xs, m, _, ex, _, hl, hel⟩ := DataW.trod_array Tryz.underlying100 hd
  have c1 : Tryz.prog.cellsOf 9 = 1 := by kernel_rfl
  have hE := hel k hk
  have hlen : lawL.length = 20 := by kernel_rfl
  have e3 : (xs.map (·.1)) = lawL.map fun l => (DataW.lit (.string (l.map UInt8.ofNat)) : DataW Unit) := (DataW.agg.inj (Prod.mk.inj ex).1).symm
  have hxl : xs.length = 20 := by have := congrArg List.length e3; simpa [hlen] using this
  rw [c1, Nat.mul_one, List.getElem?_eq_getElem (by omega)] at hE
  obtain ⟨s, e1, e2, _⟩ := DataW.trod_string Tryz.underlying9 hE
  have e4 : (xs.map (·.1))[k]? = (lawL.map fun l => (DataW.lit (.string (l.map UInt8.ofNat)) : DataW Unit))[k]? := by rw [e3]
  have hlk : lawL[k]? = some (lawT k) := by
    have hk' : k < lawL.length := by omega
    unfold lawT
    rw [List.getD_eq_getElem?_getD, List.getElem?_eq_getElem hk']; rfl
  rw [List.getElem?_map, List.getElem?_map, List.getElem?_eq_getElem (by omega : k < xs.length), hlk, e2] at e4
  have hs : s = str (lawT k) := by
    simp only [Option.map_some, Option.some.injEq, DataW.lit.injEq, Lit.string.injEq] at e4
    generalize lawT k = l at e4
    unfold str
    rw [← e4]
  rw [World.var?_cell hg hv k, ← hs]
  have : cs.toList[k]? = some (.string s) := by
    have h0 : ((cs.toList.drop k).take 1)[0]? = some (.string s) := by rw [e1]; rfl
    simpa using h0
  simpa using this
end Go.Proofs.YtocejggobgfccaaGreatDoor

/- Where a law fails, and which laws hold, on both sides: contracts. -/
namespace Go.Proofs.YtocejggobgfccaaGreatDoor
set_option linter.unusedSimpArgs false
set_option linter.unusedVariables false
open Go Go.RowKit

theorem Mm.weakRow {D : Nat → Prop} {w0 w : World} {L : List Ent} {B1 B : Nat} {v1 : Value} {n1 : Nat} {xs1 : List Value} {e1 s1 : Nat} (M : Mm D w0 w (.row B1 v1 n1 xs1 e1 s1 :: L)) (h1 : B ≤ B1) : Mm D w0 w (.row B v1 n1 xs1 e1 s1 :: L) :=
  M.set 0 rfl (y := .row B v1 n1 xs1 e1 s1) (.refl no w) (fun _ h => h.elim) (fun _ _ h => h.elim) (ownsRow_weak (M.row 0 rfl) h1) fun k h => .inl h
theorem new_row1 {w w' : World} {B : Nat} {v : Value} {n : Nat} {xs : List Value} {e size : Nat} (M : Mm no w w' [.row w.heap.size v n xs e size]) : ∀ x ∈ [Ent.row B v n xs e size], ∀ b, x.place b → w.heap.size ≤ b := fun x hx b hb => by
  simp only [List.mem_singleton] at hx; subst hx
  exact place_row (M.row 0 rfl) b hb
theorem new_rows2 {w w' : World} {B : Nat} {v v2 : Value} {n n2 : Nat} {xs xs2 : List Value} {e size e2 size2 : Nat} (M : Mm no w w' [.row w.heap.size v n xs e size, .row w.heap.size v2 n2 xs2 e2 size2]) : ∀ x ∈ [Ent.row B v n xs e size, .row B v2 n2 xs2 e2 size2], ∀ b, x.place b → w.heap.size ≤ b := fun x hx b hb => by
  simp only [List.mem_cons, List.not_mem_nil, or_false] at hx
  rcases hx with rfl | rfl
  · exact place_row (M.row 0 rfl) b hb
  · exact place_row (M.row 1 rfl) b hb
/-- Whether law k holds. -/
noncomputable def lawB (n : Nat) (t : Nat → Nat → Nat) (k : Nat) : Bool := holdsB n t (lawI k).1 (lawI k).2

def ob1R : Nat → List Nat
  | 0 => []
  | 1 => []
  | 2 => [1]
  | 3 => [0, 1, 2]
  | 4 => [0, 1, 2, 3]
  | 5 => [0, 1, 2, 3, 4]
  | 6 => [0, 1, 2, 3, 4]
  | 7 => [0, 1, 2, 3, 4, 5]
  | 8 => [0, 1, 2, 3, 4, 5, 6, 7]
  | _ => []
def ob1P (n : Nat) (t : Nat → Nat → Nat) (k : Nat) (xs ys : List Nat) (out : List Int) (b : Bool) (B0 : Nat) : Nat → (Nat → Bool) → (Nat → Value) → List Ent → Prop
  | 0, _, g, E => g 0 = .agg (sqs (n : Int) t) ∧ E = []
  | 1, _, g, E => g 1 = .int .i64 (k : Int) ∧ E = []
  | 2, _, g, E => ∃ p1 c1 p2 c2, g 2 = .agg (idV p1 c1 p2 c2 xs.length ys.length) ∧ E = [.row B0 (.slice p1 xs.length c1) xs.length (u8s xs) 5 1, .row B0 (.slice p2 ys.length c2) ys.length (u8s ys) 5 1]
  | 3, _, g, E => ∃ vr, g 3 = .tuple #[vr, .bool b] ∧ E = [.row B0 vr out.length (i64s out) 2 1]
  | 4, _, g, E => ∃ vr, g 3 = .tuple #[vr, .bool b] ∧ g 4 = .tuple #[vr, .bool b] ∧ E = []
  | 5, _, g, E => ∃ vr, g 3 = .tuple #[vr, .bool b] ∧ g 5 = vr ∧ E = []
  | 6, _, g, E => g 6 = .bool b ∧ E = []
  | 7, _, g, E => ∃ vr, g 3 = .tuple #[vr, .bool b] ∧ g 7 = vr ∧ E = []
  | 8, _, g, E => g 8 = .bool b ∧ E = []
  | _, _, _, _ => False
theorem ob1S (n : Nat) (t : Nat → Nat → Nat) (k : Nat) (xs ys : List Nat) (out : List Int) (b : Bool) (B0 : Nat) : Stable (ob1P n t k xs ys out b B0) ob1R (fun _ => []) := fun i k D g u E hki hkR hkW h => by
  match i with
  | 0 =>
    have e0 : updG g k u 0 = g 0 := updG_ne (g := g) (u := u) (Ne.symm hki)
    simp only [ob1P, e0]; exact h
  | 1 =>
    have e1 : updG g k u 1 = g 1 := updG_ne (g := g) (u := u) (Ne.symm hki)
    simp only [ob1P, e1]; exact h
  | 2 =>
    have e2 : updG g k u 2 = g 2 := updG_ne (g := g) (u := u) (Ne.symm hki)
    simp only [ob1P, e2]; exact h
  | 3 =>
    have e3 : updG g k u 3 = g 3 := updG_ne (g := g) (u := u) (Ne.symm hki)
    simp only [ob1P, e3]; exact h
  | 4 =>
    have e3 : updG g k u 3 = g 3 := updG_ne (g := g) (u := u) (i := k) (j := 3) (fun e => hkR (by rw [← e]; decide))
    have e4 : updG g k u 4 = g 4 := updG_ne (g := g) (u := u) (Ne.symm hki)
    simp only [ob1P, e3, e4]; exact h
  | 5 =>
    have e3 : updG g k u 3 = g 3 := updG_ne (g := g) (u := u) (i := k) (j := 3) (fun e => hkR (by rw [← e]; decide))
    have e5 : updG g k u 5 = g 5 := updG_ne (g := g) (u := u) (Ne.symm hki)
    simp only [ob1P, e3, e5]; exact h
  | 6 =>
    have e6 : updG g k u 6 = g 6 := updG_ne (g := g) (u := u) (Ne.symm hki)
    simp only [ob1P, e6]; exact h
  | 7 =>
    have e3 : updG g k u 3 = g 3 := updG_ne (g := g) (u := u) (i := k) (j := 3) (fun e => hkR (by rw [← e]; decide))
    have e7 : updG g k u 7 = g 7 := updG_ne (g := g) (u := u) (Ne.symm hki)
    simp only [ob1P, e3, e7]; exact h
  | 8 =>
    have e8 : updG g k u 8 = g 8 := updG_ne (g := g) (u := u) (Ne.symm hki)
    simp only [ob1P, e8]; exact h
  | n + 9 => exact h.elim

def lf4R : Nat → List Nat
  | 0 => []
  | 1 => []
  | 2 => [1]
  | 3 => [0, 1, 2]
  | 4 => [0, 1, 2, 3]
  | 5 => [0, 1, 2, 3, 4]
  | 6 => [0, 1, 2, 3, 4]
  | 7 => [0, 1, 2, 3, 4, 5]
  | 8 => [0, 1, 2, 3, 4, 5, 6, 7]
  | _ => []
def lf4P (n : Nat) (t : Nat → Nat → Nat) (k : Nat) (xs ys : List Nat) (out : List Int) (b : Bool) (B0 : Nat) : Nat → (Nat → Bool) → (Nat → Value) → List Ent → Prop
  | 0, _, g, E => g 0 = .agg (sqs (n : Int) t) ∧ E = []
  | 1, _, g, E => g 1 = .int .i64 (k : Int) ∧ E = []
  | 2, _, g, E => ∃ p1 c1 p2 c2, g 2 = .agg (idV p1 c1 p2 c2 xs.length ys.length) ∧ E = [.row B0 (.slice p1 xs.length c1) xs.length (u8s xs) 5 1, .row B0 (.slice p2 ys.length c2) ys.length (u8s ys) 5 1]
  | 3, _, g, E => ∃ vr, g 3 = .tuple #[vr, .bool b] ∧ E = [.row B0 vr out.length (i64s out) 2 1]
  | 4, _, g, E => ∃ vr, g 3 = .tuple #[vr, .bool b] ∧ g 4 = .tuple #[vr, .bool b] ∧ E = []
  | 5, _, g, E => ∃ vr, g 3 = .tuple #[vr, .bool b] ∧ g 5 = vr ∧ E = []
  | 6, _, g, E => g 6 = .bool b ∧ E = []
  | 7, _, g, E => ∃ vr, g 3 = .tuple #[vr, .bool b] ∧ g 7 = vr ∧ E = []
  | 8, _, g, E => g 8 = .bool b ∧ E = []
  | _, _, _, _ => False
theorem lf4S (n : Nat) (t : Nat → Nat → Nat) (k : Nat) (xs ys : List Nat) (out : List Int) (b : Bool) (B0 : Nat) : Stable (lf4P n t k xs ys out b B0) lf4R (fun _ => []) := fun i k D g u E hki hkR hkW h => by
  match i with
  | 0 =>
    have e0 : updG g k u 0 = g 0 := updG_ne (g := g) (u := u) (Ne.symm hki)
    simp only [lf4P, e0]; exact h
  | 1 =>
    have e1 : updG g k u 1 = g 1 := updG_ne (g := g) (u := u) (Ne.symm hki)
    simp only [lf4P, e1]; exact h
  | 2 =>
    have e2 : updG g k u 2 = g 2 := updG_ne (g := g) (u := u) (Ne.symm hki)
    simp only [lf4P, e2]; exact h
  | 3 =>
    have e3 : updG g k u 3 = g 3 := updG_ne (g := g) (u := u) (Ne.symm hki)
    simp only [lf4P, e3]; exact h
  | 4 =>
    have e3 : updG g k u 3 = g 3 := updG_ne (g := g) (u := u) (i := k) (j := 3) (fun e => hkR (by rw [← e]; decide))
    have e4 : updG g k u 4 = g 4 := updG_ne (g := g) (u := u) (Ne.symm hki)
    simp only [lf4P, e3, e4]; exact h
  | 5 =>
    have e3 : updG g k u 3 = g 3 := updG_ne (g := g) (u := u) (i := k) (j := 3) (fun e => hkR (by rw [← e]; decide))
    have e5 : updG g k u 5 = g 5 := updG_ne (g := g) (u := u) (Ne.symm hki)
    simp only [lf4P, e3, e5]; exact h
  | 6 =>
    have e6 : updG g k u 6 = g 6 := updG_ne (g := g) (u := u) (Ne.symm hki)
    simp only [lf4P, e6]; exact h
  | 7 =>
    have e3 : updG g k u 3 = g 3 := updG_ne (g := g) (u := u) (i := k) (j := 3) (fun e => hkR (by rw [← e]; decide))
    have e7 : updG g k u 7 = g 7 := updG_ne (g := g) (u := u) (Ne.symm hki)
    simp only [lf4P, e3, e7]; exact h
  | 8 =>
    have e8 : updG g k u 8 = g 8 := updG_ne (g := g) (u := u) (Ne.symm hki)
    simp only [lf4P, e8]; exact h
  | n + 9 => exact h.elim

set_option maxRecDepth 100000 in
set_option maxHeartbeats 4000000 in
theorem obeys_any (n : Nat) (t : Nat → Nat → Nat) (hs : IsSq (n : Int) t) (k : Nat) (hk : k < 20) (w : World) (hg : glb w) : Calls Tryz.prog 23 #[.agg (sqs (n : Int) t), .int .i64 (k : Int)] w fun e w' => e = .returned (.bool (lawB n t k)) ∧ Below w.heap.size w w' := by
  have M := Mm.start no w
  have HB := Hid2.mk (show lawB n t k = holdsB n t (lawI k).1 (lawI k).2 from rfl)
  generalize lawB n t k = res at HB ⊢
  have HLW := Hid2.mk (fun w1 hg => law_any k hk w1 hg)
  have HG := Hid2.mk (fun w1 (hb : Below w.heap.size w w1) => hg.later hb)
  have HF := Hid2.mk (fun w1 p1 c1 p2 c2 r1 r2 => fails2_any n t hs (lawI k).1 (lawI k).2 (lawI_tm hk).1 (lawI_tm hk).2 w1 p1 p2 c1 c2 r1 r2)
  have hll := ff_len (fst3 (neB t (elB (lawI k).1) (lawI k).1.length (elB (lawI k).2) (lawI k).2.length) n n n)
  generalize hO : ffOut (fst3 (neB t (elB (lawI k).1) (lawI k).1.length (elB (lawI k).2) (lawI k).2.length) n n n) = out at *
  generalize (lawI k).1 = xs at *
  generalize (lawI k).2 = ys at *
  generalize hb : (!holdsB n t xs ys) = b at HF
  have HBB := Hid2.mk (show res = !b by rw [HB.out, ← hb, Bool.not_not])
  clear hg hs hk hb hO HB
  go_enter Tryz.func23, Tryz.ntmps23
  go_wp2_with (first | ((with_reducible apply wpM_box' M 50 (sqs (n : Int) t)); rfl; exact ⟨rfl, rfl⟩; clear M; (try clear C); intro bq w9 h_bq M; have C := M.ruleAll; simp only [Go.Proofs.YtocejggobgfccaaGreatDoor.ruleAll] at C))
  refine wp_region_own (GrS 9 (ob1P n t k xs ys out b w.heap.size) ob1R w [.box bq (sqs (n : Int) t) 50]) (by kernel_rfl) (by kernel_rfl) (fun _ => undef) (GrS.start (M.sub [0] (by decide)) _) ?hs_ob1 ?hQ_ob1
  case hs_ob1 =>
    clear M
    try clear C
    intro i o hi D g w2 hi0 hpre S
    have hlt : i < 9 := by have := (List.getElem?_eq_some_iff.1 hi).1; simpa using this
    obtain rfl | rfl | rfl | rfl | rfl | rfl | rfl | rfl | rfl : i = 0 ∨ i = 1 ∨ i = 2 ∨ i = 3 ∨ i = 4 ∨ i = 5 ∨ i = 6 ∨ i = 7 ∨ i = 8 := by omega
    · simp only [List.getElem?_cons_succ, List.getElem?_cons_zero, Option.some.injEq] at hi
      subst hi
      have M := S.base
      have HR : ∀ j ∈ ob1R 0, D j = true := (fun _ h => by cases h)
      have HW : ∀ j, D j = true → 0 ∉ (fun _ => [] : Nat → List Nat) j := fun _ _ h => by cases h
      have hst := ob1S n t k xs ys out b w.heap.size
      refine ⟨⟨#[undef, undef, .pointer (some ⟨bq, 0, none⟩), undef, undef, undef, undef, undef, undef, undef, undef, undef, undef, undef, undef, undef, undef, undef, undef, undef, undef, undef, undef, undef, undef, undef, undef, undef, undef, undef], []⟩, ?_, ?_⟩
      · intro t ht
        have ht' : t ∈ ([2] : List Nat) := ht
        simp only [List.mem_cons, List.not_mem_nil, or_false] at ht'
        subst ht'
        exact rfl
      · skip
        have C := M.ruleAll; simp only [Go.Proofs.YtocejggobgfccaaGreatDoor.ruleAll] at C
        refine yield_walk (ops := #[]) rfl rfl (show 8 < 30 by decide) ?_
        go_wp2_with (first | ((with_reducible apply wpM_lda' M 0 50 0 (sqs (n : Int) t)); rfl; rfl; rfl; exact ⟨rfl, inf_sqs.trans (congrArg some (sqs_size ..).symm), _, und_sqs, rfl⟩; exact whole_of rfl))
        exact S.val (i := 0) hst (by decide) hi0 HR HW (Below.refl _ _) ⟨updG_at .., rfl⟩
    · simp only [List.getElem?_cons_succ, List.getElem?_cons_zero, Option.some.injEq] at hi
      subst hi
      have M := S.base
      have HR : ∀ j ∈ ob1R 1, D j = true := (fun _ h => by cases h)
      have HW : ∀ j, D j = true → 1 ∉ (fun _ => [] : Nat → List Nat) j := fun _ _ h => by cases h
      have hst := ob1S n t k xs ys out b w.heap.size
      refine ⟨⟨#[undef, .int .i64 (k : Int), undef, undef, undef, undef, undef, undef, undef, undef, undef, undef, undef, undef, undef, undef, undef, undef, undef, undef, undef, undef, undef, undef, undef, undef, undef, undef, undef, undef], []⟩, ?_, ?_⟩
      · intro t ht
        have ht' : t ∈ ([1] : List Nat) := ht
        simp only [List.mem_cons, List.not_mem_nil, or_false] at ht'
        subst ht'
        exact rfl
      · skip
        have C := M.ruleAll; simp only [Go.Proofs.YtocejggobgfccaaGreatDoor.ruleAll] at C
        refine yield_walk (ops := #[]) rfl rfl (show 9 < 30 by decide) ?_
        go_wp2
        exact S.val (i := 1) hst (by decide) hi0 HR HW (Below.refl _ _) ⟨updG_at .., rfl⟩
    · simp only [List.getElem?_cons_succ, List.getElem?_cons_zero, Option.some.injEq] at hi
      subst hi
      have d1 : D 1 = true := hpre _ (Array.mem_of_getElem? (i := 0) rfl) rfl
      obtain ⟨E, P, M⟩ := S.get [1] (by decide) (by intro j hj; simp only [List.mem_cons, List.not_mem_nil, or_false] at hj; subst hj <;> assumption)
      obtain ⟨e1, E1⟩ : g 1 = .int .i64 (k : Int) ∧ E 1 = [] := P 1 (by decide)
      simp only [List.flatMap_cons, List.flatMap_nil, List.append_nil, E1, List.cons_append, List.nil_append] at M
      clear P
      have HR : ∀ j ∈ ob1R 2, D j = true := (by intro j hj; have hj' : j ∈ ([1] : List Nat) := hj; simp only [List.mem_cons, List.not_mem_nil, or_false] at hj'; subst hj' <;> assumption)
      have HW : ∀ j, D j = true → 2 ∉ (fun _ => [] : Nat → List Nat) j := fun _ _ h => by cases h
      have hst := ob1S n t k xs ys out b w.heap.size
      refine ⟨⟨#[undef, undef, undef, undef, undef, undef, undef, undef, undef, .int .i64 (k : Int), undef, undef, undef, undef, undef, undef, undef, undef, undef, undef, undef, undef, undef, undef, undef, undef, undef, undef, undef, undef], []⟩, ?_, ?_⟩
      · intro t ht
        have ht' : t ∈ ([9] : List Nat) := ht
        simp only [List.mem_cons, List.not_mem_nil, or_false] at ht'
        subst ht'
        exact e1.symm
      · skip
        have C := M.ruleAll; simp only [Go.Proofs.YtocejggobgfccaaGreatDoor.ruleAll] at C
        refine yield_walk (ops := #[]) rfl rfl (show 10 < 30 by decide) ?_
        go_wp2_with (first | (go_at_call 45; fail))
        refine (HLW.out _ (HG.out _ M.below)).mono ?_
        rintro e w1 ⟨p1, c1, p2, c2, rfl, M'⟩
        go_wp2
        exact S.add (i := 2) hst (by decide) hi0 HR HW (M'.weakRows S.base.size S.base.size) (new_rows2 M') ⟨p1, c1, p2, c2, updG_at .., rfl⟩
    · simp only [List.getElem?_cons_succ, List.getElem?_cons_zero, Option.some.injEq] at hi
      subst hi
      have d0 : D 0 = true := hpre _ (Array.mem_of_getElem? (i := 0) rfl) rfl
      have d2 : D 2 = true := hpre _ (Array.mem_of_getElem? (i := 1) rfl) rfl
      have d1 : D 1 = true := S.anc 2 d2 1 (show 1 ∈ ob1R 2 by decide)
      obtain ⟨E, P, M⟩ := S.get [0, 2] (by decide) (by intro j hj; simp only [List.mem_cons, List.not_mem_nil, or_false] at hj; rcases hj with rfl | rfl <;> assumption)
      obtain ⟨e0, E0⟩ : g 0 = .agg (sqs (n : Int) t) ∧ E 0 = [] := P 0 (by decide)
      obtain ⟨p1, c1, p2, c2, e2, E2⟩ : ∃ p1 c1 p2 c2, g 2 = .agg (idV p1 c1 p2 c2 xs.length ys.length) ∧ E 2 = [.row w.heap.size (.slice p1 xs.length c1) xs.length (u8s xs) 5 1, .row w.heap.size (.slice p2 ys.length c2) ys.length (u8s ys) 5 1] := P 2 (by decide)
      simp only [List.flatMap_cons, List.flatMap_nil, List.append_nil, E0, E2, List.cons_append, List.nil_append] at M
      clear P
      have HR : ∀ j ∈ ob1R 3, D j = true := (by intro j hj; have hj' : j ∈ ([0, 1, 2] : List Nat) := hj; simp only [List.mem_cons, List.not_mem_nil, or_false] at hj'; rcases hj' with rfl | rfl | rfl <;> assumption)
      have HW : ∀ j, D j = true → 3 ∉ (fun _ => [] : Nat → List Nat) j := fun _ _ h => by cases h
      have hst := ob1S n t k xs ys out b w.heap.size
      refine ⟨⟨#[undef, undef, undef, undef, undef, undef, undef, undef, .agg (sqs (n : Int) t), undef, .agg (idV p1 c1 p2 c2 xs.length ys.length), undef, undef, undef, undef, undef, undef, undef, undef, undef, undef, undef, undef, undef, undef, undef, undef, undef, undef, undef], []⟩, ?_, ?_⟩
      · intro t ht
        have ht' : t ∈ ([8, 10] : List Nat) := ht
        simp only [List.mem_cons, List.not_mem_nil, or_false] at ht'
        rcases ht' with rfl | rfl
        · exact e0.symm
        · exact e2.symm
      · skip
        have C := M.ruleAll; simp only [Go.Proofs.YtocejggobgfccaaGreatDoor.ruleAll] at C
        refine yield_walk (ops := #[]) rfl rfl (show 11 < 30 by decide) ?_
        go_wp2_with (first | (go_at_call 44; fail))
        refine (HF.out _ _ _ _ _ (u8_rdq rfl (M.row 0 rfl)) (u8_rdq rfl (M.row 1 rfl))).mono ?_
        rintro e w1 ⟨vr, rfl, M'⟩
        go_wp2
        exact S.add (i := 3) hst (by decide) hi0 HR HW (M'.weakRow S.base.size) (new_row1 M') ⟨vr, updG_at .., rfl⟩
    · simp only [List.getElem?_cons_succ, List.getElem?_cons_zero, Option.some.injEq] at hi
      subst hi
      have d3 : D 3 = true := hpre _ (Array.mem_of_getElem? (i := 0) rfl) rfl
      have d0 : D 0 = true := S.anc 3 d3 0 (show 0 ∈ ob1R 3 by decide)
      have d1 : D 1 = true := S.anc 3 d3 1 (show 1 ∈ ob1R 3 by decide)
      have d2 : D 2 = true := S.anc 3 d3 2 (show 2 ∈ ob1R 3 by decide)
      obtain ⟨E, P, M⟩ := S.get [3] (by decide) (by intro j hj; simp only [List.mem_cons, List.not_mem_nil, or_false] at hj; subst hj <;> assumption)
      obtain ⟨vr, e3, E3⟩ : ∃ vr, g 3 = .tuple #[vr, .bool b] ∧ E 3 = [.row w.heap.size vr out.length (i64s out) 2 1] := P 3 (by decide)
      simp only [List.flatMap_cons, List.flatMap_nil, List.append_nil, E3, List.cons_append, List.nil_append] at M
      clear P
      have HR : ∀ j ∈ ob1R 4, D j = true := (by intro j hj; have hj' : j ∈ ([0, 1, 2, 3] : List Nat) := hj; simp only [List.mem_cons, List.not_mem_nil, or_false] at hj'; rcases hj' with rfl | rfl | rfl | rfl <;> assumption)
      have HW : ∀ j, D j = true → 4 ∉ (fun _ => [] : Nat → List Nat) j := fun _ _ h => by cases h
      have hst := ob1S n t k xs ys out b w.heap.size
      refine ⟨⟨#[undef, undef, undef, undef, undef, undef, undef, undef, undef, undef, undef, .tuple #[vr, .bool b], undef, undef, undef, undef, undef, undef, undef, undef, undef, undef, undef, undef, undef, undef, undef, undef, undef, undef], []⟩, ?_, ?_⟩
      · intro t ht
        have ht' : t ∈ ([11] : List Nat) := ht
        simp only [List.mem_cons, List.not_mem_nil, or_false] at ht'
        subst ht'
        exact e3.symm
      · skip
        have C := M.ruleAll; simp only [Go.Proofs.YtocejggobgfccaaGreatDoor.ruleAll] at C
        refine yield_walk (ops := #[]) rfl rfl (show 7 < 30 by decide) ?_
        go_wp2
        exact S.val (i := 4) hst (by decide) hi0 HR HW (Below.refl _ _) ⟨vr, (updG_ne (by decide)).trans e3, updG_at .., rfl⟩
    · simp only [List.getElem?_cons_succ, List.getElem?_cons_zero, Option.some.injEq] at hi
      subst hi
      have d4 : D 4 = true := hpre _ (Array.mem_of_getElem? (i := 0) rfl) rfl
      have d0 : D 0 = true := S.anc 4 d4 0 (show 0 ∈ ob1R 4 by decide)
      have d1 : D 1 = true := S.anc 4 d4 1 (show 1 ∈ ob1R 4 by decide)
      have d2 : D 2 = true := S.anc 4 d4 2 (show 2 ∈ ob1R 4 by decide)
      have d3 : D 3 = true := S.anc 4 d4 3 (show 3 ∈ ob1R 4 by decide)
      obtain ⟨E, P, M⟩ := S.get [4] (by decide) (by intro j hj; simp only [List.mem_cons, List.not_mem_nil, or_false] at hj; subst hj <;> assumption)
      obtain ⟨vr, er4, e4, E4⟩ : ∃ vr, g 3 = .tuple #[vr, .bool b] ∧ g 4 = .tuple #[vr, .bool b] ∧ E 4 = [] := P 4 (by decide)
      simp only [List.flatMap_cons, List.flatMap_nil, List.append_nil, E4, List.cons_append, List.nil_append] at M
      clear P
      have HR : ∀ j ∈ ob1R 5, D j = true := (by intro j hj; have hj' : j ∈ ([0, 1, 2, 3, 4] : List Nat) := hj; simp only [List.mem_cons, List.not_mem_nil, or_false] at hj'; rcases hj' with rfl | rfl | rfl | rfl | rfl <;> assumption)
      have HW : ∀ j, D j = true → 5 ∉ (fun _ => [] : Nat → List Nat) j := fun _ _ h => by cases h
      have hst := ob1S n t k xs ys out b w.heap.size
      refine ⟨⟨#[undef, undef, undef, undef, undef, undef, undef, .tuple #[vr, .bool b], undef, undef, undef, undef, undef, undef, undef, undef, undef, undef, undef, undef, undef, undef, undef, undef, undef, undef, undef, undef, undef, undef], []⟩, ?_, ?_⟩
      · intro t ht
        have ht' : t ∈ ([7] : List Nat) := ht
        simp only [List.mem_cons, List.not_mem_nil, or_false] at ht'
        subst ht'
        exact e4.symm
      · skip
        have C := M.ruleAll; simp only [Go.Proofs.YtocejggobgfccaaGreatDoor.ruleAll] at C
        refine yield_walk (ops := #[]) rfl rfl (show 12 < 30 by decide) ?_
        go_wp2
        exact S.val (i := 5) hst (by decide) hi0 HR HW (Below.refl _ _) ⟨vr, (updG_ne (by decide)).trans er4, updG_at .., rfl⟩
    · simp only [List.getElem?_cons_succ, List.getElem?_cons_zero, Option.some.injEq] at hi
      subst hi
      have d4 : D 4 = true := hpre _ (Array.mem_of_getElem? (i := 0) rfl) rfl
      have d0 : D 0 = true := S.anc 4 d4 0 (show 0 ∈ ob1R 4 by decide)
      have d1 : D 1 = true := S.anc 4 d4 1 (show 1 ∈ ob1R 4 by decide)
      have d2 : D 2 = true := S.anc 4 d4 2 (show 2 ∈ ob1R 4 by decide)
      have d3 : D 3 = true := S.anc 4 d4 3 (show 3 ∈ ob1R 4 by decide)
      obtain ⟨E, P, M⟩ := S.get [4] (by decide) (by intro j hj; simp only [List.mem_cons, List.not_mem_nil, or_false] at hj; subst hj <;> assumption)
      obtain ⟨vr, er4, e4, E4⟩ : ∃ vr, g 3 = .tuple #[vr, .bool b] ∧ g 4 = .tuple #[vr, .bool b] ∧ E 4 = [] := P 4 (by decide)
      simp only [List.flatMap_cons, List.flatMap_nil, List.append_nil, E4, List.cons_append, List.nil_append] at M
      clear P
      have HR : ∀ j ∈ ob1R 6, D j = true := (by intro j hj; have hj' : j ∈ ([0, 1, 2, 3, 4] : List Nat) := hj; simp only [List.mem_cons, List.not_mem_nil, or_false] at hj'; rcases hj' with rfl | rfl | rfl | rfl | rfl <;> assumption)
      have HW : ∀ j, D j = true → 6 ∉ (fun _ => [] : Nat → List Nat) j := fun _ _ h => by cases h
      have hst := ob1S n t k xs ys out b w.heap.size
      refine ⟨⟨#[undef, undef, undef, undef, undef, undef, undef, .tuple #[vr, .bool b], undef, undef, undef, undef, undef, undef, undef, undef, undef, undef, undef, undef, undef, undef, undef, undef, undef, undef, undef, undef, undef, undef], []⟩, ?_, ?_⟩
      · intro t ht
        have ht' : t ∈ ([7] : List Nat) := ht
        simp only [List.mem_cons, List.not_mem_nil, or_false] at ht'
        subst ht'
        exact e4.symm
      · skip
        have C := M.ruleAll; simp only [Go.Proofs.YtocejggobgfccaaGreatDoor.ruleAll] at C
        refine yield_walk (ops := #[]) rfl rfl (show 13 < 30 by decide) ?_
        go_wp2
        exact S.val (i := 6) hst (by decide) hi0 HR HW (Below.refl _ _) ⟨updG_at .., rfl⟩
    · simp only [List.getElem?_cons_succ, List.getElem?_cons_zero, Option.some.injEq] at hi
      subst hi
      have d5 : D 5 = true := hpre _ (Array.mem_of_getElem? (i := 0) rfl) rfl
      have d3 : D 3 = true := hpre _ (Array.mem_of_getElem? (i := 1) rfl) rfl
      have d0 : D 0 = true := hpre _ (Array.mem_of_getElem? (i := 2) rfl) rfl
      have d1 : D 1 = true := hpre _ (Array.mem_of_getElem? (i := 3) rfl) rfl
      have d2 : D 2 = true := hpre _ (Array.mem_of_getElem? (i := 4) rfl) rfl
      have d4 : D 4 = true := hpre _ (Array.mem_of_getElem? (i := 6) rfl) rfl
      obtain ⟨E, P, M⟩ := S.get [5] (by decide) (by intro j hj; simp only [List.mem_cons, List.not_mem_nil, or_false] at hj; subst hj <;> assumption)
      obtain ⟨vr, er5, e5, E5⟩ : ∃ vr, g 3 = .tuple #[vr, .bool b] ∧ g 5 = vr ∧ E 5 = [] := P 5 (by decide)
      simp only [List.flatMap_cons, List.flatMap_nil, List.append_nil, E5, List.cons_append, List.nil_append] at M
      clear P
      have HR : ∀ j ∈ ob1R 7, D j = true := (by intro j hj; have hj' : j ∈ ([0, 1, 2, 3, 4, 5] : List Nat) := hj; simp only [List.mem_cons, List.not_mem_nil, or_false] at hj'; rcases hj' with rfl | rfl | rfl | rfl | rfl | rfl <;> assumption)
      have HW : ∀ j, D j = true → 7 ∉ (fun _ => [] : Nat → List Nat) j := fun _ _ h => by cases h
      have hst := ob1S n t k xs ys out b w.heap.size
      refine ⟨⟨#[undef, undef, undef, undef, undef, undef, undef, undef, undef, undef, undef, undef, vr, undef, undef, undef, undef, undef, undef, undef, undef, undef, undef, undef, undef, undef, undef, undef, undef, undef], []⟩, ?_, ?_⟩
      · intro t ht
        have ht' : t ∈ ([12] : List Nat) := ht
        simp only [List.mem_cons, List.not_mem_nil, or_false] at ht'
        subst ht'
        exact e5.symm
      · skip
        have C := M.ruleAll; simp only [Go.Proofs.YtocejggobgfccaaGreatDoor.ruleAll] at C
        refine yield_walk (ops := #[]) rfl rfl (show 5 < 30 by decide) ?_
        go_wp2
        exact S.val (i := 7) hst (by decide) hi0 HR HW (Below.refl _ _) ⟨vr, (updG_ne (by decide)).trans er5, updG_at .., rfl⟩
    · simp only [List.getElem?_cons_succ, List.getElem?_cons_zero, Option.some.injEq] at hi
      subst hi
      have d6 : D 6 = true := hpre _ (Array.mem_of_getElem? (i := 0) rfl) rfl
      have d7 : D 7 = true := hpre _ (Array.mem_of_getElem? (i := 1) rfl) rfl
      have d0 : D 0 = true := hpre _ (Array.mem_of_getElem? (i := 2) rfl) rfl
      have d1 : D 1 = true := hpre _ (Array.mem_of_getElem? (i := 3) rfl) rfl
      have d2 : D 2 = true := hpre _ (Array.mem_of_getElem? (i := 4) rfl) rfl
      have d3 : D 3 = true := hpre _ (Array.mem_of_getElem? (i := 5) rfl) rfl
      have d4 : D 4 = true := hpre _ (Array.mem_of_getElem? (i := 6) rfl) rfl
      have d5 : D 5 = true := hpre _ (Array.mem_of_getElem? (i := 7) rfl) rfl
      obtain ⟨E, P, M⟩ := S.get [6] (by decide) (by intro j hj; simp only [List.mem_cons, List.not_mem_nil, or_false] at hj; subst hj <;> assumption)
      obtain ⟨e6, E6⟩ : g 6 = .bool b ∧ E 6 = [] := P 6 (by decide)
      simp only [List.flatMap_cons, List.flatMap_nil, List.append_nil, E6, List.cons_append, List.nil_append] at M
      clear P
      have HR : ∀ j ∈ ob1R 8, D j = true := (by intro j hj; have hj' : j ∈ ([0, 1, 2, 3, 4, 5, 6, 7] : List Nat) := hj; simp only [List.mem_cons, List.not_mem_nil, or_false] at hj'; rcases hj' with rfl | rfl | rfl | rfl | rfl | rfl | rfl | rfl <;> assumption)
      have HW : ∀ j, D j = true → 8 ∉ (fun _ => [] : Nat → List Nat) j := fun _ _ h => by cases h
      have hst := ob1S n t k xs ys out b w.heap.size
      refine ⟨⟨#[undef, undef, undef, undef, undef, undef, undef, undef, undef, undef, undef, undef, undef, .bool b, undef, undef, undef, undef, undef, undef, undef, undef, undef, undef, undef, undef, undef, undef, undef, undef], []⟩, ?_, ?_⟩
      · intro t ht
        have ht' : t ∈ ([13] : List Nat) := ht
        simp only [List.mem_cons, List.not_mem_nil, or_false] at ht'
        subst ht'
        exact e6.symm
      · skip
        have C := M.ruleAll; simp only [Go.Proofs.YtocejggobgfccaaGreatDoor.ruleAll] at C
        refine yield_walk (ops := #[]) rfl rfl (show 6 < 30 by decide) ?_
        go_wp2
        exact S.val (i := 8) hst (by decide) hi0 HR HW (Below.refl _ _) ⟨updG_at .., rfl⟩
  case hQ_ob1 =>
    clear M
    try clear C
    intro D g w2 hall S
    obtain ⟨E, P, M⟩ := S.get [3] (by decide) (fun k hk => hall k (by simp only [List.mem_cons, List.not_mem_nil, or_false] at hk; show k < 9; omega))
    obtain ⟨vr, e3, E3⟩ : ∃ vr, g 3 = .tuple #[vr, .bool b] ∧ E 3 = [.row w.heap.size vr out.length (i64s out) 2 1] := P 3 (by decide)
    simp only [List.flatMap_cons, List.flatMap_nil, List.append_nil, E3, List.cons_append, List.nil_append] at M
    clear P
    obtain ⟨E', P, _⟩ := S.get [0, 1, 2, 3, 4, 5, 6, 7, 8] (by decide) (fun k hk => hall k (by simp only [List.mem_cons, List.not_mem_nil, or_false] at hk; show k < 9; omega))
    have e0 : g 0 = .agg (sqs (n : Int) t) := (P 0 (by decide)).1
    have e1 : g 1 = .int .i64 (k : Int) := (P 1 (by decide)).1
    obtain ⟨p1, c1, p2, c2, e2, -⟩ : ∃ p1 c1 p2 c2, g 2 = .agg (idV p1 c1 p2 c2 xs.length ys.length) ∧ E' 2 = [.row w.heap.size (.slice p1 xs.length c1) xs.length (u8s xs) 5 1, .row w.heap.size (.slice p2 ys.length c2) ys.length (u8s ys) 5 1] := P 2 (by decide)
    obtain ⟨z4_vr, er4, e4, -⟩ : ∃ vr, g 3 = .tuple #[vr, .bool b] ∧ g 4 = .tuple #[vr, .bool b] ∧ E' 4 = [] := P 4 (by decide)
    have hq4 := e3.symm.trans er4
    simp only [Value.tuple.injEq, Array.mk.injEq, List.cons.injEq, and_true, Value.agg.injEq] at hq4
    obtain rfl := hq4
    obtain ⟨z5_vr, er5, e5, -⟩ : ∃ vr, g 3 = .tuple #[vr, .bool b] ∧ g 5 = vr ∧ E' 5 = [] := P 5 (by decide)
    have hq5 := e3.symm.trans er5
    simp only [Value.tuple.injEq, Array.mk.injEq, List.cons.injEq, and_true, Value.agg.injEq] at hq5
    obtain rfl := hq5
    have e6 : g 6 = .bool b := (P 6 (by decide)).1
    obtain ⟨z7_vr, er7, e7, -⟩ : ∃ vr, g 3 = .tuple #[vr, .bool b] ∧ g 7 = vr ∧ E' 7 = [] := P 7 (by decide)
    have hq7 := e3.symm.trans er7
    simp only [Value.tuple.injEq, Array.mk.injEq, List.cons.injEq, and_true, Value.agg.injEq] at hq7
    obtain rfl := hq7
    have e8 : g 8 = .bool b := (P 8 (by decide)).1
    simp only [fullAct, e0, e1, e2, e3, e4, e5, e6, e7, e8, Act.put, List.setIfInBounds_toArray, List.set_cons_succ, List.set_cons_zero]
    clear P S hall e0 e1 e2 e3 e4 e5 e6 e7 e8
    try clear E'
    try clear E
    have C := M.ruleAll; simp only [Go.Proofs.YtocejggobgfccaaGreatDoor.ruleAll] at C
    go_wp2
    go_ret
    exact ⟨by rw [HBB.out]; rfl, M.below⟩

/-- Where law k fails. -/
noncomputable def lfRes (n : Int) (t : Nat → Nat → Nat) (k : Int) : List Int × Int :=
  if lwCode n t k = 0 then (if holdsB n.toNat t (lawI k.toNat).1 (lawI k.toNat).2 = true then ([], 4) else (ffOut (fst3 (neB t (elB (lawI k.toNat).1) (lawI k.toNat).1.length (elB (lawI k.toNat).2) (lawI k.toNat).2.length) n.toNat n.toNat n.toNat), 0)) else ([], lwCode n t k)
theorem lwCode_0 {n : Int} {t : Nat → Nat → Nat} {k : Int} (h : lwCode n t k = 0) : IsLp n t ∧ 0 ≤ k ∧ k ≤ 19 := by
  unfold lwCode at h
  split at h
  · rename_i hl
    split at h
    · rename_i hk; exact ⟨isLp_true.1 hl, hk⟩
    · cases h
  · cases h

end Go.Proofs.YtocejggobgfccaaGreatDoor

/- Permutations made in one loop: contracts. -/
namespace Go.Proofs.YtocejggobgfccaaGreatDoor
set_option linter.unusedSimpArgs false
set_option linter.unusedVariables false
open Go.RowKit

theorem build_plc (w : World) : (Instr.build 59 #[]).run Tryz.prog w = .ok (.agg (bys fun _ => 0)) w := by kernel_rfl

end Go.Proofs.YtocejggobgfccaaGreatDoor

/- The cells of a triple of permutations. -/
namespace Go.Proofs.YtocejggobgfccaaGreatDoor
set_option linter.unusedSimpArgs false
set_option linter.unusedVariables false
open Go.RowKit

def trs (f g h : Nat → Nat) : Array Value := tab 30 fun i => .int .u8 ((if i < 10 then f i else if i < 20 then g (i - 10) else h (i - 20) : Nat) : Int)
theorem trs_size (f g h : Nat → Nat) : (trs f g h).size = 30 := tab_size _ _
theorem flat_trs (f g h : Nat → Nat) : flat (trs f g h) := flat_tab fun _ _ => rfl
theorem trs_first {f g h : Nat → Nat} : ∀ j v, (bys f)[j]? = some v → (trs f g h)[0 + j]? = some v := by
  intro j v hv
  obtain ⟨hj, rfl⟩ := tab_get_some hv
  unfold trs; rw [tab_get (by omega), if_pos (by omega), Nat.zero_add]
theorem trs_second {f g h : Nat → Nat} : ∀ j v, (bys g)[j]? = some v → (trs f g h)[10 + j]? = some v := by
  intro j v hv
  obtain ⟨hj, rfl⟩ := tab_get_some hv
  unfold trs; rw [tab_get (by omega), if_neg (by omega), if_pos (by omega), Nat.add_sub_cancel_left]
theorem trs_third {f g h : Nat → Nat} : ∀ j v, (bys h)[j]? = some v → (trs f g h)[20 + j]? = some v := by
  intro j v hv
  obtain ⟨hj, rfl⟩ := tab_get_some hv
  unfold trs; rw [tab_get (by omega), if_neg (by omega), if_neg (by omega), Nat.add_sub_cancel_left]
theorem trs_get1 {f g h : Nat → Nat} {i : Nat} (hi : i < 10) : (trs f g h)[i]? = some (.int .u8 (f i)) := by
  have := trs_first (f := f) (g := g) (h := h) i _ (bys_get hi); rwa [Nat.zero_add] at this
theorem trs_get2 {f g h : Nat → Nat} {i : Nat} (hi : i < 10) : (trs f g h)[10 + i]? = some (.int .u8 (g i)) := trs_second i _ (bys_get hi)
theorem trs_get3 {f g h : Nat → Nat} {i : Nat} (hi : i < 10) : (trs f g h)[20 + i]? = some (.int .u8 (h i)) := trs_third i _ (bys_get hi)
theorem trs_ext {f g h p q r : Nat → Nat} (h1 : ∀ i, i < 10 → f i = p i) (h2 : ∀ i, i < 10 → g i = q i) (h3 : ∀ i, i < 10 → h i = r i) : trs f g h = trs p q r := by
  refine tab_ext fun i hi => ?_
  by_cases c1 : i < 10
  · rw [if_pos c1, if_pos c1, h1 i c1]
  · rw [if_neg c1, if_neg c1]
    by_cases c2 : i < 20
    · rw [if_pos c2, if_pos c2, h2 _ (by omega)]
    · rw [if_neg c2, if_neg c2, h3 _ (by omega)]
end Go.Proofs.YtocejggobgfccaaGreatDoor

/- Triples of permutations: contracts. -/
namespace Go.Proofs.YtocejggobgfccaaGreatDoor
set_option linter.unusedSimpArgs false
set_option linter.unusedVariables false
open Go.RowKit





end Go.Proofs.YtocejggobgfccaaGreatDoor

/- Cells of a part of an isomorphism; two results of which the first is a struct. -/
namespace Go.Proofs.YtocejggobgfccaaGreatDoor
set_option linter.unusedSimpArgs false
set_option linter.unusedVariables false
open Go Go.RowKit

def pms (m : PM) : Array Value := tab 21 fun i => .int .i64 (if i < 10 then m.to i else if i < 20 then m.used (i - 10) else m.size)
theorem pms_size (m : PM) : (pms m).size = 21 := tab_size _ _
theorem flat_pms (m : PM) : flat (pms m) := flat_tab fun _ _ => rfl
theorem pms_to (m : PM) {i : Nat} (h : i < 10) : (pms m)[i]? = some (.int .i64 (m.to i)) := by
  unfold pms; rw [tab_get (by omega), if_pos h]
theorem pms_used (m : PM) {i : Nat} (h : i < 10) : (pms m)[10 + i]? = some (.int .i64 (m.used i)) := by
  unfold pms; rw [tab_get (by omega), if_neg (by omega), if_pos (by omega), Nat.add_sub_cancel_left]
theorem pms_sz (m : PM) : (pms m)[20]? = some (.int .i64 m.size) := by
  unfold pms; rw [tab_get (by omega)]; rfl
theorem pms_set_to (m : PM) {x : Nat} (v : Int) (hx : x < 10) : (pms m).setIfInBounds x (.int .i64 v) = pms { m with to := fun i => if i = x then v else m.to i } := by
  unfold pms; rw [tab_set]
  refine tab_ext fun j hj => ?_
  dsimp only
  by_cases e : j = x
  · subst e; rw [if_pos rfl, if_pos hx, if_pos rfl]
  · rw [if_neg e, if_neg e]
theorem pms_set_used (m : PM) {y : Nat} (v : Int) (hy : y < 10) : (pms m).setIfInBounds (10 + y) (.int .i64 v) = pms { m with used := fun i => if i = y then v else m.used i } := by
  unfold pms; rw [tab_set]
  refine tab_ext fun j hj => ?_
  dsimp only
  by_cases e : j = 10 + y
  · subst e; rw [if_pos rfl, if_neg (by omega), if_pos (by omega), if_pos (by omega)]
  · rw [if_neg e]
    by_cases h : j < 10
    · rw [if_pos h, if_pos h]
    · rw [if_neg h, if_neg h]
      by_cases h2 : j < 20
      · rw [if_pos h2, if_pos h2, if_neg (by omega)]
      · rw [if_neg h2, if_neg h2]
theorem pms_set_sz (m : PM) (v : Int) : (pms m).setIfInBounds 20 (.int .i64 v) = pms { m with size := v } := by
  unfold pms; rw [tab_set]
  refine tab_ext fun j hj => ?_
  dsimp only
  by_cases e : j = 20
  · subst e; rfl
  · rw [if_neg e, if_pos (show j < 20 by omega), if_pos (show j < 20 by omega)]
theorem pms_add (m : PM) {x y : Nat} (hx : x < 10) (hy : y < 10) : (((pms m).setIfInBounds x (.int .i64 (y : Int))).setIfInBounds (10 + y) (.int .i64 1)).setIfInBounds 20 (.int .i64 (m.size + 1)) = pms (m.add x y) := by
  rw [pms_set_to m _ hx, pms_set_used _ _ hy, pms_set_sz]; rfl

theorem zero_l2m (w : World) : (zeroValue 136).run Tryz.prog w = .ok (.agg (pms ⟨fun _ => 0, fun _ => 0, 0⟩)) w := by kernel_rfl
theorem build_l2m (w : World) : (Instr.build 136 #[]).run Tryz.prog w = .ok (.agg (pms ⟨fun _ => 0, fun _ => 0, 0⟩)) w := by kernel_rfl
theorem und_l2m : Tryz.prog.underlying 136 = some (.struct (Tryz.prog.fieldsOf 136)) := by kernel_rfl
theorem inf_l2m : (Tryz.prog.info? 136).map (·.size) = some 21 := by kernel_rfl

theorem ret_two {a b : Array Value} {c d : Bool} (h : a = b) (k : c = d) : Ending.returned (.tuple #[.agg a, .bool c]) = Ending.returned (.tuple #[.agg b, .bool d]) := by rw [h, k]
end Go.Proofs.YtocejggobgfccaaGreatDoor

/- The reference's closing of a part: a contract. -/
namespace Go.Proofs.YtocejggobgfccaaGreatDoor
set_option linter.unusedSimpArgs false
set_option linter.unusedVariables false
open Go Go.RowKit

set_option maxRecDepth 100000 in
set_option maxHeartbeats 4000000 in
theorem l02Close_any (N : Nat) (t u : Nat → Nat → Nat) (h0 : 1 ≤ N) (h1 : N ≤ 10) (ht : ∀ x y : Nat, x < N → y < N → t x y < N) (hu : ∀ x y : Nat, x < N → y < N → u x y < N) :
    ∀ (K : Nat) (m : PM) (x y : Nat) (w : World), Va N m → x < N → y < N → um m.to N < K →
    Calls Tryz.prog 108 #[.agg (sqs (N : Int) t), .agg (sqs (N : Int) u), .agg (pms m), .int .i64 (x : Int), .int .i64 (y : Int)] w fun e w' =>
      e = .returned (.tuple #[.agg (pms (closeF N t u K m x y).1), .bool (closeF N t u K m x y).2]) ∧ Below w.heap.size w w' := by
  intro K
  induction K with
  | zero => exact fun _ _ _ _ _ _ _ h => absurd h (by omega)
  | succ K IH0 =>
    intro m x y w hv hx hy hK
    have IH := Hid2.mk IH0
    clear IH0
    have HT := Hid2.mk ht
    have HU := Hid2.mk hu
    clear ht hu
    have hz := zero_l2m
    have q1 := (((blk_new w (sqs (N : Int) t) 50 w.heap.size rfl).alloc (.cells (sqs (N : Int) u) 50)).alloc (.cells (pms m) 136)).alloc (.cells (pms ⟨fun _ => 0, fun _ => 0, 0⟩) 136)
    have q2 := ((blk_new (w.alloc (.cells (sqs (N : Int) t) 50)) (sqs (N : Int) u) 50 (w.heap.size + 1) (by simp)).alloc (.cells (pms m) 136)).alloc (.cells (pms ⟨fun _ => 0, fun _ => 0, 0⟩) 136)
    have q3 := (blk_new ((w.alloc (.cells (sqs (N : Int) t) 50)).alloc (.cells (sqs (N : Int) u) 50)) (pms m) 136 (w.heap.size + 1 + 1) (by simp)).alloc (.cells (pms ⟨fun _ => 0, fun _ => 0, 0⟩) 136)
    have q4 := blk_new (((w.alloc (.cells (sqs (N : Int) t) 50)).alloc (.cells (sqs (N : Int) u) 50)).alloc (.cells (pms m) 136)) (pms ⟨fun _ => 0, fun _ => 0, 0⟩) 136 (w.heap.size + 1 + 1 + 1) (by simp)
    have qB : Below w.heap.size w ((((w.alloc (.cells (sqs (N : Int) t) 50)).alloc (.cells (sqs (N : Int) u) 50)).alloc (.cells (pms m) 136)).alloc (.cells (pms ⟨fun _ => 0, fun _ => 0, 0⟩) 136)) := by
      repeat (first | exact Below.refl _ _ | (refine below_alloc ?_ _))
    have c1 := q3.cell _ _ (pms_to m (i := x) (by omega))
    have c2 := q3.cell _ _ (pms_used m (i := y) (by omega))
    have f1 := q3.free x
    by_cases hc : 0 ≤ m.to x ∨ 0 < m.used y
    · have hF : closeF N t u (K + 1) m x y = (m, decide (m.to x = y)) := by simp only [closeF]; rw [if_pos hc]
      rw [hF]
      clear IH hF
      by_cases hA : 0 ≤ m.to x
      · go_enter Tryz.func108, Tryz.ntmps108
        go_wp2
        clear hz
        apply wp_region_new1 7 _ (fun g w' => Below w.heap.size w w' ∧ blk w' (w.heap.size + 1 + 1) (pms m) 136 ∧ blk w' (w.heap.size + 1 + 1 + 1) (bif g.isEmpty then pms ⟨fun _ => 0, fun _ => 0, 0⟩ else pms m) 136) (by kernel_rfl) (by kernel_rfl) rfl rfl; (case hS => exact ⟨by exact qB.drew, q3.drew, q4.drew⟩); (case ht => simp only [List.take_succ_cons, List.take_zero]; repeat (first | exact wpTextG_nil | (apply wpTextG_cons; (intro g w2 hS; obtain ⟨hB2, d3, d4⟩ := hS; have k1 := d3.cell _ _ (pms_to m (i := x) (by omega)); go_wp2_with (first | (refine wpList_load_part rfl 136 _ rfl (w.heap.size + 1 + 1) (0) rfl (pms m) _ und_l2m rfl inf_l2m (cells_of_blk0 d3) ?_)); (first | exact ⟨rfl, rfl, hB2, d3, d4⟩)); rfl))); (case hA => intro w2 hS; obtain ⟨hB2, d3, d4⟩ := hS; refine yield_store (ops := #[]) (by exact rfl) (by exact rfl) ?_ ; go_wp2_with (first | (refine wpList_store_row rfl 136 _ _ rfl _ rfl _ rfl inf_l2m _ _ (d4) (by simp [pms_size]) (flat_pms _) ?_)) ; exact ⟨below_put hB2 (by omega) _ _, blk_put_other d3 (by omega), blk_put d4 _⟩)
        (intro v9 w2 hS; simp only [List.drop_succ_cons, List.drop_zero]; obtain ⟨hB2, d3, d4⟩ := hS)
        go_wp2
        refine bodyPost_ret (v := .tuple #[.agg (pms m), .bool (decide (m.to x = y))]) (by exact results_part2 rfl _ _ _ _ (pms m) _ rfl und_l2m rfl inf_l2m (cells_of_blk0 (d4)) _ rfl) rfl ?_
        exact ⟨by first | rfl | (congr 1), hB2⟩
      · have hc' : m.to x < 0 := by omega
        have hc2 : 0 < m.used y := by omega
        go_enter Tryz.func108, Tryz.ntmps108
        go_wp2
        clear hz
        apply wp_region_new1 7 _ (fun g w' => Below w.heap.size w w' ∧ blk w' (w.heap.size + 1 + 1) (pms m) 136 ∧ blk w' (w.heap.size + 1 + 1 + 1) (bif g.isEmpty then pms ⟨fun _ => 0, fun _ => 0, 0⟩ else pms m) 136) (by kernel_rfl) (by kernel_rfl) rfl rfl; (case hS => exact ⟨by exact qB.drew, q3.drew, q4.drew⟩); (case ht => simp only [List.take_succ_cons, List.take_zero]; repeat (first | exact wpTextG_nil | (apply wpTextG_cons; (intro g w2 hS; obtain ⟨hB2, d3, d4⟩ := hS; have k1 := d3.cell _ _ (pms_to m (i := x) (by omega)); go_wp2_with (first | (refine wpList_load_part rfl 136 _ rfl (w.heap.size + 1 + 1) (0) rfl (pms m) _ und_l2m rfl inf_l2m (cells_of_blk0 d3) ?_)); (first | exact ⟨rfl, rfl, hB2, d3, d4⟩)); rfl))); (case hA => intro w2 hS; obtain ⟨hB2, d3, d4⟩ := hS; refine yield_store (ops := #[]) (by exact rfl) (by exact rfl) ?_ ; go_wp2_with (first | (refine wpList_store_row rfl 136 _ _ rfl _ rfl _ rfl inf_l2m _ _ (d4) (by simp [pms_size]) (flat_pms _) ?_)) ; exact ⟨below_put hB2 (by omega) _ _, blk_put_other d3 (by omega), blk_put d4 _⟩)
        (intro v9 w2 hS; simp only [List.drop_succ_cons, List.drop_zero]; obtain ⟨hB2, d3, d4⟩ := hS)
        go_wp2
        refine bodyPost_ret (v := .tuple #[.agg (pms m), .bool (decide (m.to x = y))]) (by exact results_part2 rfl _ _ _ _ (pms m) _ rfl und_l2m rfl inf_l2m (cells_of_blk0 (d4)) _ rfl) rfl ?_
        exact ⟨by first | rfl | (congr 1), hB2⟩
    · have hx0 : m.to x < 0 := by omega
      have hy0 : ¬ 0 < m.used y := fun h => hc (.inr h)
      have hy1 : m.used y ≤ 0 := by omega
      have hF : closeF N t u (K + 1) m x y = closeL (closeF N t u K) t u x y N 0 (m.add x y) := by simp only [closeF]; rw [if_neg hc]
      rw [hF]
      clear hF hc
      have hva := hv.add hx hy hx0 hy0
      have hum : um (m.add x y).to N < K := by
        have := um_add (f := m.to) (x := x) (y := (y : Int)) hx0 (by omega) N
        rw [if_pos hx] at this
        show um (fun i => if i = x then (y : Int) else m.to i) N < K
        omega
      have hsz := hv.size
      have hul := um_le m.to N
      obtain ⟨sz, hsz1⟩ : ∃ sz : Nat, m.size = sz := ⟨N - um m.to N, by omega⟩
      have a1 : ((pms m).setIfInBounds x (.int .i64 (y : Int)))[10 + y]? = some (.int .i64 (m.used y)) := by rw [pms_set_to m _ (by omega), pms_used _ (by omega)]
      have a2 : (((pms m).setIfInBounds x (.int .i64 (y : Int))).setIfInBounds (10 + y) (.int .i64 1))[20]? = some (.int .i64 (sz : Int)) := by rw [pms_set_to m _ (by omega), pms_set_used _ _ (by omega), pms_sz, ← hsz1]
      have a3 : (((pms m).setIfInBounds x (.int .i64 (y : Int))).setIfInBounds (10 + y) (.int .i64 1)).setIfInBounds 20 (.int .i64 ((sz : Int) + 1)) = pms (m.add x y) := by rw [← hsz1]; exact pms_add m (by omega) (by omega)
      have a0 := pms_to m (i := x) (by omega)
      clear q1 q2 q3 q4 qB
--LOOP
      go_enter Tryz.func108, Tryz.ntmps108
      go_wp2
      clear a0 a1 a2 a3 c1 c2 f1
      go_loopw [12, 13, 14, 15, 16] (fun i _ _ _ _ wr => ∃ (a : Nat) (M : PM), a ≤ N ∧ i = .int .i64 (a : Int) ∧ Below w.heap.size w wr ∧ blk wr w.heap.size (sqs (N : Int) t) 50 ∧ blk wr (w.heap.size + 1) (sqs (N : Int) u) 50 ∧ blk wr (w.heap.size + 1 + 1) (pms M) 136 ∧ blk wr (w.heap.size + 1 + 1 + 1) (pms ⟨fun _ => 0, fun _ => 0, 0⟩) 136 ∧ Va N M ∧ um M.to N < K ∧
        closeL (closeF N t u K) t u x y (N - a) a M = closeL (closeF N t u K) t u x y N 0 (m.add x y)) (fun i _ _ _ _ _ => N - (intOf i).toNat)
      case atStart =>
        refine ⟨0, m.add x y, by omega, rfl, ?_, ?_, ?_, ?_, ?_, hva, hum, rfl⟩
        · repeat (first | exact Below.refl _ _ | (refine below_alloc ?_ _))
        all_goals (repeat (first | (refine blk_new _ _ _ _ ?_; (simp; done)) | apply blk.alloc))
      case round =>
        obtain ⟨a, M, ha, rfl, hB, b1, b2, b3, b4, vM, uM, hR⟩ := hrel
        clear hva hum hv hK hx0 hy1 hy0
        have c0 := b1.cell 0 _ (sqs_order (N : Int) t)
        by_cases hlt : a < N
        · have hlt' : (a : Int) < (N : Int) := by omega
          rw [show N - a = (N - (a + 1)) + 1 by omega] at hR
          simp only [closeL] at hR
          have c1 := b3.cell _ _ (pms_to M (i := a) (by omega))
          by_cases hma : M.to a < 0
          · rw [if_pos hma] at hR
            go_wp2
            go_roundw
            case rel => exact ⟨a + 1, M, by omega, by go_num, hB, b1, b2, b3, b4, vM, uM, hR⟩
            case measure => simp [intOf]; omega
          · rw [if_neg hma] at hR
            obtain ⟨v, hv⟩ : ∃ v : Nat, M.to a = v := ⟨(M.to a).toNat, by omega⟩
            have hvN : v < N := by have := vM.lt a hlt; omega
            rw [hv] at c1 hR
            have hma0 : ¬ ((v : Int) < 0) := by omega
            simp only [Int.toNat_natCast] at hR
            have hxa := HT.out x a hx hlt
            have hax := HT.out a x hlt hx
            have hyv := HU.out y v hy hvN
            have hvy := HU.out v y hvN hy
            have hC1 := closeF_closes HT.out HU.out K M (t x a) (u y v) vM hxa hyv uM
            have hI1 := IH.out M (t x a) (u y v)
            generalize hR1 : closeF N t u K M (t x a) (u y v) = R1 at hR hC1 hI1
            go_wp2
            apply wp_region_new2 24 _ _ (fun g w' => Below w.heap.size w w' ∧ blk w' w.heap.size (sqs (N : Int) t) 50 ∧ blk w' (w.heap.size + 1) (sqs (N : Int) u) 50 ∧ blk w' (w.heap.size + 1 + 1) (pms M) 136 ∧ blk w' (w.heap.size + 1 + 1 + 1) (pms ⟨fun _ => 0, fun _ => 0, 0⟩) 136 ∧ Got g w' (w.heap.size + 1 + 1 + 1 + 1) (bif g.tail.isEmpty then pms ⟨fun _ => 0, fun _ => 0, 0⟩ else pms R1.1) 136) (by kernel_rfl) (by kernel_rfl) rfl rfl rfl rfl; (case hS => exact ⟨hB.drew, b1.drew, b2.drew, b3.drew, b4.drew, Got.none _ _ _ _⟩); (case ht => simp only [List.take_succ_cons, List.take_zero]; repeat (first | exact wpTextG_nil | (apply wpTextG_cons; (intro g w2 hS; obtain ⟨hB5, e1, e2, e3, e4, e5⟩ := hS; have k1 := e1.cell _ _ (sqs_get (n := (N : Int)) (t := t) (x := x) (y := a) (by omega) (by omega)) ; have k2 := e2.cell _ _ (sqs_get (n := (N : Int)) (t := u) (x := y) (y := v) (by omega) (by omega)) ; have k3 := (e3.cell _ _ (pms_to M (i := a) (by omega))).trans (by rw [hv]); go_wp2_with (first | (refine wpList_load_part rfl 50 _ rfl (w.heap.size) (0) rfl (sqs (N : Int) t) _ und_sqs rfl inf_sqs (cells_of_blk0 e1) ?_) | (refine wpList_load_part rfl 50 _ rfl (w.heap.size + 1) (0) rfl (sqs (N : Int) u) _ und_sqs rfl inf_sqs (cells_of_blk0 e2) ?_) | (refine wpList_load_part rfl 136 _ rfl (w.heap.size + 1 + 1) (0) rfl (pms M) _ und_l2m rfl inf_l2m (cells_of_blk0 e3) ?_) | (go_at_call 108; ((with_reducible refine (hI1 _ vM hxa hyv uM).mono ?_); rintro e w3 ⟨rfl, hb⟩))); (first | exact ⟨rfl, rfl, hB5, e1, e2, e3, e4, e5⟩ | exact ⟨rfl, rfl, below_self hB5 hb, e1.later hb, e2.later hb, e3.later hb, e4.later hb, e5.later hb⟩)); rfl))); (case hA => intro w2 hS; obtain ⟨hB5, e1, e2, e3, e4, e5⟩ := hS; have hl4 := e4.lt ; exact yield_alloc (by exact rfl) zero_l2m ⟨below_alloc hB5 _, e1.alloc _, e2.alloc _, e3.alloc _, e4.alloc _, Got.new _ _ (by omega)⟩); (case hA2 => intro v9 w2 hS; obtain ⟨hB5, e1, e2, e3, e4, e5⟩ := hS; obtain ⟨b9, rfl, hb, e7⟩ := e5 v9 [] rfl ; refine yield_store (ops := #[]) (by exact rfl) (by exact rfl) ?_ ; go_wp2_with (first | (refine wpList_store_row rfl 136 _ _ rfl _ rfl _ rfl inf_l2m _ _ (e7) (by simp [pms_size]) (flat_pms _) ?_)) ; exact ⟨below_put hB5 (by omega) _ _, blk_put_other e1 (by omega), blk_put_other e2 (by omega), blk_put_other e3 (by omega), blk_put_other e4 (by omega), Got.made hb (blk_put e7 _) _⟩)
            (intro v9 u9 w2 hS; simp only [List.drop_succ_cons, List.drop_zero]; obtain ⟨hB4, d1, d2, d3, d4, d5⟩ := hS)
            obtain ⟨b, rfl, hb, d6⟩ := d5 _ _ rfl
            have d7 : blk w2 b (pms R1.1) 136 := d6
            clear d5 d6 b1 b2 b3 b4 hB c0 c1
            cases h1 : R1.2 with
            | false =>
              rw [if_pos h1] at hR
              go_wp2_with (first | (refine wpList_load_part rfl 136 _ rfl (b) (0) rfl (pms R1.1) _ und_l2m rfl inf_l2m (cells_of_blk0 d7) ?_) | (refine wpList_store_row rfl 136 _ _ rfl _ rfl _ rfl inf_l2m _ _ (d4) (by simp [pms_size]) (flat_pms _) ?_))
              refine bodyPost_ret (v := .tuple #[.agg (pms R1.1), .bool false]) (by exact results_part2 rfl _ _ _ _ (pms R1.1) _ rfl und_l2m rfl inf_l2m (cells_of_blk0 (blk_put d4 _)) _ rfl) rfl ?_
              rw [← hR]
              exact ⟨by first | rfl | exact ret_two rfl rfl, below_put hB4 (by omega) _ _⟩
            | true =>
              rw [if_neg (by rw [h1]; simp)] at hR
              have hv1 := hC1.va h1
              have hu1 : um R1.1.to N < K := Nat.lt_of_le_of_lt (um_mono N fun z hz h => by rw [hC1.sub h1 z hz h]; exact h) uM
              have hC2 := closeF_closes HT.out HU.out K R1.1 (t a x) (u v y) hv1 hax hvy hu1
              have hI2 := IH.out R1.1 (t a x) (u v y)
              generalize hR2 : closeF N t u K R1.1 (t a x) (u v y) = R2 at hR hC2 hI2
              go_wp2
              apply wp_region_new2 24 _ _ (fun g w' => Below w.heap.size w w' ∧ blk w' w.heap.size (sqs (N : Int) t) 50 ∧ blk w' (w.heap.size + 1) (sqs (N : Int) u) 50 ∧ blk w' (w.heap.size + 1 + 1) (pms M) 136 ∧ blk w' (w.heap.size + 1 + 1 + 1) (pms ⟨fun _ => 0, fun _ => 0, 0⟩) 136 ∧ blk w' b (pms R1.1) 136 ∧ Got g w' (b + 1) (bif g.tail.isEmpty then pms ⟨fun _ => 0, fun _ => 0, 0⟩ else pms R2.1) 136) (by kernel_rfl) (by kernel_rfl) rfl rfl rfl rfl; (case hS => exact ⟨hB4.drew, d1.drew, d2.drew, d3.drew, d4.drew, d7.drew, Got.none _ _ _ _⟩); (case ht => simp only [List.take_succ_cons, List.take_zero]; repeat (first | exact wpTextG_nil | (apply wpTextG_cons; (intro g w2 hS; obtain ⟨hB5, e1, e2, e3, e4, e6, e5⟩ := hS; have k1 := e1.cell _ _ (sqs_get (n := (N : Int)) (t := t) (x := a) (y := x) (by omega) (by omega)) ; have k2 := e2.cell _ _ (sqs_get (n := (N : Int)) (t := u) (x := v) (y := y) (by omega) (by omega)) ; have k3 := (e3.cell _ _ (pms_to M (i := a) (by omega))).trans (by rw [hv]); go_wp2_with (first | (refine wpList_load_part rfl 50 _ rfl (w.heap.size) (0) rfl (sqs (N : Int) t) _ und_sqs rfl inf_sqs (cells_of_blk0 e1) ?_) | (refine wpList_load_part rfl 50 _ rfl (w.heap.size + 1) (0) rfl (sqs (N : Int) u) _ und_sqs rfl inf_sqs (cells_of_blk0 e2) ?_) | (refine wpList_load_part rfl 136 _ rfl (b) (0) rfl (pms R1.1) _ und_l2m rfl inf_l2m (cells_of_blk0 e6) ?_) | (go_at_call 108; ((with_reducible refine (hI2 _ hv1 hax hvy hu1).mono ?_); rintro e w3 ⟨rfl, hb⟩))); (first | exact ⟨rfl, rfl, hB5, e1, e2, e3, e4, e6, e5⟩ | exact ⟨rfl, rfl, below_self hB5 hb, e1.later hb, e2.later hb, e3.later hb, e4.later hb, e6.later hb, e5.later hb⟩)); rfl))); (case hA => intro w2 hS; obtain ⟨hB5, e1, e2, e3, e4, e6, e5⟩ := hS; have hl4 := e6.lt ; exact yield_alloc (by exact rfl) zero_l2m ⟨below_alloc hB5 _, e1.alloc _, e2.alloc _, e3.alloc _, e4.alloc _, e6.alloc _, Got.new _ _ (by omega)⟩); (case hA2 => intro v9 w2 hS; obtain ⟨hB5, e1, e2, e3, e4, e6, e5⟩ := hS; obtain ⟨b9, rfl, hb, e7⟩ := e5 v9 [] rfl ; refine yield_store (ops := #[]) (by exact rfl) (by exact rfl) ?_ ; go_wp2_with (first | (refine wpList_store_row rfl 136 _ _ rfl _ rfl _ rfl inf_l2m _ _ (e7) (by simp [pms_size]) (flat_pms _) ?_)) ; exact ⟨below_put hB5 (by omega) _ _, blk_put_other e1 (by omega), blk_put_other e2 (by omega), blk_put_other e3 (by omega), blk_put_other e4 (by omega), blk_put_other e6 (by omega), Got.made hb (blk_put e7 _) _⟩)
              (intro v9 u9 w2 hS; simp only [List.drop_succ_cons, List.drop_zero]; obtain ⟨hB6, d1, d2, d3, d4, d5, d6⟩ := hS)
              obtain ⟨b9, rfl, hb9, d8⟩ := d6 _ _ rfl
              have d9 : blk w2 b9 (pms R2.1) 136 := d8
              clear d6 d8 d7
              cases h2 : R2.2 with
              | false =>
                rw [if_pos h2] at hR
                go_wp2_with (first | (refine wpList_load_part rfl 136 _ rfl (b9) (0) rfl (pms R2.1) _ und_l2m rfl inf_l2m (cells_of_blk0 d9) ?_) | (refine wpList_store_row rfl 136 _ _ rfl _ rfl _ rfl inf_l2m _ _ (d4) (by simp [pms_size]) (flat_pms _) ?_))
                refine bodyPost_ret (v := .tuple #[.agg (pms R2.1), .bool false]) (by exact results_part2 rfl _ _ _ _ (pms R2.1) _ rfl und_l2m rfl inf_l2m (cells_of_blk0 (blk_put d4 _)) _ rfl) rfl ?_
                rw [← hR]
                exact ⟨by first | rfl | exact ret_two rfl rfl, below_put hB6 (by omega) _ _⟩
              | true =>
                rw [if_neg (by rw [h2]; simp)] at hR
                have hv2 := hC2.va h2
                have hu2 : um R2.1.to N < K := Nat.lt_of_le_of_lt (um_mono N fun z hz h => by rw [hC2.sub h2 z hz h]; exact h) hu1
                go_wp2_with (first | (refine wpList_load_part rfl 136 _ rfl (b9) (0) rfl (pms R2.1) _ und_l2m rfl inf_l2m (cells_of_blk0 d9) ?_) | (refine wpList_store_row rfl 136 _ _ rfl _ rfl _ rfl inf_l2m _ _ (d3) (by simp [pms_size]) (flat_pms _) ?_))
                go_roundw
                case rel => exact ⟨a + 1, R2.1, by omega, by go_num, below_put hB6 (by omega) _ _, blk_put_other d1 (by omega), blk_put_other d2 (by omega), blk_put d3 _, blk_put_other d4 (by omega), hv2, hu2, hR⟩
                case measure => simp [intOf]; omega
        · have haN : a = N := by omega
          subst haN
          rw [Nat.sub_self] at hR
          simp only [closeL] at hR
          have hge : ¬ ((a : Int) < (a : Int)) := by omega
          go_wp2_with (first | (refine wpList_load_part rfl 136 _ rfl (w.heap.size + 1 + 1) (0) rfl (pms M) _ und_l2m rfl inf_l2m (cells_of_blk0 b3) ?_) | (refine wpList_store_row rfl 136 _ _ rfl _ rfl _ rfl inf_l2m _ _ (b4) (by simp [pms_size]) (flat_pms _) ?_))
          refine bodyPost_ret (v := .tuple #[.agg (pms M), .bool true]) (by exact results_part2 rfl _ _ _ _ (pms M) _ rfl und_l2m rfl inf_l2m (cells_of_blk0 (blk_put b4 _)) _ rfl) rfl ?_
          rw [← hR]
          exact ⟨by first | rfl | exact ret_two rfl rfl, below_put hB (by omega) _ _⟩
end Go.Proofs.YtocejggobgfccaaGreatDoor

/- The part that has nothing, and the places of a part: contracts. -/
namespace Go.Proofs.YtocejggobgfccaaGreatDoor
set_option linter.unusedSimpArgs false
set_option linter.unusedVariables false
open Go Go.RowKit

/-- The part that has nothing. -/
def PM.zero : PM := ⟨fun _ => -1, fun _ => 0, 0⟩
theorem pms_ext {m m' : PM} (h1 : ∀ i, i < 10 → m.to i = m'.to i) (h2 : ∀ i, i < 10 → m.used i = m'.used i) (h3 : m.size = m'.size) : pms m = pms m' :=
  tab_ext fun i _ => by
    by_cases h : i < 10
    · rw [if_pos h, if_pos h, h1 i h]
    · rw [if_neg h, if_neg h]
      by_cases h' : i < 20
      · rw [if_pos h', if_pos h', h2 _ (by omega)]
      · rw [if_neg h', if_neg h', h3]
theorem start_step (k : Nat) (hk : k < 10) : (pms ⟨fun i => if i < k then -1 else 0, fun _ => 0, 0⟩).setIfInBounds k (.int .i64 (-1)) = pms ⟨fun i => if i < k + 1 then -1 else 0, fun _ => 0, 0⟩ := by
  rw [pms_set_to _ _ hk]
  refine pms_ext (fun i _ => ?_) (fun _ _ => rfl) rfl
  dsimp only
  by_cases h : i = k
  · subst h; rw [if_pos rfl, if_pos (by omega)]
  · rw [if_neg h]
    by_cases h' : i < k
    · rw [if_pos h', if_pos (by omega)]
    · rw [if_neg h', if_neg (by omega)]
/-- The places of a part. -/
def plTo (m : PM) (n : Nat) (i : Nat) : Nat := if i < n then (m.to i).toNat else 0
theorem plTo_set (m : PM) (k : Nat) : (bys (plTo m k)).setIfInBounds k (.int .u8 ((m.to k).toNat : Int)) = bys (plTo m (k + 1)) := by
  rw [bys_set]
  refine bys_ext fun i _ => ?_
  unfold plTo
  by_cases h : i = k
  · subst h; rw [if_pos rfl, if_pos (by omega)]
  · rw [if_neg h]
    by_cases h' : i < k
    · rw [if_pos h', if_pos (by omega)]
    · rw [if_neg h', if_neg (by omega)]

set_option maxRecDepth 100000 in
set_option maxHeartbeats 1000000 in
theorem l02Start_any (w : World) : Calls Tryz.prog 101 #[] w fun e w' => e = .returned (.agg (pms PM.zero)) ∧ Below w.heap.size w w' := by
  have hz := zero_l2m
  have hbd := build_l2m
  go_enter Tryz.func101, Tryz.ntmps101
  go_wp2_with (first | (refine wpList_store_row rfl 136 _ _ rfl _ rfl _ rfl inf_l2m _ _ (blk_new _ _ _ _ (by simp)) (by simp [pms_size]) (flat_pms _) ?_))
  clear hz hbd
  go_loopw [2] (fun i wr => ∃ k : Nat, k ≤ 10 ∧ i = .int .i64 k ∧ Below w.heap.size w wr ∧ blk wr w.heap.size (pms ⟨fun _ => 0, fun _ => 0, 0⟩) 136 ∧ blk wr (w.heap.size + 1) (pms ⟨fun i => if i < k then -1 else 0, fun _ => 0, 0⟩) 136) (fun i _ => (10 - intOf i).toNat)
  case atStart => exact ⟨0, by omega, rfl, below_put (((Below.refl _ _).alloc (by simp) _).alloc (by simp) _) (by omega) _ _, blk_put_other (by repeat (first | (refine blk_new _ _ _ _ ?_; (simp; done)) | apply blk.alloc)) (by omega), (blk_put (blk_new _ _ _ _ (by simp)) _).eq (pms_ext (fun i _ => by simp) (fun _ _ => rfl) rfl)⟩
  case round =>
    obtain ⟨k, hk, rfl, hB, b0, b1⟩ := hrel
    by_cases hlt : k < 10
    · have hlt' : (k : Int) < 10 := by omega
      have fo := b1.free k
      have co := b1.cell k _ (pms_to _ hlt)
      go_wp2
      go_roundw
      case rel => exact ⟨k + 1, by omega, by go_num, hB.setCell (by first | (simp; done) | (simp; omega)) _, b0.other _ _ (by omega), (b1.set _ _).eq (start_step k hlt)⟩
      case measure => simp [intOf]; omega
    · obtain rfl : k = 10 := by omega
      have b2 := b1.eq (cs' := pms PM.zero) (pms_ext (fun i hi => by simp [PM.zero, hi]) (fun _ _ => rfl) rfl)
      go_wp2_with (first | (refine wpList_load_part rfl 136 _ rfl _ _ rfl (pms PM.zero) _ und_l2m rfl inf_l2m (cells_of_blk0 b2) ?_) | (refine wpList_store_row rfl 136 _ _ rfl _ rfl _ rfl inf_l2m _ _ (b0) (by simp [pms_size]) (flat_pms _) ?_))
      refine bodyPost_ret (v := .agg (pms PM.zero)) (by exact results_part rfl _ _ _ _ _ _ rfl und_l2m rfl inf_l2m (cells_of_blk0 (blk_put b0 _))) rfl ?_
      exact ⟨rfl, below_put hB (by omega) _ _⟩

set_option maxRecDepth 100000 in
set_option maxHeartbeats 1000000 in
theorem l02Places_any (N : Nat) (m : PM) (w : World) (h1 : N ≤ 10) (hm : ∀ i, i < N → 0 ≤ m.to i ∧ m.to i < 10) :
    Calls Tryz.prog 107 #[.agg (pms m), .int .i64 (N : Int)] w fun e w' => e = .returned (.agg (bys (plTo m N))) ∧ Below w.heap.size w w' := by
  have hz := zero_plc
  have hbd := build_plc
  go_enter Tryz.func107, Tryz.ntmps107
  go_wp2_with (first | (refine wpList_store_row rfl 59 _ _ rfl _ rfl _ rfl inf_plc _ _ (blk_new _ _ _ _ (by simp)) (by simp [bys_size]) (flat_bys _) ?_))
  clear hz hbd
  go_loopw [6] (fun i wr => ∃ k : Nat, k ≤ N ∧ i = .int .i64 k ∧ Below w.heap.size w wr ∧ blk wr w.heap.size (pms m) 136 ∧ blk wr (w.heap.size + 1) (bys fun _ => 0) 59 ∧ blk wr (w.heap.size + 1 + 1) (bys (plTo m k)) 59) (fun i _ => ((N : Int) - intOf i).toNat)
  case atStart => exact ⟨0, by omega, rfl, below_put ((((Below.refl _ _).alloc (by simp) _).alloc (by simp) _).alloc (by simp; omega) _) (by omega) _ _, blk_put_other (by repeat (first | (refine blk_new _ _ _ _ ?_; (simp; done)) | apply blk.alloc)) (by omega), blk_put_other (by repeat (first | (refine blk_new _ _ _ _ ?_; (simp; done)) | apply blk.alloc)) (by omega), (blk_put (blk_new _ _ _ _ (by simp)) _).eq (bys_ext fun i hi => by simp [plTo])⟩
  case round =>
    obtain ⟨k, hk, rfl, hB, b0, br, bo⟩ := hrel
    by_cases hlt : k < N
    · have hlt' : (k : Int) < (N : Int) := by omega
      obtain ⟨v, hv⟩ : ∃ v : Nat, m.to k = v := ⟨(m.to k).toNat, by have := hm k hlt; omega⟩
      have hv10 : v < 10 := by have := hm k hlt; omega
      have c0 := (b0.cell k _ (pms_to m (by omega))).trans (by rw [hv])
      have fo := bo.free k
      have co := bo.cell k _ (bys_get (by omega))
      go_wp2
      go_roundw
      case rel => exact ⟨k + 1, by omega, by go_num, hB.setCell (by first | (simp; done) | (simp; omega)) _, b0.other _ _ (by omega), br.other _ _ (by omega), (bo.set _ _).eq (by have := plTo_set m k; rw [hv] at this; exact this)⟩
      case measure => simp [intOf]; omega
    · obtain rfl : k = N := by omega
      have hge : ¬ ((k : Int) < (k : Int)) := by omega
      go_wp2_with (first | (refine wpList_load_part rfl 59 _ rfl _ _ rfl (bys (plTo m k)) _ und_plc rfl inf_plc (cells_of_blk0 bo) ?_) | (refine wpList_store_row rfl 59 _ _ rfl _ rfl _ rfl inf_plc _ _ (br) (by simp [bys_size]) (flat_bys _) ?_))
      refine bodyPost_ret (v := .agg (bys (plTo m k))) (by exact results_part rfl _ _ _ _ _ _ rfl und_plc rfl inf_plc (cells_of_blk0 (blk_put br _))) rfl ?_
      exact ⟨rfl, below_put hB (by omega) _ _⟩
end Go.Proofs.YtocejggobgfccaaGreatDoor

/- The reference's search for isomorphisms: a contract. -/
namespace Go.Proofs.YtocejggobgfccaaGreatDoor
set_option linter.unusedSimpArgs false
set_option linter.unusedVariables false
open Go Go.RowKit

theorem und_slp : Tryz.prog.underlying 122 = some (.slice 59) := by kernel_rfl
theorem inf_elp : (Tryz.prog.info? 59).map (fun i => (i.zero, i.size, i.bytes)) = some (some (.agg (bys fun _ => 0)), 10, 10) := by kernel_rfl

theorem bsl_plc (f : Nat → Nat) (w : World) : (Instr.buildSlice 122 1 [(0, Value.agg (bys f))].toArray).run Tryz.prog w = .ok (.slice (some ⟨w.heap.size, 0, none⟩) 1 1) (w.alloc (.cells (bys f) 59)) := by kernel_rfl
/-- The cells of a list of words. -/
def plCells (l : List (List Nat)) : List Value := l.flatMap fun p => (bys fun i => p.getD i 0).toList
theorem plCells_snoc (l : List (List Nat)) (p : List Nat) : plCells (l ++ [p]) = plCells l ++ (bys fun i => p.getD i 0).toList := by simp [plCells]
theorem bys_word {N : Nat} (m : PM) (h : N ≤ 10) : bys (fun i => (wordOf N m.abs).getD i 0) = bys (plTo m N) := by
  refine bys_ext fun i _ => ?_
  unfold plTo
  by_cases hi : i < N
  · rw [if_pos hi]
    simp only [wordOf, List.getD_eq_getElem?_getD, List.getElem?_map, List.getElem?_range hi, Option.map_some, Option.getD_some]
    unfold PM.abs
    split
    · rename_i h; simp; omega
    · rfl
  · rw [if_neg hi]
    simp [wordOf, List.getD_eq_getElem?_getD, hi]

theorem own_later {w w' : World} {base e size n : Nat} {v : Value} {xs : List Value} (h : w.ownsRow base e size v n xs) (hb : Below w.heap.size w w') : w'.ownsRow base e size v n xs :=
  h.kept (row := none) ⟨hb.os, hb.tape, hb.output, hb.size, fun k hk _ => hb.block k hk⟩ (by cases v.ownBlock <;> simp)
theorem flat_prefix {α : Type} (f : Nat → List α) {y N : Nat} (h : y ≤ N) : ∃ B, (List.range N).flatMap f = (List.range y).flatMap f ++ B := by
  induction N with
  | zero => exact ⟨[], by rw [show y = 0 by omega]; simp⟩
  | succ N ih =>
    by_cases e : y = N + 1
    · exact ⟨[], by rw [e]; simp⟩
    · obtain ⟨B, hB⟩ := ih (by omega)
      exact ⟨B ++ f N, by rw [List.range_succ, List.flatMap_append, hB, List.flatMap_singleton, List.append_assoc]⟩
theorem grown_put (w : World) (b : Nat) (cs : Array Value) (t : Nat) : w.grownBy (World.put w b cs t) (some b) :=
  ⟨rfl, rfl, rfl, by simp [World.put], fun k _ hk => by simp only [World.put]; rw [Array.getElem?_setIfInBounds, if_neg (fun e => hk (by rw [e]))]⟩
theorem own_put {w : World} {base e size n b : Nat} {v : Value} {xs : List Value} (h : w.ownsRow base e size v n xs) (cs : Array Value) (t : Nat) (hb : v.ownBlock ≠ some b) : (World.put w b cs t).ownsRow base e size v n xs :=
  h.kept (grown_put w b cs t) (.inr hb)
theorem new_put (w : World) (cs cs' : Array Value) (t : Nat) (row : Option Nat) : w.grownBy (World.put (w.alloc (.cells cs t)) w.heap.size cs' t) row :=
  ⟨rfl, rfl, rfl, by simp [World.put], fun k hk _ => by
    have e : (w.alloc (.cells cs t)).heap[k]? = w.heap[k]? := by show (w.heap.push _)[k]? = _; rw [Array.getElem?_push, if_neg (by omega)]
    simp only [World.put]; rw [Array.getElem?_setIfInBounds, if_neg (by omega), e]⟩
theorem put_lt (w : World) (cs cs' : Array Value) (t b : Nat) : w.heap.size < (World.put (w.alloc (.cells cs t)) b cs' t).heap.size := by simp [World.put]
/-- The block of a list: the one that it had, or a new one. -/
def FarOr (v' v : Value) (lo : Nat) : Prop := v'.ownBlock = v.ownBlock ∨ ∃ g, v'.ownBlock = some g ∧ lo ≤ g
theorem FarOr.refl (v : Value) (lo : Nat) : FarOr v v lo := .inl rfl
theorem FarOr.ne {v' v : Value} {w : World} {lo b base e size n : Nat} {xs : List Value} (h : FarOr v' v lo) (hv : w.ownsRow base e size v n xs) (hb : w.heap.size ≤ b) (hl : b < lo) : v'.ownBlock ≠ some b := fun e => by
  rcases h with h | ⟨g, h, h2⟩
  · rw [h] at e; have := (hv.lt b e).2; omega
  · rw [h] at e; cases e; omega
theorem FarOr.trans {v'' v' v : Value} {lo lo' : Nat} (h : FarOr v'' v' lo') (k : FarOr v' v lo) (hl : lo ≤ lo') : FarOr v'' v lo := by
  rcases h with h | ⟨g, h, h2⟩
  · rcases k with k | ⟨g, k, k2⟩
    · exact .inl (h.trans k)
    · exact .inr ⟨g, h.trans k, k2⟩
  · exact .inr ⟨g, h, by omega⟩
theorem FarOr.mono {v' v : Value} {lo lo' : Nat} (h : FarOr v' v lo') (hl : lo ≤ lo') : FarOr v' v lo := h.trans (.refl _ _) hl
theorem grown_then {a b c : World} {v v' : Value} {lo : Nat} (h : a.grownBy b v.ownBlock) (k : b.grownBy c v'.ownBlock) (hf : FarOr v' v lo) (hl : a.heap.size ≤ lo) : a.grownBy c v.ownBlock :=
  h.andThen k fun j hj => by
    rcases hf with hf | ⟨g, hf, h2⟩
    · exact .inr (by rw [← hf]; exact hj)
    · rw [hf] at hj; cases hj; exact .inl (by omega)

/-- What the search gives: a list that has been made longer. -/
def Longer (base : Nat) (l : List (List Nat)) (v : Value) (w : World) (e : Ending) (w' : World) : Prop :=
  ∃ v', e = .returned v' ∧ w'.ownsRow base 59 10 v' l.length (plCells l) ∧ w.grownBy w' v.ownBlock ∧ FarOr v' v w.heap.size

set_option maxRecDepth 100000 in
set_option maxHeartbeats 2000000 in
theorem l02Maps_any (N : Nat) (t u : Nat → Nat → Nat) (most base : Nat) (h0 : 1 ≤ N) (h1 : N ≤ 10) (ht : ∀ x y : Nat, x < N → y < N → t x y < N) (hu : ∀ x y : Nat, x < N → y < N → u x y < N) (hmost : most ≤ 1000000) :
    ∀ (K : Nat) (m : PM) (list : List (List Nat)) (v : Value) (w : World), Va N m → Cl N t u m → um m.to N < K → list.length < most → base ≤ w.heap.size → w.ownsRow base 59 10 v list.length (plCells list) →
    Calls Tryz.prog 100 #[.agg (sqs (N : Int) t), .agg (sqs (N : Int) u), .agg (pms m), .int .i64 (most : Int), v] w (Longer base ((list ++ isos N t u m.abs).take most) v w) := by
  intro K
  induction K with
  | zero => exact fun _ _ _ _ _ _ h => absurd h (by omega)
  | succ K IH0 =>
    intro m list v w hv hcl hK hlen hbase hown
    have IH := Hid2.mk IH0
    clear IH0
    have HT := Hid2.mk ht
    have HU := Hid2.mk hu
    clear ht hu
    have q1 := ((blk_new w (sqs (N : Int) t) 50 w.heap.size rfl).alloc (.cells (sqs (N : Int) u) 50)).alloc (.cells (pms m) 136)
    have q2 := (blk_new (w.alloc (.cells (sqs (N : Int) t) 50)) (sqs (N : Int) u) 50 (w.heap.size + 1) (by simp)).alloc (.cells (pms m) 136)
    have q3 := blk_new ((w.alloc (.cells (sqs (N : Int) t) 50)).alloc (.cells (sqs (N : Int) u) 50)) (pms m) 136 (w.heap.size + 1 + 1) (by simp)
    have qB : Below w.heap.size w (((w.alloc (.cells (sqs (N : Int) t) 50)).alloc (.cells (sqs (N : Int) u) 50)).alloc (.cells (pms m) 136)) := by
      repeat (first | exact Below.refl _ _ | (refine below_alloc ?_ _))
    have qO := ((hown.alloc (.cells (sqs (N : Int) t) 50)).alloc (.cells (sqs (N : Int) u) 50)).alloc (.cells (pms m) 136)
    have hsz := hv.size
    have hul := um_le m.to N
    have c0 := q1.cell 0 _ (sqs_order (N : Int) t)
    have c1 := q3.cell _ _ (pms_sz m)
    by_cases hfull : um m.to N = 0
    · have hs : m.size = (N : Int) := by omega
      rw [hs] at c1
      have hall := um_zero hfull
      have hpl : ∀ i, i < N → 0 ≤ m.to i ∧ m.to i < 10 := fun i hi => ⟨hall i hi, by have := hv.lt i hi; omega⟩
      have hI := isos_full HT.out hv hcl hfull
      go_enter Tryz.func100, Tryz.ntmps100
      have hcc := cells_of_blk0 q3
      have hcw := fun w1 => l02Places_any N m w1 h1 hpl
      go_wp2_with (first | (refine wpList_load_part rfl 136 _ rfl (w.heap.size + 1 + 1) (0) rfl (pms m) _ und_l2m rfl inf_l2m (hcc) ?_) | (go_at_call 107; ((with_reducible refine (hcw _).mono ?_); rintro e w1 ⟨rfl, hb⟩; have qO1 := own_later qO hb; have hs1 := hb.size; have hs2 := q3.lt)) | (refine wpList_bsl rfl 122 1 [(0, _)] rfl [(0, .agg (bys (plTo m N)))] rfl _ _ (bsl_plc _ _) ?_) | (refine wpList_app1 rfl _ _ 122 rfl base 59 (.agg (bys fun _ => 0)) 10 10 und_slp inf_elp rfl (by decide) (by decide) _ _ _ rfl (qO1.alloc _) _ rfl _ (blk_new _ _ _ _ rfl) rfl (flat_bys _) (by omega) (by simp; omega) ?_; intro v2 w2 hown2 hg2 hat2))
      go_ret
      have hl : (list ++ [wordOf N m.abs]).take most = list ++ [wordOf N m.abs] := List.take_of_length_le (by simp; omega)
      refine ⟨v2, rfl, ?_, (grown_below qB _).trans ((grown_below hb _).trans ((World.grownBy_alloc _ _ _).trans hg2)), ?_⟩
      · rw [hl, plCells_snoc, bys_word m h1]; simpa using hown2
      · rcases hat2 with h | h
        · exact .inl h
        · exact .inr ⟨_, h, by simp; omega⟩
    · have hz := zero_l2m
      have hs : m.size ≠ (N : Int) := by omega
      obtain ⟨sz, hsz1⟩ : ∃ sz : Nat, m.size = sz := ⟨N - um m.to N, by omega⟩
      have hsN : ¬ ((sz : Int) = (N : Int)) := by omega
      rw [hsz1] at c1
      obtain ⟨x, hx, hx0, hxm⟩ := um_pos hfull
      have HV := Hid2.mk (own_form hown)
      have hI := isos_first (t := t) (u := u) hx hxm hx0
      have hgw := grown_below qB v.ownBlock
      have hlt3 := q3.lt
      have hbs : w.heap.size ≤ ((((w.alloc (.cells (sqs (N : Int) t) 50)).alloc (.cells (sqs (N : Int) u) 50)).alloc (.cells (pms m) 136))).heap.size := by simp; omega
      go_enter Tryz.func100, Tryz.ntmps100
      go_wp2
      go_loopw [11] (fun i wr => ∃ k : Nat, k ≤ x ∧ i = .int .i64 (k : Int) ∧ w.grownBy wr v.ownBlock ∧ w.heap.size + 1 + 1 < wr.heap.size ∧ blk wr w.heap.size (sqs (N : Int) t) 50 ∧ blk wr (w.heap.size + 1) (sqs (N : Int) u) 50 ∧ blk wr (w.heap.size + 1 + 1) (pms m) 136 ∧ wr.ownsRow base 59 10 v list.length (plCells list)) (fun i _ => x - (intOf i).toNat)
      case atStart => exact ⟨0, by omega, rfl, hgw, hlt3, q1, q2, q3, qO⟩
      case round =>
        obtain ⟨k, hk, rfl, hg, hlt, b1, b2, b3, bO⟩ := hrel
        clear hgw hlt3 q1 q2 q3 qO c0 c1
        have c1 := b3.cell _ _ (pms_to m (i := k) (by omega))
        by_cases hkx : k < x
        · have hk0 := hxm k hkx
          go_wp2
          go_roundw
          case rel => exact ⟨k + 1, by omega, by go_num, hg, hlt, b1, b2, b3, bO⟩
          case measure => simp [intOf]; omega
        · obtain rfl : k = x := by omega
          have hk0 : ¬ (0 ≤ m.to k) := by omega
          go_wp2
          go_loopw [4, 12, 13, 14] (fun vl i _ _ wr => ∃ (y : Nat) (list' : List (List Nat)) (pp : Option Addr) (cap : Nat), y ≤ N ∧ i = .int .i64 (y : Int) ∧ vl = .slice pp list'.length cap ∧ w.grownBy wr v.ownBlock ∧ w.heap.size + 1 + 1 < wr.heap.size ∧ blk wr w.heap.size (sqs (N : Int) t) 50 ∧ blk wr (w.heap.size + 1) (sqs (N : Int) u) 50 ∧ blk wr (w.heap.size + 1 + 1) (pms m) 136 ∧ wr.ownsRow base 59 10 vl list'.length (plCells list') ∧ FarOr vl v (w.heap.size + 1 + 1 + 1) ∧ list' = (list ++ (List.range y).flatMap fun y => isos N t u (upd m.abs k y)).take most) (fun _ i _ _ _ => N - (intOf i).toNat)
          case atStart =>
            obtain ⟨p0, cap0, hv0⟩ := HV.out
            exact ⟨0, list, p0, cap0, by omega, rfl, hv0, hg, hlt, b1, b2, b3, bO, .refl _ _, by rw [List.range_zero, List.flatMap_nil, List.append_nil, List.take_of_length_le (by omega)]⟩
          case round =>
            obtain ⟨y, list', pp, cap, hy, rfl, rfl, hg2, hlt2, d1, d2, d3, dO, hfar, hlist⟩ := hrel
            clear hg hlt b1 b2 b3 bO c1
            have c0 := d1.cell 0 _ (sqs_order (N : Int) t)
            have hvl := dO.lt
            have HL := Hid2.mk hlist
            clear hlist
            by_cases hyN : y < N
            · have hyN' : (y : Int) < (N : Int) := by omega
              by_cases hll : list'.length < most
              · have hll' : (list'.length : Int) < (most : Int) := by omega
                have hdy : decide ((y : Int) < (N : Int)) = true := by simp; omega
                have hdl : decide ((list'.length : Int) < (most : Int)) = true := by simp; omega
                have c2 := d3.cell _ _ (pms_used m (i := y) (by omega))
                by_cases hus : 0 < m.used y
                · have hnil := isos_used (t := t) (u := u) hv hx hyN hx0 hus
                  go_wp2
                  go_roundw
                  case rel => exact ⟨y + 1, list', pp, cap, by omega, by go_num, rfl, hg2, hlt2, d1, d2, d3, dO, hfar, by rw [HL.out, List.range_succ, List.flatMap_append, List.flatMap_singleton, hnil, List.append_nil]⟩
                  case measure => simp [intOf]; omega
                · have hus' : m.used y ≤ 0 := by omega
                  have hC := closeF_closes HT.out HU.out (K + 1) m k y hv hx hyN hK
                  have hcC := fun w1 => l02Close_any N t u h0 h1 HT.out HU.out (K + 1) m k y w1 hv hx hyN hK
                  have hcM := IH.out
                  generalize hR : closeF N t u (K + 1) m k y = R at hC hcC
                  have hfn : ∀ b, w.heap.size ≤ b → b < w.heap.size + 1 + 1 + 1 → (Value.slice pp list'.length cap).ownBlock ≠ some b := fun b h h2 => hfar.ne hown h h2
                  obtain ⟨wo, rfl⟩ : ∃ wo : World, wo = wr := ⟨_, rfl⟩
                  have hfb : ∀ b, wo.heap.size ≤ b → (Value.slice pp list'.length cap).ownBlock ≠ some b := fun b h e => by have := (hvl b e).2; omega
                  have hwo : w.heap.size ≤ wo.heap.size := by omega
                  cases h2 : R.2 with
                  | false =>
                    have hnil := isos_failed hx hx0 hC h2
                    go_wp2_with (first | (refine wpList_load_part rfl 50 _ rfl (w.heap.size) (0) rfl (sqs (N : Int) t) _ und_sqs rfl inf_sqs (cells_of_blk0 d1) ?_) | (refine wpList_load_part rfl 50 _ rfl (w.heap.size + 1) (0) rfl (sqs (N : Int) u) _ und_sqs rfl inf_sqs (cells_of_blk0 d2) ?_) | (refine wpList_load_part rfl 136 _ rfl (w.heap.size + 1 + 1) (0) rfl (pms m) _ und_l2m rfl inf_l2m (cells_of_blk0 d3) ?_) | (go_at_call 108; ((with_reducible refine (hcC _).mono ?_); rintro e w3 ⟨rfl, hb⟩; have hs3 := hb.size; have p1 := blk_put_other ((d1.later hb).alloc (.cells (pms ⟨fun _ => 0, fun _ => 0, 0⟩) 136)) (c := w3.heap.size) (cs' := pms R.1) (t' := 136) (by omega); have p2 := blk_put_other ((d2.later hb).alloc (.cells (pms ⟨fun _ => 0, fun _ => 0, 0⟩) 136)) (c := w3.heap.size) (cs' := pms R.1) (t' := 136) (by omega); have p3 := blk_put_other ((d3.later hb).alloc (.cells (pms ⟨fun _ => 0, fun _ => 0, 0⟩) 136)) (c := w3.heap.size) (cs' := pms R.1) (t' := 136) (by omega); have p4 := blk_put (blk_new w3 (pms ⟨fun _ => 0, fun _ => 0, 0⟩) 136 w3.heap.size rfl) (cs' := pms R.1) 136; have pO := own_put ((own_later dO hb).alloc (.cells (pms ⟨fun _ => 0, fun _ => 0, 0⟩) 136)) (pms R.1) 136 (hfb w3.heap.size hs3); have pG := (hg2.trans (grown_below hb _)).trans (new_put w3 (pms ⟨fun _ => 0, fun _ => 0, 0⟩) (pms R.1) 136 _); have pS : w3.heap.size < (World.put (w3.alloc (.cells (pms ⟨fun _ => 0, fun _ => 0, 0⟩) 136)) w3.heap.size (pms R.1) 136).heap.size := put_lt w3 _ _ _ _; have pB := Nat.le_trans (show base ≤ w3.heap.size by omega) (Nat.le_of_lt pS))) | (refine wpList_store_row rfl 136 _ _ rfl _ rfl _ rfl inf_l2m _ _ (blk_new _ _ _ _ (by simp)) (by simp [pms_size]) (flat_pms _) ?_))
                    go_roundw
                    case rel => exact ⟨y + 1, list', pp, cap, by omega, by go_num, rfl, pG, Nat.lt_trans (show w.heap.size + 1 + 1 < w3.heap.size by omega) pS, p1, p2, p3, pO, hfar, by rw [HL.out, List.range_succ, List.flatMap_append, List.flatMap_singleton, hnil, List.append_nil]⟩
                    case measure => simp [intOf]; omega
                  | true =>
                    have hnew := isos_closed hx hx0 hC h2
                    have hvR := hC.va h2
                    have hclR := closed_cl HT.out hcl hC h2
                    have humR := closed_um hx hx0 hC h2
                    have hcM2 := fun w1 hb1 ho => hcM R.1 list' (.slice pp list'.length cap) w1 hvR hclR (by omega) hll hb1 ho
                    clear hcM
                    go_wp2_with (first | (refine wpList_load_part rfl 136 _ rfl (w3.heap.size) (0) rfl (pms R.1) _ und_l2m rfl inf_l2m (cells_of_blk0 p4) ?_) | (refine wpList_load_part rfl 50 _ rfl (w.heap.size) (0) rfl (sqs (N : Int) t) _ und_sqs rfl inf_sqs (cells_of_blk0 p1) ?_) | (refine wpList_load_part rfl 50 _ rfl (w.heap.size + 1) (0) rfl (sqs (N : Int) u) _ und_sqs rfl inf_sqs (cells_of_blk0 p2) ?_) | (refine wpList_load_part rfl 50 _ rfl (w.heap.size) (0) rfl (sqs (N : Int) t) _ und_sqs rfl inf_sqs (cells_of_blk0 d1) ?_) | (refine wpList_load_part rfl 50 _ rfl (w.heap.size + 1) (0) rfl (sqs (N : Int) u) _ und_sqs rfl inf_sqs (cells_of_blk0 d2) ?_) | (refine wpList_load_part rfl 136 _ rfl (w.heap.size + 1 + 1) (0) rfl (pms m) _ und_l2m rfl inf_l2m (cells_of_blk0 d3) ?_) | (go_at_call 108; ((with_reducible refine (hcC _).mono ?_); rintro e w3 ⟨rfl, hb⟩; have hs3 := hb.size; have p1 := blk_put_other ((d1.later hb).alloc (.cells (pms ⟨fun _ => 0, fun _ => 0, 0⟩) 136)) (c := w3.heap.size) (cs' := pms R.1) (t' := 136) (by omega); have p2 := blk_put_other ((d2.later hb).alloc (.cells (pms ⟨fun _ => 0, fun _ => 0, 0⟩) 136)) (c := w3.heap.size) (cs' := pms R.1) (t' := 136) (by omega); have p3 := blk_put_other ((d3.later hb).alloc (.cells (pms ⟨fun _ => 0, fun _ => 0, 0⟩) 136)) (c := w3.heap.size) (cs' := pms R.1) (t' := 136) (by omega); have p4 := blk_put (blk_new w3 (pms ⟨fun _ => 0, fun _ => 0, 0⟩) 136 w3.heap.size rfl) (cs' := pms R.1) 136; have pO := own_put ((own_later dO hb).alloc (.cells (pms ⟨fun _ => 0, fun _ => 0, 0⟩) 136)) (pms R.1) 136 (hfb w3.heap.size hs3); have pG := (hg2.trans (grown_below hb _)).trans (new_put w3 (pms ⟨fun _ => 0, fun _ => 0, 0⟩) (pms R.1) 136 _); have pS : w3.heap.size < (World.put (w3.alloc (.cells (pms ⟨fun _ => 0, fun _ => 0, 0⟩) 136)) w3.heap.size (pms R.1) 136).heap.size := put_lt w3 _ _ _ _; have pB := Nat.le_trans (show base ≤ w3.heap.size by omega) (Nat.le_of_lt pS))) | (refine wpList_store_row rfl 136 _ _ rfl _ rfl _ rfl inf_l2m _ _ (blk_new _ _ _ _ (by simp)) (by simp [pms_size]) (flat_pms _) ?_) | (go_at_call 100; ((with_reducible refine (hcM2 _ pB pO).mono ?_); rintro e w4 ⟨v', rfl, hO3, hg3, hf3⟩)))
                    go_roundw
                    case rel =>
                      obtain ⟨p3', cap3, hv3⟩ := own_form hO3
                      exact ⟨y + 1, _, p3', cap3, by omega, by go_num, hv3, grown_then pG hg3 hfar (by omega), Nat.lt_of_lt_of_le (Nat.lt_trans (show w.heap.size + 1 + 1 < w3.heap.size by omega) pS) hg3.size, p1.grown hg3 (hfn _ (by omega) (by omega)).symm, p2.grown hg3 (hfn _ (by omega) (by omega)).symm, p3.grown hg3 (hfn _ (by omega) (by omega)).symm, hO3, hf3.trans hfar (Nat.le_trans (show w.heap.size + 1 + 1 + 1 ≤ w3.heap.size by omega) (Nat.le_of_lt pS)), by rw [← hnew, HL.out, take_step, List.append_assoc, List.range_succ, List.flatMap_append, List.flatMap_singleton]⟩
                    case measure => simp [intOf]; omega
              · have hge : most ≤ list'.length := by omega
                have hdy : decide ((y : Int) < (N : Int)) = true := by simp; omega
                have hdl : decide ((list'.length : Int) < (most : Int)) = false := by simp; omega
                go_wp2
                go_ret
                have hl2 : (list ++ isos N t u m.abs).take most = list' := by
                  obtain ⟨Bq, hBq⟩ := flat_prefix (fun y => isos N t u (upd m.abs k y)) hy
                  rw [hI, hBq, ← List.append_assoc, HL.out]
                  exact take_grow (by rw [← HL.out]; have := congrArg List.length HL.out; rw [List.length_take] at this; omega)
                rw [hl2]
                exact ⟨_, rfl, dO, hg2, hfar.mono (by omega)⟩
            · obtain rfl : y = N := by omega
              have hdy : decide ((y : Int) < (y : Int)) = false := by simp
              go_wp2
              go_ret
              have hl2 : (list ++ isos y t u m.abs).take most = list' := by rw [hI, HL.out]
              rw [hl2]
              exact ⟨_, rfl, dO, hg2, hfar.mono (by omega)⟩
end Go.Proofs.YtocejggobgfccaaGreatDoor

/- All isomorphisms, for the reference: a contract. -/
namespace Go.Proofs.YtocejggobgfccaaGreatDoor
set_option linter.unusedSimpArgs false
set_option linter.unusedVariables false
open Go Go.RowKit

set_option maxRecDepth 100000 in
set_option maxHeartbeats 1000000 in
theorem l02All_any (N : Nat) (t u : Nat → Nat → Nat) (most : Nat) (w : World) (h0 : 1 ≤ N) (h1 : N ≤ 10) (ht : ∀ x y : Nat, x < N → y < N → t x y < N) (hu : ∀ x y : Nat, x < N → y < N → u x y < N) (hm0 : 0 < most) (hmost : most ≤ 1000000) :
    Calls Tryz.prog 89 #[.agg (sqs (N : Int) t), .agg (sqs (N : Int) u), .int .i64 (most : Int)] w fun e w' =>
      ∃ v', e = .returned v' ∧ w'.ownsRow w.heap.size 59 10 v' ((isos N t u fun _ => none).take most).length (plCells ((isos N t u fun _ => none).take most)) ∧ Below w.heap.size w w' := by
  have hM := fun w1 hb1 => l02Maps_any N t u most w.heap.size h0 h1 ht hu hmost (N + 1) PM.zero [] (.slice none 0 0) w1 (zero_va N) (zero_cl N t u) (by have := um_le PM.zero.to N; omega) hm0 hb1 (World.ownsRow_nil _ _ _ _)
  rw [show PM.abs PM.zero = fun _ => none from rfl] at hM
  simp only [List.nil_append] at hM
  generalize (isos N t u fun _ => none).take most = l at hM
  have hM := Hid2.mk hM
  have q1 := (blk_new w (sqs (N : Int) t) 50 w.heap.size rfl).alloc (.cells (sqs (N : Int) u) 50)
  have q2 := blk_new (w.alloc (.cells (sqs (N : Int) t) 50)) (sqs (N : Int) u) 50 (w.heap.size + 1) (by simp)
  have qB : Below w.heap.size w ((w.alloc (.cells (sqs (N : Int) t) 50)).alloc (.cells (sqs (N : Int) u) 50)) := by
    repeat (first | exact Below.refl _ _ | (refine below_alloc ?_ _))
  have c1 := q1.cell 0 _ (sqs_order (N : Int) t)
  have c2 := q2.cell 0 _ (sqs_order (N : Int) u)
  go_enter Tryz.func89, Tryz.ntmps89
  go_wp2
  apply wp_region_text_tail 4 (fun w' => Below w.heap.size w w' ∧ blk w' w.heap.size (sqs (N : Int) t) 50 ∧ blk w' (w.heap.size + 1) (sqs (N : Int) u) 50) (by kernel_rfl) (by kernel_rfl) (⟨qB.drew, q1.drew, q2.drew⟩); (simp only [List.take_succ_cons, List.take_zero]; repeat (first | exact wpText_nil | (apply wpText_cons; (intro w2 hS; obtain ⟨hB2, d1, d2⟩ := hS; go_wp2_with (first | (refine wpList_load_part rfl 50 _ rfl (w.heap.size) (0) rfl (sqs (N : Int) t) _ und_sqs rfl inf_sqs (cells_of_blk0 d1) ?_) | (refine wpList_load_part rfl 50 _ rfl (w.heap.size + 1) (0) rfl (sqs (N : Int) u) _ und_sqs rfl inf_sqs (cells_of_blk0 d2) ?_) | (go_at_call 101; ((with_reducible refine (l02Start_any _).mono ?_); rintro e w3 ⟨rfl, hb⟩))); (first | exact ⟨rfl, rfl, hB2, d1, d2⟩ | exact ⟨rfl, rfl, below_self hB2 hb, d1.later hb, d2.later hb⟩)); rfl)))
  (intro w2 hS; simp only [List.drop_succ_cons, List.drop_zero]; obtain ⟨hB4, d1, d2⟩ := hS)
  go_wp2_with (first | (go_at_call 100; ((with_reducible refine (hM.out _ hB4.size).mono ?_); rintro e w3 ⟨v', rfl, hO, hg, hf⟩)))
  go_ret
  exact ⟨v', rfl, hO, hB4.grown hg hB4.size fun k h => by simp [Value.ownBlock] at h⟩
end Go.Proofs.YtocejggobgfccaaGreatDoor

/- Cells of the program's part of an isomorphism. -/
namespace Go.Proofs.YtocejggobgfccaaGreatDoor
set_option linter.unusedSimpArgs false
set_option linter.unusedVariables false
open Go Go.RowKit

/-- A byte of `to`, and one of `from`. -/
def toC (m : PM) (i : Nat) : Int := if m.to i < 0 then 255 else m.to i
def frC (m : PM) (fr : Nat → Nat) (i : Nat) : Int := if 0 < m.used i then (fr i : Int) else 255
/-- The cells of a part: two squares, where each is led, where each comes from. -/
def led (n : Int) (t : Nat → Nat → Nat) (k : Int) (u : Nat → Nat → Nat) (m : PM) (fr : Nat → Nat) : Array Value :=
  tab 222 fun i => if i < 101 then ((sqs n t)[i]?).getD undef else if i < 202 then ((sqs k u)[i - 101]?).getD undef else if i < 212 then .int .u8 (toC m (i - 202)) else .int .u8 (frC m fr (i - 212))
theorem led_q {n k : Int} {t u : Nat → Nat → Nat} {m : PM} {fr : Nat → Nat} {i : Nat} {v : Value} (h : (sqs n t)[i]? = some v) (hi : i < 101) : (led n t k u m fr)[i]? = some v := by
  unfold led; rw [tab_get (by omega), if_pos hi, h]; rfl
theorem led_r {n k : Int} {t u : Nat → Nat → Nat} {m : PM} {fr : Nat → Nat} {i : Nat} {v : Value} (h : (sqs k u)[i]? = some v) (hi : i < 101) : (led n t k u m fr)[101 + i]? = some v := by
  unfold led; rw [tab_get (by omega), if_neg (by omega), if_pos (by omega), Nat.add_sub_cancel_left, h]; rfl
theorem led_to {n k : Int} {t u : Nat → Nat → Nat} {m : PM} {fr : Nat → Nat} {x : Nat} (hx : x < 10) : (led n t k u m fr)[202 + x]? = some (.int .u8 (toC m x)) := by
  unfold led; rw [tab_get (by omega), if_neg (by omega), if_neg (by omega), if_pos (by omega), Nat.add_sub_cancel_left]
theorem led_fr {n k : Int} {t u : Nat → Nat → Nat} {m : PM} {fr : Nat → Nat} {x : Nat} (hx : x < 10) : (led n t k u m fr)[212 + x]? = some (.int .u8 (frC m fr x)) := by
  unfold led; rw [tab_get (by omega), if_neg (by omega), if_neg (by omega), if_neg (by omega), Nat.add_sub_cancel_left]
theorem toC_ne (m : PM) {x i : Nat} (y : Nat) (h : i ≠ x) : toC (m.add x y) i = toC m i := by
  have e : (m.add x y).to i = m.to i := by simp [PM.add, h]
  unfold toC; rw [e]
theorem frC_ne (m : PM) (fr : Nat → Nat) {y i : Nat} (x : Nat) (h : i ≠ y) : frC (m.add x y) (fun i => if i = y then x else fr i) i = frC m fr i := by
  have e : (m.add x y).used i = m.used i := by simp [PM.add, h]
  unfold frC; rw [e]
  dsimp only; rw [if_neg h]
set_option maxRecDepth 4000 in
theorem led_add {n k : Int} {t u : Nat → Nat → Nat} {m : PM} {fr : Nat → Nat} {x y : Nat} (hx : x < 10) (hy : y < 10) :
    ((led n t k u m fr).setIfInBounds (202 + x) (.int .u8 (y : Int))).setIfInBounds (212 + y) (.int .u8 (x : Int)) = led n t k u (m.add x y) (fun i => if i = y then x else fr i) := by
  unfold led
  rw [tab_set, tab_set]
  refine tab_ext fun j hj => ?_
  by_cases h1 : j = 212 + y
  · subst h1
    rw [if_pos rfl, if_neg (by omega), if_neg (by omega), if_neg (by omega), Nat.add_sub_cancel_left]
    simp [frC, PM.add]
  · rw [if_neg h1]
    by_cases h2 : j = 202 + x
    · subst h2
      rw [if_pos rfl, if_neg (by omega), if_neg (by omega), if_pos (by omega), Nat.add_sub_cancel_left]
      simp only [toC, PM.add, if_true]
      rw [if_neg (by omega)]
    · rw [if_neg h2]
      by_cases a : j < 101
      · exact (if_pos a).trans (if_pos a).symm
      · refine (if_neg a).trans (Eq.trans ?_ (if_neg a).symm)
        by_cases b : j < 202
        · exact (if_pos b).trans (if_pos b).symm
        · refine (if_neg b).trans (Eq.trans ?_ (if_neg b).symm)
          by_cases c : j < 212
          · refine (if_pos c).trans (Eq.trans ?_ (if_pos c).symm)
            rw [toC_ne m y (show j - 202 ≠ x by omega)]
          · refine (if_neg c).trans (Eq.trans ?_ (if_neg c).symm)
            rw [frC_ne m fr x (show j - 212 ≠ y by omega)]
end Go.Proofs.YtocejggobgfccaaGreatDoor

/- A queue: a slice that may begin within its row. -/
namespace Go.Proofs.YtocejggobgfccaaGreatDoor
set_option linter.unusedSimpArgs false
set_option linter.unusedVariables false
open Go Go.RowKit

/-- A slice of n elements of size cells each whose row is its own from where it begins. -/
structure Que (w : World) (base e size : Nat) (v : Value) (n : Nat) (xs : List Value) : Prop where
  out : ∃ g off cap cur, v = .slice (some ⟨g, off, none⟩) n cap ∧ base ≤ g ∧ blk w g cur e ∧ n ≤ cap ∧ off + cap * size ≤ cur.size ∧ xs.length = n * size ∧ ∀ j, j < n * size → cur[off + j]? = xs[j]?

theorem Que.new {w : World} {base e size b n : Nat} {cs : Array Value} (hb : blk w b cs e) (hbase : base ≤ b) (hs : cs.size = n * size) : Que w base e size (.slice (some ⟨b, 0, none⟩) n n) n cs.toList :=
  ⟨b, 0, n, cs, rfl, hbase, hb, Nat.le_refl _, by omega, by simpa using hs, fun j hj => by simp⟩
theorem Que.of_own {w : World} {base e size n : Nat} {v : Value} {xs : List Value} (h : w.ownsRow base e size v n xs) (hn : 0 < n) : Que w base e size v n xs := by
  rcases h.2 with ⟨_, h0⟩ | ⟨g, cap, cur, rfl, hb, hg, h1, h2, h3, h4⟩
  · omega
  · refine ⟨g, 0, cap, cur, rfl, hb, ⟨hg⟩, h1, by omega, h.1, fun j hj => ?_⟩
    rw [← h4, List.getElem?_take, if_pos hj, Nat.zero_add, Array.getElem?_toList]
theorem Que.mono {w : World} {base base' e size n : Nat} {v : Value} {xs : List Value} (h : Que w base e size v n xs) (hb : base' ≤ base) : Que w base' e size v n xs := by
  obtain ⟨g, off, cap, cur, h1, h2, h3⟩ := h.out
  exact ⟨g, off, cap, cur, h1, by omega, h3⟩
theorem Que.lt {w : World} {base e size n : Nat} {v : Value} {xs : List Value} (h : Que w base e size v n xs) : ∀ k, v.ownBlock = some k → base ≤ k ∧ k < w.heap.size := fun k hk => by
  obtain ⟨g, off, cap, cur, rfl, h2, h3, _⟩ := h.out
  cases hk; exact ⟨h2, h3.lt⟩
theorem Que.kept {w w' : World} {base e size n : Nat} {v : Value} {xs : List Value} {row : Option Nat} (h : Que w base e size v n xs) (hg : w.grownBy w' row) (hne : v.ownBlock ≠ row) : Que w' base e size v n xs := by
  obtain ⟨g, off, cap, cur, rfl, h2, h3, h4⟩ := h.out
  exact ⟨g, off, cap, cur, rfl, h2, h3.grown hg hne, h4⟩
theorem Que.later {w w' : World} {base e size n : Nat} {v : Value} {xs : List Value} (h : Que w base e size v n xs) (hb : Below w.heap.size w w') : Que w' base e size v n xs := by
  obtain ⟨g, off, cap, cur, rfl, h2, h3, h4⟩ := h.out
  exact ⟨g, off, cap, cur, rfl, h2, h3.later hb, h4⟩
theorem Que.drew {w : World} {base e size n : Nat} {v : Value} {xs : List Value} (h : Que w base e size v n xs) : Que w.drew base e size v n xs := by
  obtain ⟨g, off, cap, cur, rfl, h2, h3, h4⟩ := h.out
  exact ⟨g, off, cap, cur, rfl, h2, h3.drew, h4⟩
theorem Que.form {w : World} {base e size n : Nat} {v : Value} {xs : List Value} (h : Que w base e size v n xs) : ∃ g off cap, v = .slice (some ⟨g, off, none⟩) n cap ∧ n ≤ cap := by
  obtain ⟨g, off, cap, cur, rfl, h2, h3, h4, _⟩ := h.out
  exact ⟨g, off, cap, rfl, h4⟩
theorem Que.cell {w : World} {base e size n g off cap : Nat} {xs : List Value} (h : Que w base e size (.slice (some ⟨g, off, none⟩) n cap) n xs) (j : Nat) (u : Value) (hj : xs[j]? = some u) : w.cell? ⟨g, off + j, none⟩ = some u := by
  obtain ⟨g', off', cap', cur, h1, h2, h3, h4, h5, h6, h7⟩ := h.out
  cases h1
  have hjl : j < n * size := by rw [← h6]; exact (List.getElem?_eq_some_iff.1 hj).1
  exact h3.cell _ _ (by rw [h7 j hjl, hj])
/-- Without its first element. -/
theorem Que.tail {w : World} {base e size n g off cap : Nat} {xs : List Value} (h : Que w base e size (.slice (some ⟨g, off, none⟩) (n + 1) cap) (n + 1) xs) :
    Que w base e size (.slice (if cap = 1 then some ⟨g, off, none⟩ else some ⟨g, off + size, none⟩) n (cap - 1)) n (xs.drop size) := by
  obtain ⟨g', off', cap', cur, h1, h2, h3, h4, h5, h6, h7⟩ := h.out
  cases h1
  rw [Nat.add_mul, Nat.one_mul] at h6 h7
  by_cases hc : cap = 1
  · subst hc
    rw [if_pos rfl]
    obtain rfl : n = 0 := by omega
    exact ⟨g, off, 0, cur, rfl, h2, h3, Nat.le_refl _, by omega, by simp [h6], fun j hj => by omega⟩
  · rw [if_neg hc]
    refine ⟨g, off + size, cap - 1, cur, rfl, h2, h3, by omega, ?_, by rw [List.length_drop, h6]; omega, fun j hj => ?_⟩
    · have : (cap - 1) * size + size = cap * size := by rw [← Nat.succ_mul]; congr 1; omega
      omega
    · rw [Nat.add_assoc, h7 (size + j) (by omega), List.getElem?_drop]

section
variable {P : Program}
/-- append of m elements to a queue. -/
theorem wpList_qapp {ops : Array Oper} {rest : List Oper} {o : Oper} {a : Act} {w : World} {Q : Exit → Act → World → Prop} (hgd : o.guard = none) (s x : Operand) (t : TypeId)
    (ho : o.op = .call { callee := .builtin .append, args := #[s, x], argTypes := #[t, t] })
    (base : Nat) (e : TypeId) (z : Value) (size bytes : Nat) (ht : P.underlying t = some (.slice e)) (hinfo : (P.info? e).map (fun i => (i.zero, i.size, i.bytes)) = some (some z, size, bytes))
    (hzs : z.cells.size = size) (hsz : 0 < size) (hby : 0 < bytes) (v : Value) (n : Nat) (xs : List Value) (hs : a.eval s = v) (hq : Que w base e size v n xs)
    (b m : Nat) (hx : a.eval x = .slice (some ⟨b, 0, none⟩) m m) (ys : Array Value) (hy : blk w b ys e) (hys : ys.size = m * size) (h1 : flat ys) (hm : 0 < m)
    (hbytes : (n + m) * bytes ≤ 140737488355328) (hbase : base ≤ w.heap.size)
    (h : ∀ v' w', Que w' base e size v' (n + m) (xs ++ ys.toList) → w.grownBy w' v.ownBlock → (v'.ownBlock = v.ownBlock ∨ ∃ g, v'.ownBlock = some g ∧ w.heap.size ≤ g) → wpList P ops Q rest (a.put o.dst v') w') :
    wpList P ops Q (o :: rest) a w := by
  obtain ⟨i0, hi, hzz⟩ := Option.map_eq_some_iff.1 hinfo
  simp only [Prod.mk.injEq] at hzz
  obtain ⟨hz0, hz1, hz2⟩ := hzz
  have hnews : ∀ j u, ys.toList[j]? = some u → w.cell? ((⟨b, 0, none⟩ : Addr).add j) = some u := fun j u hu => by
    rw [add_none, Nat.zero_add]; exact hy.cell j u (by simpa using hu)
  have key : ∃ v' w', (Builtin.append_ #[t, t] o.type #[v, .slice (some ⟨b, 0, none⟩) m m]).run P w = .ok v' w' ∧ Que w' base e size v' (n + m) (xs ++ ys.toList) ∧ w.grownBy w' v.ownBlock ∧ (v'.ownBlock = v.ownBlock ∨ ∃ g, v'.ownBlock = some g ∧ w.heap.size ≤ g) := by
    obtain ⟨g, off, cap, cur, rfl, q2, q3, q4, q5, q6, q7⟩ := hq.out
    have hlen : (xs ++ ys.toList).length = (n + m) * size := by rw [List.length_append, q6, Array.length_toList, hys, Nat.add_mul]
    by_cases hroom : n + m ≤ cap
    · have hfit : n * size + m * size ≤ cap * size := by rw [← Nat.add_mul]; exact Nat.mul_le_mul_right _ hroom
      have hyl : ys.toList.length = m * size := by rw [Array.length_toList, hys]
      have hr := run_append_room_cells (P := P) w t o.type e i0 ht hi g off n cap ⟨b, 0, none⟩ m m ys.toList (by rw [hz1]; exact hyl) hnews (flat_one h1) hroom
        (fun j hj => by rw [q3.cell _ (cur[off + n * i0.size + j]'(by rw [hz1]; omega)) (Array.getElem?_eq_getElem _)]; rfl) (fun j hj => q3.free _)
      rw [hz1] at hr
      have e1 := run_storeCells_cells (P := P) g (off + n * size) ys.toList 0 w (fun j hj => by rw [q3.cell _ (cur[off + n * size + 0 + j]'(by omega)) (Array.getElem?_eq_getElem _)]; rfl) (fun j hj => q3.free _) (flat_one h1)
      have e2 := run_storeCells_blk (P := P) e g (off + n * size) ys.toList h1 w cur 0 q3 (by omega)
      rw [e2] at e1
      simp only [Nat.add_zero, Result.ok.injEq, true_and] at e1
      rw [← e1] at hr
      refine ⟨_, _, hr, ⟨g, off, cap, _, rfl, q2, blk_put q3 e, hroom, by rw [splice_size 0]; exact q5, hlen, fun j hj => ?_⟩, ⟨rfl, rfl, rfl, by simp [World.put], fun k _ hk => by simp only [World.put]; rw [Array.getElem?_setIfInBounds, if_neg (fun e => hk (by rw [← e]; rfl))]⟩, .inl rfl⟩
      rw [Nat.add_mul] at hj
      rw [splice_get _ _ _ _ (by omega)]
      by_cases hjn : j < n * size
      · rw [if_neg (by omega), q7 j hjn, List.getElem?_append_left (by omega)]
      · rw [if_pos (by omega), List.getElem?_append_right (by omega), q6]
        congr 1; omega
    · obtain ⟨v', w', hr, hO, hG⟩ := run_append_arg_grows (P := P) w t o.type e i0 z size bytes ht hi hz0 hz1 hz2 hzs hsz ⟨g, off, none⟩ n cap xs q6 (fun j u hu => by rw [add_none]; exact hq.cell j u hu)
        ⟨b, 0, none⟩ m m ys.toList (by rw [Array.length_toList, hys]) hnews (by omega) (by
          have : n + m ≤ (n + m) * bytes := Nat.le_mul_of_pos_right _ hby
          simp only [maxLen]; omega) hbytes
      refine ⟨v', w', hr, (Que.of_own hO (by omega)).mono hbase, ⟨hG.os, hG.tape, hG.output, hG.size, fun k hk _ => hG.block k hk (by simp)⟩, ?_⟩
      obtain ⟨g', off', cap', hv', _⟩ := (Que.of_own hO (by omega)).form
      exact .inr ⟨g', by rw [hv']; rfl, (hO.lt g' (by rw [hv']; rfl)).1⟩
  obtain ⟨v', w', hr, k1, k2, k3⟩ := key
  refine wpList_plain hgd fun K hK => ?_
  unfold Oper.wp execOp
  simp only [ho, resolve, invoke, builtin, Sem.run_bind, Sem.run_pure, Result.andThen_ok, List.map_toArray, List.map_cons, List.map_nil, hs, hx, hr]
  exact hK _ _ (h v' w' k1 k2 k3)
end
end Go.Proofs.YtocejggobgfccaaGreatDoor

/- The program's closing of a part: a contract. -/
namespace Go.Proofs.YtocejggobgfccaaGreatDoor
set_option linter.unusedSimpArgs false
set_option linter.unusedVariables false
open Go Go.RowKit

theorem und_slq : Tryz.prog.underlying 140 = some (.slice 139) := by kernel_rfl
theorem inf_elq : (Tryz.prog.info? 139).map (fun i => (i.zero, i.size, i.bytes)) = some (some (.agg #[.int .u8 0, .int .u8 0]), 2, 2) := by kernel_rfl
theorem build_by2 (x y : Int) (w : World) : (Instr.build 139 #[(0, .int .u8 x), (1, .int .u8 y)]).run Tryz.prog w = .ok (.agg #[.int .u8 x, .int .u8 y]) w := by kernel_rfl
theorem bsl_q1 (x y : Int) (w : World) : (Instr.buildSlice 140 1 [(0, Value.agg #[.int .u8 x, .int .u8 y])].toArray).run Tryz.prog w = .ok (.slice (some ⟨w.heap.size, 0, none⟩) 1 1) (w.alloc (.cells #[.int .u8 x, .int .u8 y] 139)) := by kernel_rfl
theorem bsl_q2 (x y x' y' : Int) (w : World) : (Instr.buildSlice 140 2 [(0, Value.agg #[.int .u8 x, .int .u8 y]), (1, Value.agg #[.int .u8 x', .int .u8 y'])].toArray).run Tryz.prog w = .ok (.slice (some ⟨w.heap.size, 0, none⟩) 2 2) (w.alloc (.cells #[.int .u8 x, .int .u8 y, .int .u8 x', .int .u8 y'] 139)) := by kernel_rfl

/-- The cells of a queue. -/
def qCells (q : List (Nat × Nat)) : List Value := q.flatMap fun p => [.int .u8 (p.1 : Int), .int .u8 (p.2 : Int)]

theorem grown_set (w : World) (b j : Nat) (v : Value) : w.grownBy (w.setCell ⟨b, j, none⟩ v) (some b) :=
  ⟨rfl, rfl, rfl, by simp [World.setCell], fun k _ hk => by
    have h : b ≠ k := fun e => hk (by rw [e])
    simp [World.setCell, Array.getElem?_modify, h]⟩
theorem yield_bsl {P : Program} {oh : Oper} {ty : TypeId} {len : Nat} {l : List (Nat × Operand)} (ho : oh.op = .buildSlice ty len l.toArray) {a : Act} {w : World} {R : Value → World → Prop} (vals : List (Nat × Value)) (hv : l.map (fun p => (p.1, a.eval p.2)) = vals)
    {v : Value} {w' : World} (hb : (Instr.buildSlice ty len vals.toArray).run P w = .ok v w') (hR : R v w') : yield P oh a w R := by
  subst hv
  unfold yield
  simp only [execOp, ho, List.map_toArray, Sem.run_bind, hb, Result.andThen_ok, Sem.run_pure, yieldR]
  exact hR
theorem news_lt {N : Nat} {t u : Nat → Nat → Nat} {m : PM} {x y : Nat} (ht : ∀ a b, a < N → b < N → t a b < N) (hu : ∀ a b, a < N → b < N → u a b < N) (hv : Va N m) (hx : x < N) (hy : y < N) : ∀ p ∈ news N t u m x y N, p.1 < N ∧ p.2 < N := by
  intro p h
  obtain ⟨z, hz, h0, h⟩ := mem_news.1 h
  have := hv.lt z hz
  rcases h with h | h
  · subst h; exact ⟨ht _ _ hx hz, hu _ _ hy (by omega)⟩
  · subst h; exact ⟨ht _ _ hz hx, hu _ _ (by omega) hy⟩
theorem flat4 (a b c d : Int) : flat #[.int .u8 a, .int .u8 b, .int .u8 c, .int .u8 d] := by
  intro v hv; simp at hv; rcases hv with rfl | rfl | rfl | rfl <;> rfl
/-- The least number that has a property. -/
noncomputable def least (P : Nat → Prop) : Nat := @dite _ (∃ k, P k ∧ ∀ j, P j → k ≤ j) (Classical.propDecidable _) (fun h => Classical.choose h) fun _ => 0
theorem least_is {P : Nat → Prop} (h : ∃ k, P k) : ∃ k, P k ∧ ∀ j, P j → k ≤ j := by
  obtain ⟨k, hk⟩ := h
  induction k using Nat.strongRecOn with
  | _ k ih =>
    by_cases h : ∃ j, j < k ∧ P j
    · obtain ⟨j, hj, hP⟩ := h
      exact ih j hj hP
    · exact ⟨k, hk, fun j hP => by
        rcases Nat.lt_or_ge j k with h' | h'
        · exact absurd ⟨j, h', hP⟩ h
        · exact h'⟩
theorem least_spec {P : Nat → Prop} (h : ∃ k, P k) : P (least P) := by
  unfold least; rw [dif_pos (least_is h)]; exact (Classical.choose_spec (least_is h)).1
theorem least_le {P : Nat → Prop} {k : Nat} (h : P k) : least P ≤ k := by
  unfold least; rw [dif_pos (least_is ⟨k, h⟩)]; exact (Classical.choose_spec (least_is ⟨k, h⟩)).2 k h

/-- Where the queue stands. -/
def PutInv (N : Nat) (t u : Nat → Nat → Nat) (b B : Nat) (w : World) (R : PM × Bool) (k : Nat) (vq : Value) (wr : World) : Prop :=
  ∃ (M : PM) (f : Nat → Nat) (Q : List (Nat × Nat)), Va N M ∧ (∀ i, f i < 10) ∧ (∀ p ∈ Q, p.1 < N ∧ p.2 < N) ∧ Q.length + (2 * N + 1) * um M.to N < k ∧ k ≤ 300 ∧ putF N t u k M Q = R ∧
    blk wr b (led (N : Int) t (N : Int) u M f) 127 ∧ w.grownBy wr (some b) ∧ Que wr B 139 2 vq Q.length (qCells Q) ∧ ∃ g off cap, vq = .slice (some ⟨g, off, none⟩) Q.length cap ∧ Q.length ≤ cap

set_option maxRecDepth 100000 in
set_option maxHeartbeats 3000000 in
theorem put_any (N : Nat) (t u : Nat → Nat → Nat) (m : PM) (fr : Nat → Nat) (x y b : Nat) (w : World) (h0 : 1 ≤ N) (h1 : N ≤ 10) (ht : ∀ x y : Nat, x < N → y < N → t x y < N) (hu : ∀ x y : Nat, x < N → y < N → u x y < N)
    (hv : Va N m) (hx : x < N) (hy : y < N) (hfr : ∀ i, fr i < 10) (hl : blk w b (led (N : Int) t (N : Int) u m fr) 127) :
    Calls Tryz.prog 94 #[.pointer (some ⟨b, 0, none⟩), .int .u8 (x : Int), .int .u8 (y : Int)] w fun e w' =>
      e = .returned (.bool (putF N t u (2 + (2 * N + 1) * um m.to N) m [(x, y)]).2) ∧ w.grownBy w' (some b) ∧
      ∃ fr' : Nat → Nat, (∀ i, fr' i < 10) ∧ blk w' b (led (N : Int) t (N : Int) u (putF N t u (2 + (2 * N + 1) * um m.to N) m [(x, y)]).1 fr') 127 := by
  have HT := Hid2.mk ht
  have HU := Hid2.mk hu
  clear ht hu
  have hb := hl.lt
  generalize hK0 : 2 + (2 * N + 1) * um m.to N = K0
  have hKb : K0 ≤ 300 := by
    have := um_le m.to N
    have h2 : (2 * N + 1) * um m.to N ≤ 21 * 10 := Nat.mul_le_mul (by omega) (by omega)
    omega
  go_enter Tryz.func94, Tryz.ntmps94
  go_wp2_with (first | (refine wpList_build 139 _ rfl rfl [(0, .int .u8 (x : Int)), (1, .int .u8 (y : Int))] rfl _ (build_by2 _ _ _) ?_) | (refine wpList_bsl rfl 140 1 [(0, _)] rfl [(0, .agg #[.int .u8 (x : Int), .int .u8 (y : Int)])] rfl _ _ (bsl_q1 _ _ _) ?_))
  go_loopw [7] (fun vq wr => ∃ k, PutInv N t u b w.heap.size w (putF N t u K0 m [(x, y)]) k vq wr) (fun vq wr => least fun k => PutInv N t u b w.heap.size w (putF N t u K0 m [(x, y)]) k vq wr)
  case atStart =>
    refine ⟨K0, m, fr, [(x, y)], hv, hfr, fun p h => by simp at h; subst h; exact ⟨hx, hy⟩, by simp; omega, hKb, rfl, hl.alloc _, World.grownBy_alloc _ _ _, ?_, _, _, _, rfl, Nat.le_refl _⟩
    exact Que.new (cs := #[.int .u8 (x : Int), .int .u8 (y : Int)]) (blk_new _ _ _ _ rfl) (Nat.le_refl _) rfl
  case round =>
    have hP := least_spec hrel
    clear hrel
    generalize hk0 : (least fun k => PutInv N t u b w.heap.size w (putF N t u K0 m [(x, y)]) k _ wr) = k at hP ⊢
    obtain ⟨M, f, Q, vM, hf, hq, hk, hkK, hR, d1, hg, hQ, g, off, cap, rfl, hcap⟩ := hP
    have HR := Hid2.mk hR
    clear hR
    obtain ⟨k, rfl⟩ : ∃ k', k = k' + 1 := ⟨k - 1, by omega⟩
    match Q, hq, hk, HR, hQ, hcap with
    | [], hq, hk, HR, hQ, hcap =>
      go_wp2
      go_ret
      have hR2 : putF N t u K0 m [(x, y)] = (M, true) := by rw [← HR.out]; rfl
      rw [hR2]
      exact ⟨rfl, hg, f, hf, d1⟩
    | (x', y') :: q, hq, hk, HR, hQ, hcap =>
      have hx' : x' < N := (hq (x', y') (by simp)).1
      have hy' : y' < N := (hq (x', y') (by simp)).2
      have hT := hQ.tail
      have hlen : (((x', y') :: q).length : Int) = (q.length : Int) + 1 := by simp
      simp only [List.length_cons] at hT hcap hQ
      have hne : b ≠ g := by have := (hQ.lt g rfl).1; omega
      go_wp2
      apply wp_region_text (fun w' => w.grownBy w' (some b) ∧ blk w' b (led (N : Int) t (N : Int) u M f) 127 ∧ Que w' w.heap.size 139 2 (.slice (some ⟨g, off, none⟩) (q.length + 1) cap) (q.length + 1) (qCells ((x', y') :: q))) (by kernel_rfl) (by kernel_rfl) (⟨⟨hg.os, hg.tape, hg.output, hg.size, hg.block⟩, d1.drew, hQ.drew⟩); (repeat (first | exact wpText_nil | (apply wpText_cons; (intro w2 hS; obtain ⟨hg2, e1, hQ2⟩ := hS; have k1 := (Nat.add_zero off ▸ hQ2.cell 0 (.int .u8 (x' : Int)) (by simp [qCells])) ; have k2 := hQ2.cell 1 (.int .u8 (y' : Int)) (by simp [qCells]); go_wp2; (first | exact ⟨rfl, rfl, hg2, e1, hQ2⟩)); rfl)))
      intro w2 hS
      obtain ⟨hg2, e1, hQ2⟩ := hS
      clear hg d1 hQ hT
      have hT := hQ2.tail
      obtain ⟨off2, hoff2⟩ : ∃ off2, (if cap = 1 then some (⟨g, off, none⟩ : Addr) else some ⟨g, off + 2, none⟩) = some ⟨g, off2, none⟩ := by
        by_cases h : cap = 1
        · exact ⟨off, by rw [if_pos h]⟩
        · exact ⟨off + 2, by rw [if_neg h]⟩
      rw [hoff2] at hT
      have c1 := e1.cell _ _ (led_to (x := x') (by omega))
      have c2 := e1.cell _ _ (led_fr (x := y') (by omega))
      by_cases hA : M.to x' = y'
      · have htc : toC M x' = (y' : Int) := by unfold toC; rw [if_neg (by omega), hA]
        rw [htc] at c1
        have hn : PutInv N t u b w.heap.size w (putF N t u K0 m [(x, y)]) k (Value.slice (some ⟨g, off2, none⟩) q.length (cap - 1)) w2 :=
          ⟨M, f, q, vM, hf, fun p h => hq p (by simp [h]), by simp only [List.length_cons] at hk; omega, by omega, by rw [← HR.out]; simp only [putF]; rw [if_pos hA], e1, hg2, hT, hT.form⟩
        go_wp2
        exact ⟨⟨k, hn⟩, Nat.lt_of_le_of_lt (least_le hn) (by rw [hk0]; omega)⟩
      · by_cases hB : 0 ≤ M.to x'
        · obtain ⟨v, hv'⟩ : ∃ v : Nat, M.to x' = v := ⟨(M.to x').toNat, by omega⟩
          have hvN : v < N := by have := vM.lt x' hx'; omega
          have htc : toC M x' = (v : Int) := by unfold toC; rw [if_neg (by omega), hv']
          have hvy : ¬ ((v : Int) = (y' : Int)) := by omega
          have hv255 : ¬ ((v : Int) = 255) := by omega
          have hR2 : putF N t u K0 m [(x, y)] = (M, false) := by rw [← HR.out]; simp only [putF]; rw [if_neg hA, if_pos (.inl hB)]
          rw [htc] at c1
          go_wp2
          go_ret
          try rw [hR2]
          exact ⟨rfl, hg2, f, hf, e1⟩
        · have htc : toC M x' = 255 := by unfold toC; rw [if_pos (by omega)]
          have hvy : ¬ ((255 : Int) = (y' : Int)) := by omega
          rw [htc] at c1
          by_cases hC : 0 < M.used y'
          · have hfc : frC M f y' = (f y' : Int) := by unfold frC; rw [if_pos hC]
            have hf255 : ¬ ((f y' : Int) = 255) := by have := hf y'; omega
            have hR2 : putF N t u K0 m [(x, y)] = (M, false) := by rw [← HR.out]; simp only [putF]; rw [if_neg hA, if_pos (.inr hC)]
            rw [hfc] at c2
            go_wp2
            go_ret
            try rw [hR2]
            exact ⟨rfl, hg2, f, hf, e1⟩
          · have hfc : frC M f y' = 255 := by unfold frC; rw [if_neg hC]
            rw [hfc] at c2
            go_wp2
            have hne2 : (Value.slice (some ⟨g, off2, none⟩) q.length (cap - 1)).ownBlock ≠ some b := fun e => hne (by cases e; rfl)
            apply wp_region_float1 [0, 1, 2, 3, 4, 5, 6, 7, 8, 10, 11] 9 12 _ (fun g9 w' => w.grownBy w' (some b) ∧ blk w' b (bif g9.isEmpty then led (N : Int) t (N : Int) u M f else (led (N : Int) t (N : Int) u M f).setIfInBounds (202 + x') (.int .u8 (y' : Int))) 127 ∧ Que w' w.heap.size 139 2 (.slice (some ⟨g, off2, none⟩) q.length (cap - 1)) q.length (qCells q)) (by kernel_rfl) (by kernel_rfl) rfl rfl
            case hS => exact ⟨⟨hg2.os, hg2.tape, hg2.output, hg2.size, hg2.block⟩, e1.drew, Que.drew hT⟩
            case ht => repeat (first | exact wpTextG_nil | (apply wpTextG_cons; (intro g9 w3 hS; obtain ⟨h1, h2, h3⟩ := hS; go_wp2; exact ⟨rfl, rfl, h1, h2, h3⟩); rfl))
            case hA =>
              intro w3 hS
              obtain ⟨h1, h2, h3⟩ := hS
              have h2' : blk w3 b (led (N : Int) t (N : Int) u M f) 127 := h2
              have c3 := h2'.cell _ _ (led_to (x := x') (by omega))
              have f3 := h2'.free (202 + x')
              refine yield_store (ops := #[]) (by exact rfl) (by exact rfl) ?_
              go_wp2
              exact ⟨h1.trans (grown_set _ _ _ _), h2'.set _ _, h3.kept (grown_set _ _ _ _) hne2⟩
            intro v9 w3 hS
            obtain ⟨h1, h2, h3⟩ := hS
            simp only [List.drop_succ_cons, List.drop_zero]
            have h2' : blk w3 b ((led (N : Int) t (N : Int) u M f).setIfInBounds (202 + x') (.int .u8 (y' : Int))) 127 := h2
            have c4 := h2'.cell (212 + y') (.int .u8 255) (by rw [Array.getElem?_setIfInBounds_ne (by omega), led_fr (by omega), hfc])
            have f4 := h2'.free (212 + y')
            have d4 := (h2'.set (212 + y') (.int .u8 (x' : Int))).eq (led_add (by omega) (by omega))
            have g4 := h1.trans (grown_set w3 b (212 + y') (.int .u8 (x' : Int)))
            have q4 := h3.kept (grown_set w3 b (212 + y') (.int .u8 (x' : Int))) hne2
            have dL : ∀ (j : Nat) (v : Value), (sqs (N : Int) t)[j]? = some v → (w3.setCell ⟨b, 212 + y', none⟩ (.int .u8 (x' : Int))).cell? ⟨b, 0 + j, none⟩ = some v := fun j v h => d4.cell _ _ (by
              rw [Nat.zero_add]
              refine led_q h ?_
              have := (Array.getElem?_eq_some_iff.1 h).1
              simpa [sqs_size] using this)
            clear h2 h2' h1 h3 c1 c2 e1
            go_wp2_with (first | (refine wpList_load_part rfl 50 _ rfl (b) (0) rfl (sqs (N : Int) t) _ und_sqs rfl inf_sqs (dL) ?_) | (go_at_call 80; ((with_reducible refine (elements_any _ _ _ (by omega) (by omega)).mono ?_); rintro e w5 ⟨g5, cap5, rfl, hb5, hg5, hr5⟩)))
            have hxx : (M.add x' y').to x' = y' := by simp [PM.add]
            have vM' := vM.add hx' hy' (by omega) (by omega)
            have hf' : ∀ i, (fun i => if i = y' then x' else f i) i < 10 := fun i => by
              dsimp only; split
              · omega
              · exact hf i
            have hR2 : putF N t u k (M.add x' y') (q ++ news N t u (M.add x' y') x' y' N) = putF N t u K0 m [(x, y)] := by
              rw [← HR.out]; simp only [putF]; rw [if_neg hA, if_neg (by omega)]
            have hum : um (M.add x' y').to N + 1 = um M.to N := by
              have := um_add (f := M.to) (x := x') (y := (y' : Int)) (by omega) (by omega) N
              rw [if_pos hx'] at this; exact this
            have hk2 : q.length + 2 * N + (2 * N + 1) * um (M.add x' y').to N < k := by
              rw [← hum, Nat.mul_add] at hk
              simp only [List.length_cons] at hk
              omega
            generalize M.add x' y' = M' at d4 vM' hR2 hk2 hxx
            generalize (fun i => if i = y' then x' else f i) = f' at d4 hf'
            have HM := Hid2.mk hR2
            clear hR2 HR hum
            have e4 := d4.later hb5
            have e5 := q4.later hb5
            have g6 := g4.trans (grown_below hb5 (some b))
            clear d4 g4 c4 f4 dL
            have hgg : g ≠ g5 := by have := (e5.lt g rfl).2; have h' := (q4.lt g rfl).2; omega
            clear q4
            go_loopw [7, 9, 10, 70] (fun vq _ _ z wr => ∃ (zn g3 off3 cap3 : Nat) (ql : List (Nat × Nat)), zn ≤ N ∧ z = .int .i64 (zn : Int) ∧ vq = .slice (some ⟨g3, off3, none⟩) ql.length cap3 ∧ ql = q ++ news N t u M' x' y' zn ∧ w.grownBy wr (some b) ∧
              blk wr b (led (N : Int) t (N : Int) u M' f') 127 ∧ rds wr g5 N (fun j => .int .u8 (j : Int)) ∧ g3 ≠ g5 ∧ Que wr w.heap.size 139 2 (.slice (some ⟨g3, off3, none⟩) ql.length cap3) ql.length (qCells ql)) (fun _ _ _ z _ => N - (intOf z).toNat)
            case atStart => exact ⟨0, g, off2, cap - 1, q, by omega, rfl, rfl, by simp [news], g6, e4, by simpa using hr5, hgg, e5⟩
            case round =>
              obtain ⟨zn, g3, off3, cap3, ql, hzn, rfl, rfl, hql, hg7, d7, r7, hg35, q7⟩ := hrel
              have HQ := Hid2.mk hql
              clear hql g6 e4 e5 hr5
              by_cases hz : zn < N
              · have hz' : (zn : Int) < (N : Int) := by omega
                have c7 := r7.at_ zn hz
                have c8 := d7.cell _ _ (led_to (x := zn) (by omega))
                by_cases hfree : M'.to zn < 0
                · have htc : toC M' zn = 255 := by unfold toC; rw [if_pos hfree]
                  rw [htc] at c8
                  go_wp2
                  go_roundw
                  case rel => exact ⟨zn + 1, g3, off3, cap3, ql, by omega, by go_num, rfl, by rw [HQ.out]; simp [news, hfree], hg7, d7, r7, hg35, q7⟩
                  case measure => simp [intOf]; omega
                · obtain ⟨v, hv'⟩ : ∃ v : Nat, M'.to zn = v := ⟨(M'.to zn).toNat, by omega⟩
                  have hvN : v < N := by have := vM'.lt zn hz; omega
                  have htc : toC M' zn = (v : Int) := by unfold toC; rw [if_neg hfree, hv']
                  have hv255 : ¬ ((v : Int) = 255) := by omega
                  rw [htc] at c8
                  have a1 := HT.out x' zn hx' hz
                  have a2 := HT.out zn x' hz hx'
                  have a3 := HU.out y' v hy' hvN
                  have a4 := HU.out v y' hvN hy'
                  go_wp2
                  obtain ⟨wo, rfl⟩ : ∃ wo : World, wo = wr := ⟨_, rfl⟩
                  have hlo := (q7.lt g3 rfl).2
                  have hlo5 := r7.lt
                  apply wp_region_float1 [0, 1, 2, 3, 4, 5, 6, 7, 8, 9, 10, 11, 12, 13, 14, 15, 16, 17, 18, 19, 20, 21, 22, 23, 24, 25, 26, 27, 28, 29, 30, 31, 32, 33, 34, 35, 36, 37, 38] 39 40 _ (fun g9 w' => w.grownBy w' (some b) ∧ blk w' b (led (N : Int) t (N : Int) u M' f') 127 ∧ rds w' g5 N (fun j => .int .u8 (j : Int)) ∧ Que w' w.heap.size 139 2 (.slice (some ⟨g3, off3, none⟩) ql.length cap3) ql.length (qCells ql) ∧ (∀ v8 u8, g9 = v8 :: u8 → ∃ b9, v8 = .slice (some ⟨b9, 0, none⟩) 2 2 ∧ blk w' b9 #[.int .u8 (t x' zn : Int), .int .u8 (u y' v : Int), .int .u8 (t zn x' : Int), .int .u8 (u v y' : Int)] 139)) (by kernel_rfl) (by kernel_rfl) rfl rfl
                  case hS => exact ⟨⟨hg7.os, hg7.tape, hg7.output, hg7.size, hg7.block⟩, d7.drew, r7.drew, Que.drew q7, fun _ _ h => by cases h⟩
                  case ht => repeat (first | exact wpTextG_nil | (apply wpTextG_cons; (intro g9 w6 hS; obtain ⟨h1, h2, h3, h4, h5⟩ := hS; have m1 := h2.cell _ _ (led_q (sqs_get (n := (N : Int)) (t := t) (x := x') (y := zn) (by omega) (by omega)) (by omega)); have m2 := h2.cell _ _ (led_q (sqs_get (n := (N : Int)) (t := t) (x := zn) (y := x') (by omega) (by omega)) (by omega)); have m3 := h2.cell _ _ (led_r (sqs_get (n := (N : Int)) (t := u) (x := y') (y := v) (by omega) (by omega)) (by omega)); have m4 := h2.cell _ _ (led_r (sqs_get (n := (N : Int)) (t := u) (x := v) (y := y') (by omega) (by omega)) (by omega)); rw [show 101 + (1 + y' * 10 + v) = 102 + y' * 10 + v by omega] at m3; rw [show 101 + (1 + v * 10 + y') = 102 + v * 10 + y' by omega] at m4; go_wp2_with (first | (refine wpList_build 139 _ rfl rfl [(0, .int .u8 (t x' zn : Int)), (1, .int .u8 (u y' v : Int))] rfl _ (build_by2 _ _ _) ?_) | (refine wpList_build 139 _ rfl rfl [(0, .int .u8 (t zn x' : Int)), (1, .int .u8 (u v y' : Int))] rfl _ (build_by2 _ _ _) ?_)); exact ⟨rfl, rfl, h1, h2, h3, h4, h5⟩); rfl))
                  case hA =>
                    intro w6 hS
                    obtain ⟨h1, h2, h3, h4, h5⟩ := hS
                    refine yield_bsl (l := [(0, _), (1, _)]) (by exact rfl) [(0, .agg #[.int .u8 (t x' zn : Int), .int .u8 (u y' v : Int)]), (1, .agg #[.int .u8 (t zn x' : Int), .int .u8 (u v y' : Int)])] (by exact rfl) (bsl_q2 _ _ _ _ _) ?_
                    exact ⟨h1.trans (World.grownBy_alloc _ _ _), h2.alloc _, h3.alloc _, h4.kept (World.grownBy_alloc _ _ none) (by simp [Value.ownBlock]), fun v9 u9 h => by cases h; exact ⟨_, rfl, blk_new _ _ _ _ rfl⟩⟩
                  intro v9 w6 hS
                  obtain ⟨h1, h2, h3, h4, h5⟩ := hS
                  obtain ⟨b9, rfl, h6⟩ := h5 _ _ rfl
                  simp only [List.drop_succ_cons, List.drop_zero]
                  have hql3 : ql.length ≤ 300 := by
                    have h1 := news_length N t u M' x' y' zn
                    have h2 := congrArg List.length HQ.out
                    rw [List.length_append] at h2
                    omega
                  have hws : w.heap.size ≤ w6.heap.size := h1.size
                  have h35 := h3.lt
                  have hg3 := (h4.lt g3 rfl).1
                  go_wp2_with (refine wpList_qapp rfl _ _ 140 rfl w.heap.size 139 (.agg #[.int .u8 0, .int .u8 0]) 2 2 und_slq inf_elq rfl (by decide) (by decide) _ _ _ rfl h4 _ 2 rfl _ h6 rfl (flat4 _ _ _ _) (by decide) (by omega) hws ?_; intro v7 w7 hq7 hg8 hfar)
                  go_roundw
                  case rel =>
                    obtain ⟨g7, off7, cap7, rfl, _⟩ := hq7.form
                    refine ⟨zn + 1, g7, off7, cap7, ql ++ [(t x' zn, u y' v), (t zn x', u v y')], by omega, by go_num, by simp, ?_, h1.andThen hg8 (fun j hj => by cases hj; exact .inl hg3), h2.grown hg8 (fun e => by have h9 : b = g3 := Option.some.inj (show some b = some g3 from e); have := hb; omega), h3.grown hg8 (fun e => hg35 (Option.some.inj (show some g5 = some g3 from e)).symm), ?_, ?_⟩
                    · rw [HQ.out]; simp only [news]; rw [if_neg (show ¬ M'.to zn < 0 by omega), hv']; simp
                    · rcases hfar with h | ⟨g8, h, hge⟩
                      · have h9 : g7 = g3 := Option.some.inj (show some g7 = some g3 from h)
                        rw [h9]; exact hg35
                      · have h9 : g7 = g8 := Option.some.inj (show some g7 = some g8 from h)
                        intro h8; rw [← h9, h8] at hge; exact absurd h35 (Nat.not_lt.2 hge)
                    · rw [show (ql ++ [(t x' zn, u y' v), (t zn x', u v y')]).length = ql.length + 2 by simp, show qCells (ql ++ [(t x' zn, u y' v), (t zn x', u v y')]) = qCells ql ++ [.int .u8 (t x' zn : Int), .int .u8 (u y' v : Int), .int .u8 (t zn x' : Int), .int .u8 (u v y' : Int)] by simp [qCells]]
                      exact hq7
                  case measure => simp [intOf]; omega
              · obtain rfl : zn = N := by omega
                have hn : PutInv zn t u b w.heap.size w (putF zn t u K0 m [(x, y)]) k (Value.slice (some ⟨g3, off3, none⟩) ql.length cap3) wr :=
                  ⟨M', f', ql, vM', hf', fun p h => by
                    rw [HQ.out] at h
                    rcases List.mem_append.1 h with h | h
                    · exact hq p (by simp [h])
                    · exact news_lt HT.out HU.out vM' hx' hy' p h, by
                    have h1 := news_length zn t u M' x' y' zn
                    have h2 := congrArg List.length HQ.out
                    rw [List.length_append] at h2
                    omega, by omega, by rw [HQ.out]; exact HM.out, d7, hg7, q7, q7.form⟩
                have hge : ¬ ((zn : Int) < (zn : Int)) := by omega
                go_wp2
                exact ⟨⟨k, hn⟩, Nat.lt_of_le_of_lt (least_le hn) (by rw [hk0]; omega)⟩
end Go.Proofs.YtocejggobgfccaaGreatDoor

