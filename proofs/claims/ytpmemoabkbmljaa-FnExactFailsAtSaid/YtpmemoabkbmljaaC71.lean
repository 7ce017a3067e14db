/- The first place where an identity does not hold, for the program: a contract. -/
import Derived.Test.YtpmemoabkbmljaaC70
namespace Go.Proofs.Ytpmemoabkbmljaa
set_option linter.unusedSimpArgs false
set_option linter.unusedVariables false
open Go Go.RowKit

theorem zero_sl64 (w : World) : (zeroValue 30).run Try.prog w = .ok (.slice none 0 0) w := by kernel_rfl
theorem zero_pvl (w : World) : (zeroValue 67).run Try.prog w = .ok (.pointer none) w := by kernel_rfl
/-- What the search hands back. -/
def FailsPost (o : Option (Nat × Nat × Nat)) (w : World) (e : Ending) (w' : World) : Prop :=
  match o with
  | none => e = .returned (.tuple #[.slice none 0 0, .bool false]) ∧ Below w.heap.size w w'
  | some (x, y, z) => ∃ g, e = .returned (.tuple #[.slice (some ⟨g, 0, none⟩) 3 3, .bool true]) ∧ w.heap.size ≤ g ∧ Mm no w w' [.box g (by3I x y z) 2]

set_option maxRecDepth 100000 in
set_option maxHeartbeats 2000000 in
theorem fails_any (n : Nat) (t : Nat → Nat → Nat) (hs : IsSq (n : Int) t) (xs ys : List Nat) (hX : isTm (elB xs) xs.length = true) (hY : isTm (elB ys) ys.length = true) (w : World) (p1 p2 : Option Addr) (c1 c2 : Nat) (r1 : rdq w p1 xs.length (bytF xs)) (r2 : rdq w p2 ys.length (bytF ys)) :
    Calls Try.prog 27 #[.agg (sqs n t), .agg (idV p1 c1 p2 c2 xs.length ys.length)] w fun e w' => FailsPost (fst3 (neB t (elB xs) xs.length (elB ys) ys.length) n n n) w e w' := by
  have M := Mm.start no w
  have HN := fun w1 => newValues_any n t hs w1
  have hmf : ∀ (fn : Fn) (first cap : Array Value) (w : World), (Instr.makeFunc fn first cap).run Try.prog w = .ok (.func fn first cap) w := fun _ _ _ _ => rfl
  have HP := Hid2.mk (fun vcs bv bp bi bo (hv : VlC n t vcs) w1 (M1 : Mm no w1 w1 (fL (idV p1 c1 p2 c2 xs.length ys.length) vcs bv bp bi bo (.slice none 0 0))) (hb : Below w.heap.size w w1) => places_any n t xs ys (idV p1 c1 p2 c2 xs.length ys.length) vcs bv bp bi bo p1 p2 c1 c2 ⟨hs, hX, hY, hv, rfl⟩ (.slice none 0 0) (fun k => k = bo) rfl w1 M1 (r1.later hb) (r2.later hb))
  generalize fst3 (neB t (elB xs) xs.length (elB ys) ys.length) n n n = o at HP ⊢
  clear hs hX hY r1 r2
  go_enter Try.func27, Try.ntmps27
  go_wp2_with (first | ((with_reducible apply wpM_box' M 35 (sqs n t)); rfl; exact ⟨rfl, rfl⟩; clear M; (try clear C); intro bq w9 h_bq M; have C := M.ruleAll; simp only [Go.Proofs.Ytpmemoabkbmljaa.ruleAll] at C) | ((with_reducible apply wpM_box' M 37 (idV p1 c1 p2 c2 xs.length ys.length)); rfl; exact ⟨rfl, rfl⟩; clear M; (try clear C); intro bi w9 h_bi M; have C := M.ruleAll; simp only [Go.Proofs.Ytpmemoabkbmljaa.ruleAll] at C) | ((with_reducible apply wpM_lda' M 1 35 0 (sqs n t)); rfl; rfl; rfl; exact ⟨rfl, inf_sqs.trans (congrArg some (sqs_size ..).symm), _, und_sqs, rfl⟩; exact whole_of rfl) | (go_at_call 41; fail))
  refine (HN _).mono ?_
  rintro e w1 ⟨bv, rfl, hbv, vcs, hv, M'⟩
  have M9 := M.join1 M' (new_box hbv)
  clear M; (try clear C)
  have M := M9
  clear M9 M' HN
  have HV := Hid2.mk hv
  clear hv hbv
  have C := M.ruleAll; simp only [Go.Proofs.Ytpmemoabkbmljaa.ruleAll] at C
  go_wp2_with (first | ((with_reducible apply wpM_alloc' M 30 (#[.slice none 0 0])); rfl; exact ⟨rfl, _, zero_sl64 _, rfl⟩; clear M; (try clear C); intro bo w9 h_bo M; have C := M.ruleAll; simp only [Go.Proofs.Ytpmemoabkbmljaa.ruleAll] at C) | ((with_reducible apply wpM_alloc' M 67 (#[.pointer none])); rfl; exact ⟨rfl, _, zero_pvl _, rfl⟩; clear M; (try clear C); intro bp w9 h_bp M; have C := M.ruleAll; simp only [Go.Proofs.Ytpmemoabkbmljaa.ruleAll] at C) | ((with_reducible apply wpM_st' M 1 30 (0) (#[.slice none 0 0])); rfl; rfl; rfl; (first | exact .inl (by assumption) | exact .inr rfl | exact .inr (by assumption)); exact ⟨rfl, rfl, by kernel_rfl⟩; exact Nat.zero_lt_one; exact rfl; clear M; (try clear C); intro w9 M; simp only [List.set_cons_zero, List.set_cons_succ, entBlk, entT, List.getElem?_cons_zero, List.getElem?_cons_succ] at M; have C := M.ruleAll; simp only [Go.Proofs.Ytpmemoabkbmljaa.ruleAll] at C) | ((with_reducible apply wpM_st' M 0 67 (0) (#[.pointer (some ⟨bv, 0, none⟩)])); rfl; rfl; rfl; (first | exact .inl (by assumption) | exact .inr rfl | exact .inr (by assumption)); exact ⟨rfl, rfl, by kernel_rfl⟩; exact Nat.zero_lt_one; exact rfl; clear M; (try clear C); intro w9 M; simp only [List.set_cons_zero, List.set_cons_succ, entBlk, entT, List.getElem?_cons_zero, List.getElem?_cons_succ] at M; have C := M.ruleAll; simp only [Go.Proofs.Ytpmemoabkbmljaa.ruleAll] at C) | ((with_reducible apply wpM_lda' M 4 35 0 (sqs n t)); rfl; rfl; rfl; exact ⟨rfl, inf_sqs.trans (congrArg some (sqs_size ..).symm), _, und_sqs, rfl⟩; exact whole_of rfl) | (go_at_call 42; fail))
  have M8 : Mm no w _ (fL (idV p1 c1 p2 c2 xs.length ys.length) vcs bv bp bi bo (.slice none 0 0)) := M.sub [1, 0, 3, 2] (by decide)
  have HR := HP.out vcs bv bp bi bo HV.out _ M8.anew M.below
  refine HR.mono ?_
  rintro e w4 hpost
  clear HR M8
  unfold PlacesPost at hpost
  rcases o with _ | ⟨x, y, z⟩
  · obtain ⟨he, hb⟩ := hpost
    subst he
    have M9 := M.later hb
    clear M; (try clear C)
    have M := M9
    clear M9 hb
    have C := M.ruleAll; simp only [Go.Proofs.Ytpmemoabkbmljaa.ruleAll] at C
    go_wp2
    go_ret2
    exact ⟨rfl, M.below⟩
  · obtain ⟨he, g, hg, M'⟩ := hpost
    subst he
    have M9 : Mm no w w4 [.box bo #[.slice (some ⟨g, 0, none⟩) 3 3] 30, .box g (by3I x y z) 2] := ⟨M.kept.trans M'.kept fun k hk (e : k = bo) => by subst e; exact absurd hk (Nat.not_lt.2 h_bo), M'.ents, M'.dist⟩
    have HG := Hid2.mk (Nat.le_trans M.size hg)
    clear M; (try clear C)
    have M := M9
    clear M9 M' hg
    have C := M.ruleAll; simp only [Go.Proofs.Ytpmemoabkbmljaa.ruleAll] at C
    go_wp2
    go_ret2
    exact ⟨g, rfl, HG.out, M.drop 0⟩
end Go.Proofs.Ytpmemoabkbmljaa
