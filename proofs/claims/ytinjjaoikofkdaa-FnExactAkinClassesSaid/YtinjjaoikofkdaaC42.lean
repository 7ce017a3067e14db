/- Whether a book is valid, for the program: a contract. -/
import Derived.Test.YtinjjaoikofkdaaC37
import Derived.Test.YtinjjaoikofkdaaC39
import Derived.Test.YtinjjaoikofkdaaK9
namespace Go.Proofs.Ytinjjaoikofkdaa
set_option linter.unusedSimpArgs false
set_option linter.unusedVariables false
open Go Go.RowKit

theorem isBkI_all {ns : List ByteArray} {ls : List Sqr} (h1 : ns.length ≤ 20) (h2 : ls.length = ns.length) (h3 : ls.all lpB = true) (h4 : ls.any (fun q => decide (7 < q.n)) = false) (h5 : ∀ i, i < ns.length → nameI ns i = true) :
    isBkI ns ls = decide ((clsTo (alkAt ls) ls.length).length = ls.length) := by
  unfold isBkI
  rw [show (List.range ns.length).all (nameI ns) = true from List.all_eq_true.2 fun i hi => h5 i (List.mem_range.1 hi), h3, h4]
  simp [h1, h2]
theorem isBkI_long {ns : List ByteArray} {ls : List Sqr} (h : ¬ (ns.length ≤ 20 ∧ ls.length = ns.length)) : isBkI ns ls = false := by
  unfold isBkI
  rcases Classical.em (ns.length ≤ 20) with h1 | h1
  · rw [show decide (ls.length = ns.length) = false from decide_eq_false fun e => h ⟨h1, e⟩]; simp
  · rw [show decide (ns.length ≤ 20) = false from decide_eq_false h1]; simp
theorem isBkI_loops {ns : List ByteArray} {ls : List Sqr} (h : ls.all lpB = false) : isBkI ns ls = false := by unfold isBkI; rw [h]; simp
theorem isBkI_large {ns : List ByteArray} {ls : List Sqr} (h : ls.any (fun q => decide (7 < q.n)) = true) : isBkI ns ls = false := by unfold isBkI; rw [h]; simp
theorem isBkI_name {ns : List ByteArray} {ls : List Sqr} {k : Nat} (hk : k < ns.length) (h : nameI ns k = false) : isBkI ns ls = false := by
  unfold isBkI
  rw [show (List.range ns.length).all (nameI ns) = false from List.all_eq_false.2 ⟨k, List.mem_range.2 hk, by simp [h]⟩]
  simp
theorem decB (a b : Nat) : decide (a = b) = ((a : Int) == (b : Int)) := by
  rw [Bool.eq_iff_iff, decide_eq_true_eq, beq_iff_eq]; omega
/-- A list of classes, and how many they are. -/
def StCl (m : Nat) : List Value → List Ent → Prop
  | [], Lg => Lg = []
  | [v], Lg => ∃ pp cap, v = .slice pp m cap ∧ Lg = []
  | v :: u :: _, Lg => (∃ pp cap, v = .slice pp m cap ∧ Lg = []) ∧ u = .int .i64 (m : Int)

set_option maxRecDepth 100000 in
set_option maxHeartbeats 4000000 in
theorem isBookI_any (ns : List ByteArray) (ls : List Sqr) (hn : ns.length ≤ 1048576) (hm : ls.length ≤ 1048576) (hsz : ∀ x ∈ ns, x.size ≤ 1048576) (hby : ∀ q ∈ ls, Byt2 q.t) (w : World) (g1 c1 g2 c2 : Nat) (hcap : ns.length ≤ c1)
    (hr1 : rds w g1 ns.length (nmF ns)) (hr2 : rds w g2 (ls.length * 101) (fun j => (slC ls).getD j undef)) :
    Calls Try.prog 47 #[.agg (bkA g1 c1 g2 c2 ns.length ls.length)] w fun e w' => e = .returned (.bool (isBkI ns ls)) ∧ Below w.heap.size w w' := by
  have M := Mm.start no w
  have k0 : (bkA g1 c1 g2 c2 ns.length ls.length)[0]? = some (.slice (some ⟨g1, 0, none⟩) ns.length c1) := rfl
  have k1 : (bkA g1 c1 g2 c2 ns.length ls.length)[1]? = some (.slice (some ⟨g2, 0, none⟩) ls.length c2) := rfl
  have HBY := Hid2.mk hby
  have HSZ := Hid2.mk hsz
  have F1 := Hid2.mk (fun w1 (hb : Below w.heap.size w w1) => hr1.later hb)
  have F2 := Hid2.mk (fun w1 (hb : Below w.heap.size w w1) => hr2.later hb)
  have HA := fun w1 (hb : Below w.heap.size w w1) => areLoops_any ls (by omega) hby w1 g2 c2 (hr2.later hb)
  have HL := fun w1 (hb : Below w.heap.size w w1) => containsFunc_any ls (by omega) w1 g2 c2 (hr2.later hb) 49 #[] (fun q => decide (7 < q.n)) (enters_of (P := Try.prog) (f := 49) (by exact Try.func49) (by kernel_rfl) rfl) (fun q _ w2 _ => isLarge_any q w2)
  clear hr1 hr2 hby hsz
  by_cases hlong : ns.length ≤ 20 ∧ ls.length = ns.length
  case neg =>
    have HST := Hid2.mk (isBkI_long hlong)
    by_cases h20 : ns.length ≤ 20
    · have hne : ls.length ≠ ns.length := fun e => hlong ⟨h20, e⟩
      have d1 : ¬ (20 < (ns.length : Int)) := by omega
      have d2 : decide (20 < (ns.length : Int)) = false := decide_eq_false d1
      have d3 : ((ls.length : Int) == (ns.length : Int)) = false := beq_eq_false_iff_ne.2 (by omega)
      have d4 : ((ls.length : Int) != (ns.length : Int)) = true := by rw [bne, d3]; rfl
      clear hlong
      go_enter Try.func47, Try.ntmps47
      go_wp2_with (first | ((with_reducible apply wpM_box' M 29 (bkA g1 c1 g2 c2 ns.length ls.length)); rfl; exact ⟨rfl, rfl⟩; clear M; (try clear C); intro bb w9 h_bb M; have C := M.ruleAll; simp only [Go.Proofs.Ytinjjaoikofkdaa.ruleAll] at C))
      go_ret
      exact ⟨by rw [HST.out]; rfl, M.below⟩
    · have d1 : 20 < (ns.length : Int) := by omega
      have d2 : decide (20 < (ns.length : Int)) = true := decide_eq_true d1
      clear hlong
      go_enter Try.func47, Try.ntmps47
      go_wp2_with (first | ((with_reducible apply wpM_box' M 29 (bkA g1 c1 g2 c2 ns.length ls.length)); rfl; exact ⟨rfl, rfl⟩; clear M; (try clear C); intro bb w9 h_bb M; have C := M.ruleAll; simp only [Go.Proofs.Ytinjjaoikofkdaa.ruleAll] at C))
      go_ret
      exact ⟨by rw [HST.out]; rfl, M.below⟩
  case pos =>
    obtain ⟨h20, hLN⟩ := hlong
    have d1 : ¬ (20 < (ns.length : Int)) := by omega
    have d2 : decide (20 < (ns.length : Int)) = false := decide_eq_false d1
    have d3 : ((ls.length : Int) == (ns.length : Int)) = true := beq_iff_eq.2 (by omega)
    have d4 : ((ls.length : Int) != (ns.length : Int)) = false := by rw [bne, d3]; rfl
    have HLN := Hid2.mk hLN
    cases ha : ls.all lpB with
    | false =>
      have HST := Hid2.mk (isBkI_loops (ns := ns) ha)
      simp only [ha] at HA
      clear ha hLN
      go_enter Try.func47, Try.ntmps47
      go_wp2_with (first | ((with_reducible apply wpM_box' M 29 (bkA g1 c1 g2 c2 ns.length ls.length)); rfl; exact ⟨rfl, rfl⟩; clear M; (try clear C); intro bb w9 h_bb M; have C := M.ruleAll; simp only [Go.Proofs.Ytinjjaoikofkdaa.ruleAll] at C) | (go_at_call 59; ((with_reducible refine (HA _ M.below).mono ?_); rintro e w1 ⟨rfl, hb⟩; have hsz := M.size; (try (have G9 := G.later hb; clear G; have G := G9; clear G9)); have M9 := M.later hb; clear M; (try clear C); have M := M9; clear M9; have C := M.ruleAll; simp only [Go.Proofs.Ytinjjaoikofkdaa.ruleAll] at C)))
      go_ret
      exact ⟨by rw [HST.out]; rfl, M.below⟩
    | true =>
      cases hla : ls.any (fun q => decide (7 < q.n)) with
      | true =>
        have HST := Hid2.mk (isBkI_large (ns := ns) hla)
        simp only [ha] at HA
        simp only [hla] at HL
        clear ha hla hLN
        go_enter Try.func47, Try.ntmps47
        go_wp2_with (first | ((with_reducible apply wpM_box' M 29 (bkA g1 c1 g2 c2 ns.length ls.length)); rfl; exact ⟨rfl, rfl⟩; clear M; (try clear C); intro bb w9 h_bb M; have C := M.ruleAll; simp only [Go.Proofs.Ytinjjaoikofkdaa.ruleAll] at C) | (go_at_call 59; ((with_reducible refine (HA _ M.below).mono ?_); rintro e w1 ⟨rfl, hb⟩; have hsz := M.size; (try (have G9 := G.later hb; clear G; have G := G9; clear G9)); have M9 := M.later hb; clear M; (try clear C); have M := M9; clear M9; have C := M.ruleAll; simp only [Go.Proofs.Ytinjjaoikofkdaa.ruleAll] at C)) | (go_at_call 52; ((with_reducible refine (HL _ M.below).mono ?_); rintro e w1 ⟨rfl, hb⟩; have hsz := M.size; (try (have G9 := G.later hb; clear G; have G := G9; clear G9)); have M9 := M.later hb; clear M; (try clear C); have M := M9; clear M9; have C := M.ruleAll; simp only [Go.Proofs.Ytinjjaoikofkdaa.ruleAll] at C)))
        go_ret
        exact ⟨by rw [HST.out]; rfl, M.below⟩
      | false =>
        have HALL := Hid2.mk (fun h5 => isBkI_all (ns := ns) (ls := ls) h20 hLN ha hla h5)
        have HOK := Hid2.mk (show ∀ q ∈ ls, okS q from fun q hq => lpB_ok (HBY.out q hq) (List.all_eq_true.1 ha q hq))
        simp only [ha] at HA
        simp only [hla] at HL
        clear ha hla hLN
        go_enter Try.func47, Try.ntmps47
        go_wp2_with (first | ((with_reducible apply wpM_box' M 29 (bkA g1 c1 g2 c2 ns.length ls.length)); rfl; exact ⟨rfl, rfl⟩; clear M; (try clear C); intro bb w9 h_bb M; have C := M.ruleAll; simp only [Go.Proofs.Ytinjjaoikofkdaa.ruleAll] at C) | (go_at_call 59; ((with_reducible refine (HA _ M.below).mono ?_); rintro e w1 ⟨rfl, hb⟩; have hsz := M.size; (try (have G9 := G.later hb; clear G; have G := G9; clear G9)); have M9 := M.later hb; clear M; (try clear C); have M := M9; clear M9; have C := M.ruleAll; simp only [Go.Proofs.Ytinjjaoikofkdaa.ruleAll] at C)) | (go_at_call 52; ((with_reducible refine (HL _ M.below).mono ?_); rintro e w1 ⟨rfl, hb⟩; have hsz := M.size; (try (have G9 := G.later hb; clear G; have G := G9; clear G9)); have M9 := M.later hb; clear M; (try clear C); have M := M9; clear M9; have C := M.ruleAll; simp only [Go.Proofs.Ytinjjaoikofkdaa.ruleAll] at C)))
        clear d1 d2 d3 d4 HA HL
        go_loopw [32] (fun i wr => ∃ k : Nat, k ≤ ns.length ∧ i = .int .i64 (k : Int) ∧ (∀ j, j < k → nameI ns j = true) ∧ Mm no w wr [.box bb (bkA g1 c1 g2 c2 ns.length ls.length) 29]) (fun i _ => ns.length - (intOf i).toNat)
        case atStart => exact ⟨0, by omega, rfl, fun j h => by omega, M⟩
        case round =>
          obtain ⟨k, hk, rfl, hl, M9⟩ := hrel
          clear M; (try clear C)
          have M := M9
          clear M9
          have C := M.ruleAll; simp only [Go.Proofs.Ytinjjaoikofkdaa.ruleAll] at C
          have HL := Hid2.mk hl
          clear hl
          by_cases hlt : k < ns.length
          · have hlt' : (k : Int) < (ns.length : Int) := by omega
            have hkc : (k : Int) ≤ (c1 : Int) := by omega
            have hkc' : ¬ ((c1 : Int) < (k : Int)) := by omega
            have hfail := fun h => @isBkI_name ns ls k hlt h
            have hnext : nameI ns k = true → ∀ j, j < k + 1 → nameI ns j = true := fun h j h1 => by
              rcases Nat.lt_or_eq_of_le (Nat.lt_succ_iff.1 h1) with h2 | rfl
              · exact HL.out j h2
              · exact h
            have hni : nameI ns k = (nameB ns[k] && !((ns.take k).any fun x => ns[k].toList == x.toList)) := by unfold nameI; rw [getD_at hlt]
            have hck : ∀ w1, Below w.heap.size w w1 → w1.cell? ⟨g1, k, none⟩ = some (.string ns[k]) := fun w1 hb => by rw [(F1.out w1 hb).at_ k hlt, nmF_at hlt]
            have hN := fun w1 => isName_any ns[k] w1 (HSZ.out _ (List.getElem_mem hlt))
            have hC := fun w1 (hb : Below w.heap.size w w1) => contains_any ns k hk (by omega) ns[k] w1 g1 c1 (F1.out w1 hb)
            generalize ns[k] = x at hni hck hN hC
            generalize nameB x = a1 at hni hN
            generalize ((ns.take k).any fun y => x.toList == y.toList) = a2 at hni hC
            have HNI := Hid2.mk hni
            have HFAIL := Hid2.mk hfail
            have HN := Hid2.mk hnext
            have hc0 := hck _ M.below
            clear hni hfail hnext hck
            cases a1 with
            | false =>
              go_wp2_with (first | (go_at_call 50; ((with_reducible refine (hN _).mono ?_); rintro e w1 ⟨rfl, hb⟩; have hsz := M.size; (try (have G9 := G.later hb; clear G; have G := G9; clear G9)); have M9 := M.later hb; clear M; (try clear C); have M := M9; clear M9; have C := M.ruleAll; simp only [Go.Proofs.Ytinjjaoikofkdaa.ruleAll] at C)))
              go_ret
              exact ⟨by rw [HFAIL.out (by rw [HNI.out]; rfl)]; rfl, M.below⟩
            | true =>
              cases a2 with
              | true =>
                go_wp2_with (first | (go_at_call 50; ((with_reducible refine (hN _).mono ?_); rintro e w1 ⟨rfl, hb⟩; have hsz := M.size; (try (have G9 := G.later hb; clear G; have G := G9; clear G9)); have M9 := M.later hb; clear M; (try clear C); have M := M9; clear M9; have C := M.ruleAll; simp only [Go.Proofs.Ytinjjaoikofkdaa.ruleAll] at C)) | (go_at_call 51; ((with_reducible refine (hC _ M.below).mono ?_); rintro e w1 ⟨rfl, hb⟩; have hsz := M.size; (try (have G9 := G.later hb; clear G; have G := G9; clear G9)); have M9 := M.later hb; clear M; (try clear C); have M := M9; clear M9; have C := M.ruleAll; simp only [Go.Proofs.Ytinjjaoikofkdaa.ruleAll] at C)))
                go_ret
                exact ⟨by rw [HFAIL.out (by rw [HNI.out]; rfl)]; rfl, M.below⟩
              | false =>
                go_wp2_with (first | (go_at_call 50; ((with_reducible refine (hN _).mono ?_); rintro e w1 ⟨rfl, hb⟩; have hsz := M.size; (try (have G9 := G.later hb; clear G; have G := G9; clear G9)); have M9 := M.later hb; clear M; (try clear C); have M := M9; clear M9; have C := M.ruleAll; simp only [Go.Proofs.Ytinjjaoikofkdaa.ruleAll] at C)) | (go_at_call 51; ((with_reducible refine (hC _ M.below).mono ?_); rintro e w1 ⟨rfl, hb⟩; have hsz := M.size; (try (have G9 := G.later hb; clear G; have G := G9; clear G9)); have M9 := M.later hb; clear M; (try clear C); have M := M9; clear M9; have C := M.ruleAll; simp only [Go.Proofs.Ytinjjaoikofkdaa.ruleAll] at C)))
                go_roundw
                case rel => exact ⟨k + 1, by omega, by go_num, HN.out (by rw [HNI.out]; rfl), M⟩
                case measure => simp [intOf]; omega
          · obtain rfl : k = ns.length := by omega
            have hge : ¬ ((ns.length : Int) < (ns.length : Int)) := by omega
            have HEQ := Hid2.mk (HALL.out HL.out)
            have HC := fun w1 (hb : Below w.heap.size w w1) => classesOf_any ls hm alkB w1 g2 c2 54 (enters_of (P := Try.prog) (f := 54) (by exact Try.func54) (by kernel_rfl) rfl) (fun q hq r hr w2 => alike_sq q r w2 (HOK.out q hq) (HOK.out r hr)) (F2.out w1 hb)
            have hcl : (fun j i => alkB (ls.getD j sq00) (ls.getD i sq00)) = alkAt ls := rfl
            rw [hcl] at HC
            generalize clsTo (alkAt ls) ls.length = cls at HEQ HC
            go_wp2
            apply wp_region_mmf2 M [0, 1, 4, 5, 6] 2 3 7 _ _ (StCl cls.length) (by kernel_rfl) (by kernel_rfl) rfl rfl rfl rfl rfl
            case ht => (repeat (first | exact wpTextG_nil | (apply wpTextG_cons; (intro g9 w2 hG; obtain ⟨Lg9, hSt9, G⟩ := hG; have M := G.suffix; have C := M.ruleAll; simp only [Go.Proofs.Ytinjjaoikofkdaa.ruleAll] at C; go_wp2; exact ⟨rfl, rfl, Lg9, hSt9, G⟩); rfl)))
            case hA =>
              intro Lg w2 h M
              obtain rfl : Lg = [] := h
              refine yield_walk (ops := #[]) rfl rfl (by simp [Act.put]) ?_
              simp only [List.nil_append] at M
              go_wp2_with (first | (go_at_call 60; ((with_reducible refine (HC _ M.below).mono ?_); rintro e w1 ⟨v, rfl, vs, hvl, M'⟩; have hsz := M.size; have M9 := M.later M'.below; clear M; (try clear C); have M := M9; clear M9; (try simp only [List.set_cons_zero, List.set_cons_succ] at M); have C := M.ruleAll; simp only [Go.Proofs.Ytinjjaoikofkdaa.ruleAll] at C; obtain ⟨pp, cap, rfl⟩ := own_form (M'.row 0 rfl))))
              exact ⟨[], ⟨pp, cap, rfl, rfl⟩, M⟩
            case hA2 =>
              intro v Lg w2 h M
              obtain ⟨pp, cap, rfl, rfl⟩ := h
              refine yield_walk (ops := #[]) rfl rfl (by simp [Act.put]) ?_
              go_wp2
              exact ⟨[], ⟨⟨pp, cap, rfl, rfl⟩, rfl⟩, M⟩
            clear M; (try clear C)
            intro v u9 Lg w2 h M
            obtain ⟨⟨pp, cap, rfl, rfl⟩, rfl⟩ := h
            simp only [List.drop_succ_cons, List.drop_zero, List.nil_append] at M ⊢
            go_wp2
            go_ret
            exact ⟨by rw [HEQ.out, decB]; rfl, M.below⟩
end Go.Proofs.Ytinjjaoikofkdaa
