/- Texts: their bytes; the reader's next byte; a text in parentheses. -/
import Derived.Test.YtpmemoabkbmljaaDoorC60
import Derived.Test.YtpmemoabkbmljaaDoorS0
import Derived.Laws.OwnMore
import Derived.Laws.Cover3
namespace Go.Proofs.YtpmemoabkbmljaaDoor
set_option linter.unusedSimpArgs false
set_option linter.unusedVariables false
open Go Go.RowKit

/-! ### The reader -/
def wdA (l : List Nat) (k : Nat) : Array Value := #[.string (str l), .int .i64 (k : Int)]
theorem wdA_0 (l : List Nat) (k : Nat) : (wdA l k)[0]? = some (.string (str l)) := rfl
theorem wdA_1 (l : List Nat) (k : Nat) : (wdA l k)[1]? = some (.int .i64 (k : Int)) := rfl
theorem wdA_size (l : List Nat) (k : Nat) : (wdA l k).size = 2 := rfl
/-- The place behind the next byte. -/
def nxK (l : List Nat) (k : Nat) : Nat := if k < l.length then k + 1 else k

set_option maxRecDepth 100000 in
set_option maxHeartbeats 1000000 in
theorem next_any (l : List Nat) (hl : l.length ≤ 1000) (hb : Byts l) (k : Nat) (hk : k ≤ l.length) (bw : Nat) (w : World) (h : blk w bw (wdA l k) 91) :
    Calls Tryd.prog 66 #[.pointer (some ⟨bw, 0, none⟩)] w fun e w' => e = .returned (.int .u8 (l.getD k 0 : Nat)) ∧ Mm (fun b => b = bw) w w' [.box bw (wdA l (nxK l k)) 91] := by
  have M := ((Mm.start no w).only (fun b => b = bw)).add (x := .box bw (wdA l k) 91) h fun _ h => by cases h
  have hsz := str_size l
  have c0 := wdA_0 l k
  have c1 := wdA_1 l k
  by_cases hlt : k < l.length
  · have hix := ix_str hb k hlt
    have hd0 := wdA_0 l (k + 1)
    have hd1 := wdA_1 l (k + 1)
    have HW := Hid2.mk (show (wdA l k).setIfInBounds 1 (.int .i64 ((k : Int) + 1)) = wdA l (k + 1) from rfl)
    have he : ((k : Int) == (l.length : Int)) = false := by simp; omega
    have hk1 : ((k : Int) + 1) - 1 = (k : Int) := by omega
    have hn : nxK l k = k + 1 := if_pos hlt
    rw [hn]
    generalize str l = s at *
    generalize (l.getD k 0 : Nat) = b at *
    have HSZ := Hid2.mk (wdA_size l k)
    generalize hA : wdA l k = A at *
    generalize hB : wdA l (k + 1) = B at *
    clear h hb hn hA hB
    have C := M.ruleAll; simp only [Go.Proofs.YtpmemoabkbmljaaDoor.ruleAll] at C
    go_enter Tryd.func66, Tryd.ntmps66
    go_wp2
    apply wp_region_mm M 9 (by kernel_rfl) (by kernel_rfl); (simp only [List.take_succ_cons, List.take_zero]; repeat (first | exact wpText_nil | (apply wpText_cons; (intro w2 M; have C := M.ruleAll; simp only [Go.Proofs.YtpmemoabkbmljaaDoor.ruleAll] at C; go_wp2; exact ⟨rfl, rfl, M⟩); rfl))); (clear M; (try clear C); intro w2 M; simp only [List.drop_succ_cons, List.drop_zero]; have C := M.ruleAll; simp only [Go.Proofs.YtpmemoabkbmljaaDoor.ruleAll] at C)
    go_wp2_with (first | ((with_reducible apply wpM_st' M 0 3 (1) (B)); rfl; rfl; rfl; (first | exact .inl (by assumption) | exact .inr rfl | exact .inr (by assumption)); exact ⟨rfl, rfl, by kernel_rfl⟩; (exact Nat.lt_of_lt_of_eq (by omega) (HSZ.out).symm); exact HW.out; clear M; (try clear C); intro w9 M; simp only [List.set_cons_zero, List.set_cons_succ, entBlk, entT, List.getElem?_cons_zero, List.getElem?_cons_succ] at M; have C := M.ruleAll; simp only [Go.Proofs.YtpmemoabkbmljaaDoor.ruleAll] at C))
    apply wp_region_mm M 9 (by kernel_rfl) (by kernel_rfl); (simp only [List.take_succ_cons, List.take_zero]; repeat (first | exact wpText_nil | (apply wpText_cons; (intro w2 M; have C := M.ruleAll; simp only [Go.Proofs.YtpmemoabkbmljaaDoor.ruleAll] at C; go_wp2; exact ⟨rfl, rfl, M⟩); rfl))); (clear M; (try clear C); intro w2 M; simp only [List.drop_succ_cons, List.drop_zero]; have C := M.ruleAll; simp only [Go.Proofs.YtpmemoabkbmljaaDoor.ruleAll] at C)
    go_wp2
    go_ret
    exact ⟨rfl, M⟩
  · obtain rfl : k = l.length := by omega
    have he : ((l.length : Int) == (l.length : Int)) = true := by simp
    have hn : nxK l l.length = l.length := if_neg hlt
    have hg : l.getD l.length 0 = 0 := by simp [List.getD_eq_getElem?_getD]
    rw [hn, hg]
    generalize str l = s at *
    generalize hA : wdA l l.length = A at *
    clear h hb hn hg hA
    have C := M.ruleAll; simp only [Go.Proofs.YtpmemoabkbmljaaDoor.ruleAll] at C
    go_enter Tryd.func66, Tryd.ntmps66
    go_wp2
    apply wp_region_mm M 9 (by kernel_rfl) (by kernel_rfl); (simp only [List.take_succ_cons, List.take_zero]; repeat (first | exact wpText_nil | (apply wpText_cons; (intro w2 M; have C := M.ruleAll; simp only [Go.Proofs.YtpmemoabkbmljaaDoor.ruleAll] at C; go_wp2; exact ⟨rfl, rfl, M⟩); rfl))); (clear M; (try clear C); intro w2 M; simp only [List.drop_succ_cons, List.drop_zero]; have C := M.ruleAll; simp only [Go.Proofs.YtpmemoabkbmljaaDoor.ruleAll] at C)
    go_wp2
    go_ret
    exact ⟨rfl, M⟩
end Go.Proofs.YtpmemoabkbmljaaDoor

/- One row is put behind another one; a list of bytes copied. -/
namespace Go.Proofs.YtpmemoabkbmljaaDoor
set_option linter.unusedSimpArgs false
set_option linter.unusedVariables false
open Go Go.RowKit

/-- The bytes of a list as cells. -/
def u8s (l : List Nat) : List Value := l.map fun (b : Nat) => .int .u8 (b : Int)
theorem u8s_len (l : List Nat) : (u8s l).length = l.length := by simp [u8s]
theorem u8s_app (a b : List Nat) : u8s (a ++ b) = u8s a ++ u8s b := by simp [u8s]
theorem u8s_one (l : List Nat) : ∀ u ∈ u8s l, u.oneCell' = true := by
  intro u hu
  obtain ⟨b, _, rfl⟩ := List.mem_map.1 hu
  rfl
theorem u8s_get (l : List Nat) {j : Nat} (hj : j < l.length) : (u8s l).getD j undef = bytF l j := by
  unfold bytF elB u8s
  rw [List.getD_eq_getElem?_getD, List.getD_eq_getElem?_getD, List.getElem?_map, List.getElem?_eq_getElem hj]
  rfl
theorem u8_rdq {w : World} {B n c : Nat} {p : Option Addr} {xs : List Nat} (hn : n = xs.length) (h : w.ownsRow B 5 1 (.slice p n c) n (u8s xs)) : rdq w p xs.length (bytF xs) := by
  subst hn
  have hr := rdq_of_own h
  rw [Nat.mul_one] at hr
  exact hr.congr fun j hj => u8s_get xs hj
theorem inf_u8r : (Tryd.prog.info? 5).map (fun i => (i.zero, i.size, i.bytes)) = some (some (.int .u8 0), 1, 1) := inf_el8b

section
variable {P : Program} {D : Nat → Prop} {w0 w : World} {L : List Ent} {ops : Array Oper} {rest : List Oper} {o : Oper} {a : Act} {Q : Exit → Act → World → Prop}
/-- append(v, x...): a row behind a row. -/
theorem wpM_appr (M : Mm D w0 w L) (t i k : Nat) (B : Nat) (v : Value) (n : Nat) (xs : List Value) (e bytes : Nat) (B2 : Nat) (p2 : Option Addr) (c2 m : Nat) (ys : List Value) (ho : isApp o.op t = true) (hi : L[i]? = some (.row B v n xs e 1)) (hk : L[k]? = some (.row B2 (.slice p2 m c2) m ys e 1)) (hs : a.eval (appS o.op) = v) (hx : a.eval (appX o.op) = .slice p2 m c2)
    (hgd : o.guard = none) (hB : w0.heap.size ≤ B ∨ ∀ k, v.ownBlock = some k → D k) (hBw : B ≤ w.heap.size) (z : Value) (ht : P.underlying t = some (.slice e)) (hinfo : (P.info? e).map (fun i => (i.zero, i.size, i.bytes)) = some (some z, 1, bytes))
    (hzs : z.cells.size = 1) (h1 : ∀ u ∈ ys, u.oneCell' = true) (h63 : n + m ≤ maxLen) (hbytes : (n + m) * bytes ≤ 140737488355328)
    (h : ∀ v' w', Far v' v w0.heap.size → Mm D w0 w' (L.set i (.row B v' (n + m) (xs ++ ys) e 1)) → wpList P ops Q rest (a.put o.dst v') w') : wpList P ops Q (o :: rest) a w := by
  obtain ⟨i0, hi0, hzz⟩ := Option.map_eq_some_iff.1 hinfo
  simp only [Prod.mk.injEq] at hzz
  obtain ⟨hz0, hz1, hz2⟩ := hzz
  have hown := M.row i hi
  have hown2 := M.row k hk
  have hil : i < L.length := (List.getElem?_eq_some_iff.1 hi).1
  rcases p2 with _ | ad
  · rcases hown2.2 with ⟨he, hm⟩ | ⟨g, cap, cur, he, _⟩
    · cases he
      have hy : ys = [] := List.eq_nil_of_length_eq_zero (by have := hown2.1; omega)
      subst hy
      refine wpList_plain hgd fun K hK => ?_
      have hr := run_append_owned_none (P := P) w B t o.type e i0 1 ht hi0 v n xs hown
      have ho' := isApp_spec ho
      clear ho
      generalize appS o.op = s at ho' hs
      generalize appX o.op = x at ho' hx
      unfold Oper.wp execOp
      simp only [ho', resolve, invoke, builtin, Sem.run_bind, Sem.run_pure, Result.andThen_ok, List.map_toArray, List.map_cons, List.map_nil, hs, hx, hr]
      refine hK _ _ (h v w (.inl rfl) ?_)
      rw [List.append_nil, Nat.add_zero]
      have : L.set i (.row B v n xs e 1) = L := by
        apply List.ext_getElem?
        intro j
        rw [List.getElem?_set]
        split
        · rename_i e; subst e; first | rw [if_pos hil, hi] | exact hi.symm
        · rfl
      rw [this]; exact M
    · cases he
  · have hc : ∀ j u, ys[j]? = some u → w.cell? (ad.add j) = some u := fun j u hj => by
      rcases hown2.2 with ⟨he, hm⟩ | ⟨g, cap, cur, he, _⟩
      · cases he
      · cases he
        exact hown2.cells rfl j u hj
    exact wpList_append_own_at w hgd _ _ t (isApp_spec ho) B e i0 z 1 bytes ht hi0 hz0 hz1 hz2 hzs (by omega) v n xs hs hown ad m c2 ys hx hown2.1 hc h1 h63 hbytes hBw fun v' w' h2 h3 _ h5 => h v' w' (by
      rcases h5 with h | h
      · exact .inl h
      · exact .inr ⟨_, h, M.size⟩) (M.longer i hi hB h3 h2 (by
      rcases h5 with h | h
      · exact .inl h
      · exact .inr ⟨_, h, Nat.le_refl _⟩))
end

theorem bsl_uC0 (w : World) : (Instr.buildSlice 47 0 [].toArray).run Tryd.prog w = .ok (.slice (some ⟨w.heap.size, 0, none⟩) 0 0) (w.alloc (.cells #[] 5)) := by kernel_rfl
theorem bsl_u81 (x : Int) (w : World) : (Instr.buildSlice 47 1 #[(0, .int .u8 x)]).run Tryd.prog w = .ok (.slice (some ⟨w.heap.size, 0, none⟩) 1 1) (w.alloc (.cells #[.int .u8 x] 5)) := by kernel_rfl

theorem eql_nil8 (a : Option Addr) (l c : Nat) (w : World) : (binOp .eql 47 (.slice a l c) (.slice none 0 0)).run Tryd.prog w = .ok (.bool a.isNone) w := by
  simp [binOp, run_equal_slice_nil w 47 5 a l c und_sl8b]
/-- A list in new memory is handed back. -/
def NewB (xs : List Nat) (w : World) (e : Ending) (w' : World) : Prop := ∃ v, e = .returned v ∧ Mm no w w' [.row w.heap.size v xs.length (u8s xs) 5 1]

set_option maxRecDepth 100000 in
set_option maxHeartbeats 1000000 in
theorem clone_any (xs : List Nat) (hl : xs.length ≤ 100000) (B : Nat) (v : Value) (w : World) (h : w.ownsRow B 5 1 v xs.length (u8s xs)) : Calls Tryd.prog 86 #[v] w (NewB xs w) := by
  have M := Mm.start no w
  rcases h.2 with ⟨rfl, h0⟩ | ⟨g, cap, cur, rfl, hg, _⟩
  · have hx : xs = [] := List.eq_nil_of_length_eq_zero h0
    subst hx
    clear h
    have he := eql_nil8 none 0 0
    go_enter Tryd.func86, Tryd.ntmps86
    go_wp2
    go_ret
    exact ⟨_, rfl, M.nilRow w.heap.size 5 1⟩
  · have M9 := M.add (x := .row B (.slice (some ⟨g, 0, none⟩) xs.length cap) xs.length (u8s xs) 5 1) h fun _ h => by cases h
    clear M
    have M := M9
    clear M9 h
    have he := eql_nil8 (some ⟨g, 0, none⟩) xs.length cap
    have hl2 : 0 + xs.length ≤ maxLen := by simp only [maxLen]; omega
    go_enter Tryd.func86, Tryd.ntmps86
    go_wp2_with (first | ((with_reducible apply wpM_bsl' M 47 0 5 ([]) (#[])); rfl; rfl; rfl; exact bsl_uC0; clear M; (try clear C); intro b w9 h_b M; have C := M.ruleAll; simp only [Go.Proofs.YtpmemoabkbmljaaDoor.ruleAll] at C) | ((have M9 := M.asRow 0 rfl w.heap.size 0 1 h_b rfl (by decide)); (simp only [List.set_cons_zero] at M9); clear M; (try clear C); (have M := M9); (clear M9); ((with_reducible apply wpM_appr M 47 0 1 (w.heap.size) (.slice (some ⟨b, 0, none⟩) 0 0) (0) ([]) 5 1 (B) (some ⟨g, 0, none⟩) (cap) (xs.length) (u8s xs)); rfl; rfl; rfl; rfl; rfl; rfl; (first | exact .inl (Nat.le_refl _) | exact .inl (by assumption) | exact .inr (by assumption) | exact .inr HDv.out); (first | exact M.size | (have hq := M.size; omega)); exact und_sl8b; exact inf_el8b; rfl; exact u8s_one xs; exact hl2; omega; clear M; (try clear C); intro v1 w9 far_v1 M; simp only [List.set_cons_zero, List.set_cons_succ, entBlk, entT, List.getElem?_cons_zero, List.getElem?_cons_succ] at M; obtain ⟨pp_v1, cap_v1, rfl⟩ := own_form (M.row 0 rfl); have C := M.ruleAll; simp only [Go.Proofs.YtpmemoabkbmljaaDoor.ruleAll] at C)))
    go_ret
    exact ⟨_, rfl, by
      have M9 := M.sub [0] (by decide)
      simp only [Nat.zero_add, List.nil_append, List.filterMap_cons, List.filterMap_nil, List.getElem?_cons_zero] at M9
      exact M9⟩
end Go.Proofs.YtpmemoabkbmljaaDoor

