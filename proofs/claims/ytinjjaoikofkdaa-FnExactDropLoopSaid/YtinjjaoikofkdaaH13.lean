/- Rows of any size: many cells written, a part of the row itself appended in place, the row cut. -/
import Derived.Test.YtinjjaoikofkdaaH7
import Derived.ArgAppend
import Derived.Test.YtinjjaoikofkdaaU1
namespace Go.Proofs.Ytinjjaoikofkdaa
set_option linter.unusedSimpArgs false
set_option linter.unusedVariables false
open Go Go.RowKit

def setH : List Value → Nat → List Value → List Value
  | xs, _, [] => xs
  | xs, j, u :: us => setH (xs.set j u) (j + 1) us
theorem setH_mid : ∀ (us pre mid post : List Value), mid.length = us.length → setH (pre ++ (mid ++ post)) pre.length us = pre ++ (us ++ post)
  | [], pre, mid, post, h => by
    obtain rfl : mid = [] := List.eq_nil_of_length_eq_zero h
    rfl
  | u :: us, pre, [], post, h => by simp at h
  | u :: us, pre, m :: mid, post, h => by
    have e1 : (pre ++ (m :: mid ++ post)).set pre.length u = (pre ++ [u]) ++ (mid ++ post) := by simp
    have e2 : pre.length + 1 = (pre ++ [u]).length := by simp
    rw [setH, e1, e2, setH_mid us (pre ++ [u]) mid post (by simpa using h)]
    simp
section
variable {P : Program} {D : Nat → Prop} {w0 w : World} {L : List Ent} {ops : Array Oper} {rest : List Oper} {o : Oper} {a : Act} {Q : Exit → Act → World → Prop}
theorem Mm.rowsetsH {B g n cap e size : Nat} (i : Nat) (hB : w0.heap.size ≤ B ∨ D g) : ∀ (us : List Value) (j : Nat) (xs : List Value) (w : World) (L : List Ent), Mm D w0 w L → L[i]? = some (.row B (.slice (some ⟨g, 0, none⟩) n cap) n xs e size) →
    Mm D w0 (w.setCells g j us) (L.set i (.row B (.slice (some ⟨g, 0, none⟩) n cap) n (setH xs j us) e size))
  | [], j, xs, w, L, M, hi => by
    have : L.set i (.row B (.slice (some ⟨g, 0, none⟩) n cap) n (setH xs j []) e size) = L := by
      refine List.ext_getElem? fun k => ?_
      by_cases e : k = i
      · subst e
        have hlt := (List.getElem?_eq_some_iff.1 hi).1
        rw [List.getElem?_set_self hlt, hi]; rfl
      · rw [List.getElem?_set_ne (by omega)]
    rw [this]; exact M
  | u :: us, j, xs, w, L, M, hi => by
    have h := Mm.rowsetsH i hB us (j + 1) (xs.set j u) _ _ (M.rowset i hi hB j u) (List.getElem?_set_self (List.getElem?_eq_some_iff.1 hi).1)
    rw [List.set_set] at h
    exact h
theorem own_cutH {w : World} {B e g n cap size : Nat} {xs : List Value} (h : w.ownsRow B e size (.slice (some ⟨g, 0, none⟩) n cap) n xs) {m : Nat} (hm : m ≤ n) : w.ownsRow B e size (.slice (some ⟨g, 0, none⟩) m cap) m (xs.take (m * size)) := by
  have hms : m * size ≤ n * size := Nat.mul_le_mul_right size hm
  obtain ⟨hl, h | ⟨g', cap', cur, e1, hB, hb, hn, hc, hs, ht⟩⟩ := h
  · cases h.1
  · cases e1
    refine ⟨by rw [List.length_take]; omega, .inr ⟨g, cap, cur, rfl, hB, hb, by omega, hc, hs, ?_⟩⟩
    rw [← ht, List.take_take]
    congr 1; omega
theorem Mm.cutRowH (M : Mm D w0 w L) (i : Nat) {B g n cap e size : Nat} {xs : List Value} (hi : L[i]? = some (.row B (.slice (some ⟨g, 0, none⟩) n cap) n xs e size)) {m : Nat} (hm : m ≤ n) : Mm D w0 w (L.set i (.row B (.slice (some ⟨g, 0, none⟩) m cap) m (xs.take (m * size)) e size)) :=
  M.set i hi (.refl no w) (fun _ h => h.elim) (fun _ _ h => h.elim) (own_cutH (M.row i hi) hm) fun k h => .inl h
/-- A later part of a row is appended to an earlier one, in place. -/
theorem wpM_appI (M : Mm D w0 w L) (t i : Nat) (B g n cap : Nat) (xs : List Value) (e size : Nat) (k j m c : Nat) (ho : isApp o.op t = true) (hi : L[i]? = some (.row B (.slice (some ⟨g, 0, none⟩) n cap) n xs e size)) (hs : a.eval (appS o.op) = .slice (some ⟨g, 0, none⟩) k cap) (hx : a.eval (appX o.op) = .slice (some ⟨g, j * size, none⟩) m c)
    (hgd : o.guard = none) (hB : w0.heap.size ≤ B ∨ D g) (ht : P.underlying t = some (.slice e)) (hinfo : (P.info? e).map (fun i => i.size) = some size) (hk : k + m ≤ n) (hj : j + m ≤ n) (hnc : n ≤ cap) (h1 : ∀ u ∈ xs, u.oneCell' = true)
    (h : ∀ w', Mm D w0 w' (L.set i (.row B (.slice (some ⟨g, 0, none⟩) n cap) n (setH xs (k * size) ((xs.drop (j * size)).take (m * size))) e size)) → wpList P ops Q rest (a.put o.dst (.slice (some ⟨g, 0, none⟩) (k + m) cap)) w') : wpList P ops Q (o :: rest) a w := by
  obtain ⟨i0, hi0, hzz⟩ := Option.map_eq_some_iff.1 hinfo
  have hown := M.row i hi
  have hlen : xs.length = n * size := hown.1
  have b1 : k * size + m * size ≤ n * size := by rw [← Nat.add_mul]; exact Nat.mul_le_mul_right size hk
  have b2 : j * size + m * size ≤ n * size := by rw [← Nat.add_mul]; exact Nat.mul_le_mul_right size hj
  have hnl : ((xs.drop (j * size)).take (m * size)).length = m * size := by rw [List.length_take, List.length_drop]; omega
  subst hzz
  refine wpList_plain hgd fun K hK => ?_
  have hr := fun ty => run_append_room_cells (P := P) w t ty e i0 ht hi0 g 0 k cap ⟨g, j * i0.size, none⟩ m c ((xs.drop (j * i0.size)).take (m * i0.size)) hnl (fun q u hq => by
      have hql := (List.getElem?_eq_some_iff.1 hq).1
      rw [hnl] at hql
      rw [List.getElem?_take_of_lt hql, List.getElem?_drop] at hq
      have := World.ownsRow.cellAt hown (j * i0.size + q) (by omega)
      rw [hq] at this
      rw [add_none]
      exact this) (fun u hu => h1 u (List.mem_of_mem_drop (List.mem_of_mem_take hu))) (by omega)
      (fun q hq => by rw [hnl] at hq; rw [World.ownsRow.cellAt hown _ (by omega), List.getElem?_eq_getElem (by omega)]; rfl) (fun q hq => World.ownsRow.frozenAt hown _)
  rw [Nat.zero_add] at hr
  have he := isApp_spec ho
  generalize appS o.op = x1 at he hs
  generalize appX o.op = x2 at he hx
  unfold Oper.wp execOp
  simp only [he, resolve, invoke, builtin, Sem.run_bind, Sem.run_pure, Result.andThen_ok, List.map_toArray, List.map_cons, List.map_nil, hs, hx, hr]
  exact hK _ _ (h _ (Mm.rowsetsH i hB _ (k * i0.size) xs w L M hi))
theorem zeroCells_one (z : Array Value) : Builtin.zeroCells z 1 = z := by
  unfold Builtin.zeroCells
  apply Array.ext
  · simp
  · intro i h1 h2
    simp [Nat.mod_eq_of_lt h2, h2]
/-- clear of one struct of a row. -/
theorem run_clear1 (w : World) (t e ty : TypeId) (z : Value) (zs : List Value) (ht : P.underlying t = some (.slice e)) (hv : ∀ w, (zeroValue e).run P w = .ok z w) (hz : z.cells.toList = zs) (h1 : ∀ u ∈ zs, u.oneCell' = true) (b o c : Nat)
    (hc : ∀ j, j < zs.length → (w.cell? ⟨b, o + j, none⟩).isSome = true) (hf : ∀ j, j < zs.length → w.frozen? ⟨b, o + j, none⟩ = false) :
    (Builtin.clear_ #[t] ty #[.slice (some ⟨b, o, none⟩) 1 c]).run P w = .ok (.tuple #[]) (w.setCells b o zs) := by
  have hzc : (Builtin.zeroCells z.cells 1).toList = zs := by
    rw [zeroCells_one]; exact hz
  have hst := run_storeCells_cells (P := P) b o zs 0 w (by simpa using hc) (by simpa using hf) h1
  simp only [Nat.add_zero] at hst
  simp [Builtin.clear_, run_underlying ht, hv, hzc, hst]
theorem wpM_clr1 (M : Mm D w0 w L) (i : Nat) (B g n cap e size : Nat) (xs : List Value) (hi : L[i]? = some (.row B (.slice (some ⟨g, 0, none⟩) n cap) n xs e size)) (hB : w0.heap.size ≤ B ∨ D g) (hgd : o.guard = none) (s : Operand) (t : TypeId) (ho : o.op = .call { callee := .builtin .clear, args := #[s], argTypes := #[t] })
    (z : Value) (zs : List Value) (ht : P.underlying t = some (.slice e)) (hv : ∀ w, (zeroValue e).run P w = .ok z w) (hz : z.cells.toList = zs) (h1 : ∀ u ∈ zs, u.oneCell' = true) (hl : zs.length = size) (j off m c : Nat) (hoff : off = j * size) (hx : a.eval s = .slice (some ⟨g, off, none⟩) m c) (hm : m = 1) (hj : j + 1 ≤ n)
    (h : ∀ w', Mm D w0 w' (L.set i (.row B (.slice (some ⟨g, 0, none⟩) n cap) n (setH xs (j * size) zs) e size)) → wpList P ops Q rest (a.put o.dst (.tuple #[])) w') : wpList P ops Q (o :: rest) a w := by
  subst hm
  subst hoff
  refine wpList_plain hgd fun K hK => ?_
  have hown := M.row i hi
  have hlen : xs.length = n * size := hown.1
  have b1 : j * size + size ≤ n * size := by have := Nat.mul_le_mul_right size hj; rw [Nat.add_mul, Nat.one_mul] at this; exact this
  have hr := fun ty => run_clear1 (P := P) w t e ty z zs ht hv hz h1 g (j * size) c (fun k hk => by rw [World.ownsRow.cellAt hown (j * size + k) (by omega), List.getElem?_eq_getElem (by omega)]; rfl) (fun k hk => World.ownsRow.frozenAt hown (j * size + k))
  unfold Oper.wp execOp
  simp only [ho, resolve, invoke, builtin, Sem.run_bind, Sem.run_pure, Result.andThen_ok, List.map_toArray, List.map_cons, List.map_nil, hx, hr]
  exact hK _ _ (h _ (Mm.rowsetsH i hB _ (j * size) xs w L M hi))
end
/-- What Delete leaves of a row: the earlier part, the later part. -/
theorem setH_del (xs zs : List Value) (n p size : Nat) (hl : xs.length = n * size) (hz : zs.length = size) (hp : p < n) :
    (setH (setH xs (p * size) ((xs.drop ((p + 1) * size)).take ((n - (p + 1)) * size))) ((n - 1) * size) zs).take ((n - 1) * size) = xs.take (p * size) ++ xs.drop ((p + 1) * size) := by
  have e0 : n * size = p * size + size + (n - (p + 1)) * size := by
    have : n = p + 1 + (n - (p + 1)) := by omega
    conv => lhs; rw [this, Nat.add_mul, Nat.add_mul, Nat.one_mul]
  have e1 : (p + 1) * size = p * size + size := by rw [Nat.add_mul, Nat.one_mul]
  have e2 : (n - 1) * size = p * size + (n - (p + 1)) * size := by rw [← Nat.add_mul]; congr 1; omega
  generalize hm : (n - (p + 1)) * size = m at *
  generalize p * size = q at *
  rw [e1, e2]
  have hd : ((xs.drop (q + size)).take m) = xs.drop (q + size) := List.take_of_length_le (by rw [List.length_drop]; omega)
  rw [hd]
  have hdl : (xs.drop (q + size)).length = m := by rw [List.length_drop]; omega
  have htl : (xs.take q).length = q := by rw [List.length_take]; omega
  have s1 : setH xs q (xs.drop (q + size)) = xs.take q ++ (xs.drop (q + size) ++ xs.drop (q + m)) := by
    have hx : xs = xs.take q ++ ((xs.drop q).take m ++ xs.drop (q + m)) := by
      rw [← List.drop_drop, List.take_append_drop, List.take_append_drop]
    have := setH_mid (xs.drop (q + size)) (xs.take q) ((xs.drop q).take m) (xs.drop (q + m)) (by rw [List.length_take, List.length_drop, hdl]; omega)
    rw [htl, ← hx] at this
    exact this
  rw [s1, ← List.append_assoc]
  have hal : (xs.take q ++ xs.drop (q + size)).length = q + m := by rw [List.length_append, htl, hdl]
  have s2 := setH_mid zs (xs.take q ++ xs.drop (q + size)) (xs.drop (q + m)) [] (by rw [List.length_drop, hz]; omega)
  rw [hal, List.append_nil] at s2
  rw [s2, ← hal, List.take_left']
  rfl
end Go.Proofs.Ytinjjaoikofkdaa

/- slices.Delete of one element: names, squares. Printed by gen/h15.py. -/
namespace Go.Proofs.Ytinjjaoikofkdaa
set_option linter.unusedSimpArgs false
set_option linter.unusedVariables false
open Go Go.RowKit
theorem setH_nil (xs : List Value) (j : Nat) : setH xs j [] = xs := by simp [setH]
theorem one_strH : ∀ u ∈ [Value.string .empty], u.oneCell' = true := fun u hu => by rw [List.mem_singleton.1 hu]; rfl
theorem zero_strH (w : World) : (zeroValue 9).run Try.prog w = .ok (.string .empty) w := by kernel_rfl
def zsQ : List Value := (sqs 0 fun _ _ => 0).toList
theorem zsQ_len : zsQ.length = 101 := by unfold zsQ; rw [Array.length_toList]; exact sqs_size ..
theorem one_sqH : ∀ u ∈ zsQ, u.oneCell' = true := fun u hu => by
  have := flat_sqs _ _ u hu
  cases u <;> first | rfl | cases this
section
variable {P : Program} {D : Nat → Prop} {w0 w : World} {L : List Ent} {ops : Array Oper} {rest : List Oper} {o : Oper} {a : Act} {Q : Exit → Act → World → Prop}
def isClr (op : Op) (t : TypeId) : Bool := match op with
  | .call { callee := .builtin .clear, args := args, argTypes := ts } => args.size == 1 && ts == #[t]
  | _ => false
def clrS (op : Op) : Operand := match op with
  | .call c => c.args.getD 0 default
  | _ => default
theorem isClr_spec {op : Op} {t : TypeId} (h : isClr op t = true) : op = .call { callee := .builtin .clear, args := #[clrS op], argTypes := #[t] } := by
  unfold isClr at h
  split at h
  · rename_i args ts
    simp only [Bool.and_eq_true, beq_iff_eq] at h
    obtain ⟨h1, rfl⟩ := h
    congr 2
    apply Array.ext
    · simpa using h1
    · intro i hi _
      obtain rfl : i = 0 := by omega
      simp [clrS, Array.getD, hi]
  · cases h
theorem wpM_clr1' (M : Mm D w0 w L) (i : Nat) (B g n cap e size : Nat) (xs : List Value) (t : TypeId) (z : Value) (zs : List Value) (j m c : Nat) (ho : isClr o.op t = true) (hi : L[i]? = some (.row B (.slice (some ⟨g, 0, none⟩) n cap) n xs e size)) (hB : w0.heap.size ≤ B ∨ D g) (hgd : o.guard = none)
    (hx : o.guard = none ∧ a.eval (clrS o.op) = .slice (some ⟨g, j * size, none⟩) m c) (ht : P.underlying t = some (.slice e)) (hv : ∀ w, (zeroValue e).run P w = .ok z w) (hz : z.cells.toList = zs) (h1 : ∀ u ∈ zs, u.oneCell' = true) (hl : zs.length = size) (hm : m = 1) (hj : j + 1 ≤ n)
    (h : ∀ w', Mm D w0 w' (L.set i (.row B (.slice (some ⟨g, 0, none⟩) n cap) n (setH xs (j * size) zs) e size)) → wpList P ops Q rest (a.put o.dst (.tuple #[])) w') : wpList P ops Q (o :: rest) a w :=
  wpM_clr1 M i B g n cap e size xs hi hB hgd (clrS o.op) t (isClr_spec ho) z zs ht hv hz h1 hl j (j * size) m c rfl hx.2 hm hj h
end
theorem own_capH {w : World} {B e g n cap size : Nat} {xs : List Value} (h : w.ownsRow B e size (.slice (some ⟨g, 0, none⟩) n cap) n xs) : n ≤ cap ∧ cap ≤ maxLen := by
  obtain ⟨_, h | ⟨g', cap', cur, e1, _, _, hn, hc, _⟩⟩ := h
  · cases h.1
  · cases e1; exact ⟨hn, hc⟩


set_option maxRecDepth 100000 in
set_option maxHeartbeats 2000000 in
theorem delS_any (n p q : Nat) (hp : p < n) (hq : q = p + 1) (hn : n ≤ 1048576) (xs : List Value) (h1 : ∀ u ∈ xs, u.oneCell' = true) (B : Nat) (v : Value) (w : World) (h : w.ownsRow B 9 1 v n xs) :
    Calls Try.prog 32 #[v, .int .i64 (p : Int), .int .i64 (q : Int)] w fun e w' => ∃ g cap, v.ownBlock = some g ∧ e = .returned (.slice (some ⟨g, 0, none⟩) (n - 1) cap) ∧ Mm (fun b => v.ownBlock = some b) w w' [.row B (.slice (some ⟨g, 0, none⟩) (n - 1) cap) (n - 1) (xs.take (p * 1) ++ xs.drop ((p + 1) * 1)) 9 1] := by
  have hlen := h.1
  have M := ((Mm.start no w).only (fun b => v.ownBlock = some b)).add (x := .row B v n xs 9 1) h fun _ h => by cases h
  obtain ⟨g, cap, rfl, _, _, _⟩ := own_rds h (by omega)
  have hcap := own_capH h
  have hc1 : (n : Int) ≤ (cap : Int) := by omega
  have hc2 : (cap : Int) ≤ 9223372036854775807 := by have := hcap.2; simp only [maxLen] at this; omega
  have hne : ((p : Int) == (q : Int)) = false := by rw [beq_eq_false_iff_ne]; omega
  have hpq : (p : Int) ≤ (q : Int) := by omega
  have hqn : (q : Int) ≤ (n : Int) := by omega
  have hqn' : q ≤ n := by omega
  have hpn : (p : Int) < (n : Int) := by omega
  have hpc : (p : Int) < (cap : Int) := by omega
  have HD := Hid2.mk (setH_del xs [.string .empty] n p 1 hlen rfl hp)
  have HQ := Hid2.mk hq
  have H1 := Hid2.mk h1
  have HP := Hid2.mk hp
  have HCP := Hid2.mk hcap
  clear h h1 hcap hlen
  have HL := Hid2.mk (show p + (n - q) = n - 1 by omega)
  have hcl : ((p + (n - q) : Nat) : Int) < (cap : Int) := by omega
  have hcl2 : (p : Int) + ((n - q : Nat) : Int) < (cap : Int) := by omega
  have hcl3 : (p : Int) + ((n - q : Nat) : Int) ≤ (n : Int) := by omega
  clear hq hp
  by_cases hqc : (q : Int) < (cap : Int)
  · go_enter Try.func32, Try.ntmps32
    go_wp2
    apply wp_region_mm M 6 (by kernel_rfl) (by kernel_rfl); (simp only [List.take_succ_cons, List.take_zero]; repeat (first | exact wpText_nil | (apply wpText_cons; (intro w2 M; have C := M.ruleAll; simp only [Go.Proofs.Ytinjjaoikofkdaa.ruleAll] at C; go_wp2; exact ⟨rfl, rfl, M⟩); rfl))); (clear M; (try clear C); intro w2 M; simp only [List.drop_succ_cons, List.drop_zero]; have C := M.ruleAll; simp only [Go.Proofs.Ytinjjaoikofkdaa.ruleAll] at C)
    go_wp2_with (first | ((with_reducible apply wpM_appI M 22 0 B g n cap xs 9 1 p q (n - q) (cap - q)); rfl; rfl; rfl; (first | rfl | (simp only [Nat.mul_one]; rfl)); rfl; exact .inr rfl; exact und_slJ; kernel_rfl; (have := HQ.out; have := HP.out; omega); (have := HQ.out; have := HP.out; omega); exact HCP.out.1; exact H1.out; (clear M; (try clear C); intro w9 M; simp only [List.set_cons_zero] at M)) | ((with_reducible apply wpM_clr1' M 0 B g n cap 9 1 (setH xs (p * 1) (List.take ((n - q) * 1) (List.drop (q * 1) xs))) 22 (.string .empty) ([.string .empty]) (p + (n - q)) (n - (p + (n - q))) (cap - (p + (n - q)))); rfl; rfl; exact .inr rfl; rfl; exact ⟨rfl, by first | rfl | (simp only [Nat.mul_one]; rfl)⟩; exact und_slJ; exact zero_strH; rfl; exact one_strH; exact rfl; (have := HL.out; have := HP.out; omega); (have := HL.out; have := HP.out; omega); (clear M; (try clear C); intro w9 M; simp only [List.set_cons_zero] at M)))
    go_ret
    have M9 := M.cutRowH 0 rfl (m := n - 1) (by omega)
    simp only [List.set_cons_zero] at M9
    rw [HL.out, HQ.out, HD.out] at M9
    exact ⟨g, cap, rfl, by rw [← HL.out]; rfl, M9⟩
  · obtain rfl : cap = n := by omega
    obtain rfl : q = cap := by omega
    have hqq : ¬ ((q : Int) < (q : Int)) := by omega
    clear hqc
    go_enter Try.func32, Try.ntmps32
    go_wp2
    apply wp_region_mm M 6 (by kernel_rfl) (by kernel_rfl); (simp only [List.take_succ_cons, List.take_zero]; repeat (first | exact wpText_nil | (apply wpText_cons; (intro w2 M; have C := M.ruleAll; simp only [Go.Proofs.Ytinjjaoikofkdaa.ruleAll] at C; go_wp2; exact ⟨rfl, rfl, M⟩); rfl))); (clear M; (try clear C); intro w2 M; simp only [List.drop_succ_cons, List.drop_zero]; have C := M.ruleAll; simp only [Go.Proofs.Ytinjjaoikofkdaa.ruleAll] at C)
    go_wp2_with (first | ((with_reducible apply wpM_clr1' M 0 B g q q 9 1 xs 22 (.string .empty) ([.string .empty]) p (q - p) (q - p)); rfl; rfl; exact .inr rfl; rfl; exact ⟨rfl, by first | rfl | (simp only [Nat.mul_one]; rfl)⟩; exact und_slJ; exact zero_strH; rfl; exact one_strH; exact rfl; (have := HQ.out; omega); (have := HQ.out; omega); (clear M; (try clear C); intro w9 M; simp only [List.set_cons_zero] at M)))
    go_ret
    have M9 := M.cutRowH 0 rfl (m := q - 1) (by omega)
    simp only [List.set_cons_zero] at M9
    have hq1 : q - 1 = p := by have := HQ.out; omega
    have hq2 : q - (p + 1) = 0 := by have := HQ.out; omega
    have hd := HD.out
    rw [hq2, hq1, Nat.zero_mul, List.take_zero, setH_nil] at hd
    rw [hq1, hd] at M9
    rw [hq1]
    exact ⟨g, q, rfl, rfl, M9⟩


set_option maxRecDepth 100000 in
set_option maxHeartbeats 2000000 in
theorem delQ_any (n p q : Nat) (hp : p < n) (hq : q = p + 1) (hn : n ≤ 1048576) (xs : List Value) (h1 : ∀ u ∈ xs, u.oneCell' = true) (B : Nat) (v : Value) (w : World) (h : w.ownsRow B 43 101 v n xs) :
    Calls Try.prog 34 #[v, .int .i64 (p : Int), .int .i64 (q : Int)] w fun e w' => ∃ g cap, v.ownBlock = some g ∧ e = .returned (.slice (some ⟨g, 0, none⟩) (n - 1) cap) ∧ Mm (fun b => v.ownBlock = some b) w w' [.row B (.slice (some ⟨g, 0, none⟩) (n - 1) cap) (n - 1) (xs.take (p * 101) ++ xs.drop ((p + 1) * 101)) 43 101] := by
  have hlen := h.1
  have M := ((Mm.start no w).only (fun b => v.ownBlock = some b)).add (x := .row B v n xs 43 101) h fun _ h => by cases h
  obtain ⟨g, cap, rfl, _, _, _⟩ := own_rds h (by omega)
  have hcap := own_capH h
  have hc1 : (n : Int) ≤ (cap : Int) := by omega
  have hc2 : (cap : Int) ≤ 9223372036854775807 := by have := hcap.2; simp only [maxLen] at this; omega
  have hne : ((p : Int) == (q : Int)) = false := by rw [beq_eq_false_iff_ne]; omega
  have hpq : (p : Int) ≤ (q : Int) := by omega
  have hqn : (q : Int) ≤ (n : Int) := by omega
  have hqn' : q ≤ n := by omega
  have hpn : (p : Int) < (n : Int) := by omega
  have hpc : (p : Int) < (cap : Int) := by omega
  have HD := Hid2.mk (setH_del xs zsQ n p 101 hlen zsQ_len hp)
  have HQ := Hid2.mk hq
  have H1 := Hid2.mk h1
  have HP := Hid2.mk hp
  have HCP := Hid2.mk hcap
  clear h h1 hcap hlen
  have HL := Hid2.mk (show p + (n - q) = n - 1 by omega)
  have hcl : ((p + (n - q) : Nat) : Int) < (cap : Int) := by omega
  have hcl2 : (p : Int) + ((n - q : Nat) : Int) < (cap : Int) := by omega
  have hcl3 : (p : Int) + ((n - q : Nat) : Int) ≤ (n : Int) := by omega
  clear hq hp
  by_cases hqc : (q : Int) < (cap : Int)
  · go_enter Try.func34, Try.ntmps34
    go_wp2
    apply wp_region_mm M 6 (by kernel_rfl) (by kernel_rfl); (simp only [List.take_succ_cons, List.take_zero]; repeat (first | exact wpText_nil | (apply wpText_cons; (intro w2 M; have C := M.ruleAll; simp only [Go.Proofs.Ytinjjaoikofkdaa.ruleAll] at C; go_wp2; exact ⟨rfl, rfl, M⟩); rfl))); (clear M; (try clear C); intro w2 M; simp only [List.drop_succ_cons, List.drop_zero]; have C := M.ruleAll; simp only [Go.Proofs.Ytinjjaoikofkdaa.ruleAll] at C)
    go_wp2_with (first | ((with_reducible apply wpM_appI M 27 0 B g n cap xs 43 101 p q (n - q) (cap - q)); rfl; rfl; rfl; (first | rfl | (simp only [Nat.mul_one]; rfl)); rfl; exact .inr rfl; exact und_sqH; kernel_rfl; (have := HQ.out; have := HP.out; omega); (have := HQ.out; have := HP.out; omega); exact HCP.out.1; exact H1.out; (clear M; (try clear C); intro w9 M; simp only [List.set_cons_zero] at M)) | ((with_reducible apply wpM_clr1' M 0 B g n cap 43 101 (setH xs (p * 101) (List.take ((n - q) * 101) (List.drop (q * 101) xs))) 27 (.agg (sqs 0 fun _ _ => 0)) (zsQ) (p + (n - q)) (n - (p + (n - q))) (cap - (p + (n - q)))); rfl; rfl; exact .inr rfl; rfl; exact ⟨rfl, by first | rfl | (simp only [Nat.mul_one]; rfl)⟩; exact und_sqH; exact zero_sqs; rfl; exact one_sqH; exact zsQ_len; (have := HL.out; have := HP.out; omega); (have := HL.out; have := HP.out; omega); (clear M; (try clear C); intro w9 M; simp only [List.set_cons_zero] at M)))
    go_ret
    have M9 := M.cutRowH 0 rfl (m := n - 1) (by omega)
    simp only [List.set_cons_zero] at M9
    rw [HL.out, HQ.out, HD.out] at M9
    exact ⟨g, cap, rfl, by rw [← HL.out]; rfl, M9⟩
  · obtain rfl : cap = n := by omega
    obtain rfl : q = cap := by omega
    have hqq : ¬ ((q : Int) < (q : Int)) := by omega
    clear hqc
    go_enter Try.func34, Try.ntmps34
    go_wp2
    apply wp_region_mm M 6 (by kernel_rfl) (by kernel_rfl); (simp only [List.take_succ_cons, List.take_zero]; repeat (first | exact wpText_nil | (apply wpText_cons; (intro w2 M; have C := M.ruleAll; simp only [Go.Proofs.Ytinjjaoikofkdaa.ruleAll] at C; go_wp2; exact ⟨rfl, rfl, M⟩); rfl))); (clear M; (try clear C); intro w2 M; simp only [List.drop_succ_cons, List.drop_zero]; have C := M.ruleAll; simp only [Go.Proofs.Ytinjjaoikofkdaa.ruleAll] at C)
    go_wp2_with (first | ((with_reducible apply wpM_clr1' M 0 B g q q 43 101 xs 27 (.agg (sqs 0 fun _ _ => 0)) (zsQ) p (q - p) (q - p)); rfl; rfl; exact .inr rfl; rfl; exact ⟨rfl, by first | rfl | (simp only [Nat.mul_one]; rfl)⟩; exact und_sqH; exact zero_sqs; rfl; exact one_sqH; exact zsQ_len; (have := HQ.out; omega); (have := HQ.out; omega); (clear M; (try clear C); intro w9 M; simp only [List.set_cons_zero] at M)))
    go_ret
    have M9 := M.cutRowH 0 rfl (m := q - 1) (by omega)
    simp only [List.set_cons_zero] at M9
    have hq1 : q - 1 = p := by have := HQ.out; omega
    have hq2 : q - (p + 1) = 0 := by have := HQ.out; omega
    have hd := HD.out
    rw [hq2, hq1, Nat.zero_mul, List.take_zero, setH_nil] at hd
    rw [hq1, hd] at M9
    rw [hq1]
    exact ⟨g, q, rfl, rfl, M9⟩

end Go.Proofs.Ytinjjaoikofkdaa

/- The law on a book without a loop: its walk, given what the program's function hands back. Printed by gen/h12.py. -/
namespace Go.Proofs.Ytinjjaoikofkdaa
set_option linter.unusedSimpArgs false
set_option linter.unusedVariables false
open Go Go.RowKit

set_option maxRecDepth 100000 in
set_option maxHeartbeats 4000000 in
theorem lawDropLoop_of (ns : List ByteArray) (ls : List Sqr) (s : ByteArray) (hn : ns.length ≤ maxLen) (hm : ls.length ≤ maxLen) (hs : ∀ x ∈ ns, x.size ≤ maxLen) (hby : ∀ q ∈ ls, Byt2 q.t) (w : World) (p1 p2 : Option Addr) (c1 c2 : Nat)
    (hr1 : rdp w p1 ns.length (nmF ns)) (hr2 : rdp w p2 (ls.length * 101) (fun j => (slC ls).getD j undef))
    (HI : ∀ (w1 : World) (g1 g2 : Nat), BkIn ns ls → s.size ≤ 1048576 → BkHere ns ls w1 g1 g2 → Calls Try.prog 10 #[.agg (bkA g1 ns.length g2 ls.length ns.length ls.length), .string s] w1 fun e w' => BkNew (dropN ns ls s) (dropL ns ls s) (namedR ns ls s).2 w1 e w') :
    Calls Try.prog 3 #[.agg (bkV p1 c1 p2 c2 ns.length ls.length), .string s] w fun e w' => e = .returned (.bool true) ∧ Below w.heap.size w w' := by
  have M := Mm.start no w
  have HS := fun w1 (hb : Below w.heap.size w w1) => szBook_any ns hn hs ls.length hm w1 p1 p2 c1 c2 1048576 (by omega) (by omega) (hr1.later hb)
  have R1 := Hid2.mk (fun w1 (hb : Below w.heap.size w w1) => hr1.later hb)
  have R2 := Hid2.mk (fun w1 (hb : Below w.heap.size w w1) => hr2.later hb)
  have HBY := Hid2.mk hby
  have HI0 := Hid2.mk HI
  clear hr1 hr2 hs hby HI
  by_cases hlong : 1048576 < (s.size : Int)
  · go_enter Try.func3, Try.ntmps3
    go_wp2_with (first | ((with_reducible apply wpM_box' M 25 (bkV p1 c1 p2 c2 ns.length ls.length)); rfl; exact ⟨rfl, rfl⟩; clear M; (try clear C); intro bb w9 h_bb M; have C := M.ruleAll; simp only [Go.Proofs.Ytinjjaoikofkdaa.ruleAll] at C))
    go_ret
    exact ⟨rfl, M.below⟩
  go_enter Try.func3, Try.ntmps3
  go_wp2_with (first | ((with_reducible apply wpM_box' M 25 (bkV p1 c1 p2 c2 ns.length ls.length)); rfl; exact ⟨rfl, rfl⟩; clear M; (try clear C); intro bb w9 h_bb M; have C := M.ruleAll; simp only [Go.Proofs.Ytinjjaoikofkdaa.ruleAll] at C) | ((with_reducible apply wpM_lda' M 0 25 0 (bkV p1 c1 p2 c2 ns.length ls.length)); rfl; rfl; rfl; exact ⟨rfl, inf_bk0.trans (congrArg some (bkv_size ..).symm), _, und_bk0, rfl⟩; exact whole_of rfl) | (go_at_call 7; fail))
  refine (HS _ M.below).mono ?_
  rintro e w1 ⟨r, rfl, hr, hb⟩
  have M9 := M.later hb
  clear M; (try clear C)
  have M := M9
  clear M9 hb
  have C := M.ruleAll; simp only [Go.Proofs.Ytinjjaoikofkdaa.ruleAll] at C
  clear HS
  by_cases hneg : r < 0
  · go_wp2
    go_ret
    exact ⟨rfl, M.below⟩
  obtain ⟨_, q1, q2, q3⟩ := hr (by omega)
  have HB : BkIn ns ls := ⟨by omega, by omega, fun x hx => by have := q2 x hx; omega, HBY.out⟩
  clear hr q2
  have HT := fun w1 (hb : Below w.heap.size w w1) => toBook_any ns ls HB.n HB.m w1 p1 p2 c1 c2 (R1.out w1 hb) (R2.out w1 hb)
  have HS := Hid2.mk (fun w1 g1 g2 (h : BkHere ns ls w1 g1 g2) => specDropLoop_any HB s (by omega) w1 h ns.length ls.length)
  have HP := Hid2.mk (fun w1 g1 g2 (h : BkHere ns ls w1 g1 g2) => HI0.out w1 g1 g2 HB (by omega) h)
  have HE := Hid2.mk (fun w1 g1 g2 g3 g4 (h : BkHere ns ls w1 g1 g2) (h' : BkHere ns ls w1 g3 g4) => eqBookA_any HB w1 h h' ns.length ls.length ns.length ls.length)
  have hN : (dropN ns ls s).length ≤ 1048576 := by
    unfold dropN; split
    · have := List.length_eraseIdx_le ns (namedR ns ls s).1.toNat; have := HB.n; omega
    · exact Nat.zero_le _
  have hQ : (dropL ns ls s).length ≤ 1048576 := by
    unfold dropL; split
    · have := List.length_eraseIdx_le ls (namedR ns ls s).1.toNat; have := HB.m; omega
    · exact Nat.zero_le _
  clear HI0
  generalize dropN ns ls s = N at *
  generalize dropL ns ls s = Q at *
  generalize (namedR ns ls s).2 = d at *
  have HEQ := Hid2.mk (fun w1 pa pb pc pd ca cb cc cd h1 h2 h3 h4 => eqBook_any N Q (by omega) (by omega) w1 pa pb pc pd ca cb cc cd h1 h2 h3 h4)
  have hdd : (d == d) = true := by simp
  go_wp2_with (first | ((with_reducible apply wpM_lda' M 0 25 0 (bkV p1 c1 p2 c2 ns.length ls.length)); rfl; rfl; rfl; exact ⟨rfl, inf_bk0.trans (congrArg some (bkv_size ..).symm), _, und_bk0, rfl⟩; exact whole_of rfl) | (go_at_call 9; fail))
  refine (HT _ M.below).mono ?_
  rintro e w1 ⟨g1, g2, cs1, cs2, rfl, hgg1, hgg2, hscs1, hscs2, M'⟩
  have hzg1 := M.size
  have M9 := M.join2 M' (new_box2 hgg1 hgg2)
  clear M; (try clear C)
  have M := M9
  clear M9 M'
  have C := M.ruleAll; simp only [Go.Proofs.Ytinjjaoikofkdaa.ruleAll] at C
  go_wp2_with (first | (go_at_call 8; fail))
  refine (HS.out _ _ _ (BkHere.of M 0 1 (by decide) rfl rfl hscs1 hscs2)).mono ?_
  rintro e w1 ⟨pAa, cAa, pAb, cAb, rfl, M'⟩
  have hbA := M.size
  have M9 := M.join M' (newRows M')
  simp only [List.cons_append, List.nil_append] at M9
  clear M; (try clear C)
  have M := M9
  clear M9 M'
  have C := M.ruleAll; simp only [Go.Proofs.Ytinjjaoikofkdaa.ruleAll] at C
  go_wp2_with (first | ((with_reducible apply wpM_lda' M 5 25 0 (bkV p1 c1 p2 c2 ns.length ls.length)); rfl; rfl; rfl; exact ⟨rfl, inf_bk0.trans (congrArg some (bkv_size ..).symm), _, und_bk0, rfl⟩; exact whole_of rfl) | ((with_reducible apply wpM_alloc' M 29 (bkV none 0 none 0 0 0)); rfl; exact ⟨rfl, _, zero_bkH _, rfl⟩; clear M; (try clear C); intro b6 w9 h_b6 M; have C := M.ruleAll; simp only [Go.Proofs.Ytinjjaoikofkdaa.ruleAll] at C) | ((with_reducible apply wpM_sta' M 0 29 (bkV pAa cAa pAb cAb N.length Q.length)); rfl; rfl; rfl; rfl; (first | exact .inl (by assumption) | exact .inr rfl | exact .inr (by assumption)); exact ⟨rfl, inf_bok.trans (congrArg some (bkv_size ..).symm), flat_bkv _ _ _ _ _ _⟩; (simp only [entCells, List.getElem?_cons_zero, List.getElem?_cons_succ, bkv_size, bkv_size]); clear M; (try clear C); intro w9 M; simp only [List.set_cons_zero, List.set_cons_succ, entBlk, entT, List.getElem?_cons_zero, List.getElem?_cons_succ] at M; have C := M.ruleAll; simp only [Go.Proofs.Ytinjjaoikofkdaa.ruleAll] at C) | (go_at_call 9; fail))
  refine (HT _ M.below).mono ?_
  rintro e w1 ⟨g3, g4, cs3, cs4, rfl, hgg3, hgg4, hscs3, hscs4, M'⟩
  have hzg3 := M.size
  have M9 := M.join2 M' (new_box2 hgg3 hgg4)
  clear M; (try clear C)
  have M := M9
  clear M9 M'
  have C := M.ruleAll; simp only [Go.Proofs.Ytinjjaoikofkdaa.ruleAll] at C
  go_wp2_with (first | ((with_reducible apply wpM_alloc' M 29 (bkV none 0 none 0 0 0)); rfl; exact ⟨rfl, _, zero_bkH _, rfl⟩; clear M; (try clear C); intro b8 w9 h_b8 M; have C := M.ruleAll; simp only [Go.Proofs.Ytinjjaoikofkdaa.ruleAll] at C) | ((with_reducible apply wpM_sta' M 0 29 (bkA g3 ns.length g4 ls.length ns.length ls.length)); rfl; rfl; rfl; rfl; (first | exact .inl (by assumption) | exact .inr rfl | exact .inr (by assumption)); exact ⟨rfl, inf_bok.trans (congrArg some (bok_size ..).symm), flat_bok _ _ _ _ _ _⟩; (simp only [entCells, List.getElem?_cons_zero, List.getElem?_cons_succ, bok_size, bkv_size]); clear M; (try clear C); intro w9 M; simp only [List.set_cons_zero, List.set_cons_succ, entBlk, entT, List.getElem?_cons_zero, List.getElem?_cons_succ] at M; have C := M.ruleAll; simp only [Go.Proofs.Ytinjjaoikofkdaa.ruleAll] at C) | ((with_reducible apply wpM_lda' M 0 29 0 (bkA g3 ns.length g4 ls.length ns.length ls.length)); rfl; rfl; rfl; exact ⟨rfl, inf_bok.trans (congrArg some (bok_size ..).symm), _, und_bok, rfl⟩; exact whole_of rfl) | (go_at_call 10; fail))
  refine (HP.out _ _ _ (BkHere.of M 1 2 (by decide) rfl rfl hscs3 hscs4)).mono ?_
  rintro e w1 ⟨pCa, cCa, pCb, cCb, rfl, M'⟩
  have hbC := M.size
  have M9 := M.join M' (newRows M')
  simp only [List.cons_append, List.nil_append] at M9
  clear M; (try clear C)
  have M := M9
  clear M9 M'
  have C := M.ruleAll; simp only [Go.Proofs.Ytinjjaoikofkdaa.ruleAll] at C
  go_wp2_with (first | ((with_reducible apply wpM_alloc' M 29 (bkV none 0 none 0 0 0)); rfl; exact ⟨rfl, _, zero_bkH _, rfl⟩; clear M; (try clear C); intro b9 w9 h_b9 M; have C := M.ruleAll; simp only [Go.Proofs.Ytinjjaoikofkdaa.ruleAll] at C) | ((with_reducible apply wpM_sta' M 0 29 (bkV pCa cCa pCb cCb N.length Q.length)); rfl; rfl; rfl; rfl; (first | exact .inl (by assumption) | exact .inr rfl | exact .inr (by assumption)); exact ⟨rfl, inf_bok.trans (congrArg some (bkv_size ..).symm), flat_bkv _ _ _ _ _ _⟩; (simp only [entCells, List.getElem?_cons_zero, List.getElem?_cons_succ, bkv_size, bkv_size]); clear M; (try clear C); intro w9 M; simp only [List.set_cons_zero, List.set_cons_succ, entBlk, entT, List.getElem?_cons_zero, List.getElem?_cons_succ] at M; have C := M.ruleAll; simp only [Go.Proofs.Ytinjjaoikofkdaa.ruleAll] at C) | ((with_reducible apply wpM_lda' M 0 29 0 (bkV pCa cCa pCb cCb N.length Q.length)); rfl; rfl; rfl; exact ⟨rfl, inf_bok.trans (congrArg some (bkv_size ..).symm), _, und_bok, rfl⟩; exact whole_of rfl) | ((with_reducible apply wpM_lda' M 6 29 0 (bkV pAa cAa pAb cAb N.length Q.length)); rfl; rfl; rfl; exact ⟨rfl, inf_bok.trans (congrArg some (bkv_size ..).symm), _, und_bok, rfl⟩; exact whole_of rfl) | (go_at_call 11; ((with_reducible refine (HEQ.out _ _ _ _ _ _ _ _ _ (nmR_rdq (M.row 1 rfl)) (slR_rdq (M.row 2 rfl)) (nmR_rdq (M.row 7 rfl)) (slR_rdq (M.row 8 rfl))).mono ?_); rintro e w1 ⟨rfl, hb⟩; have hsz := M.size; (try (have G9 := G.later hb; clear G; have G := G9; clear G9)); have M9 := M.later hb; clear M; (try clear C); have M := M9; clear M9; have C := M.ruleAll; simp only [Go.Proofs.Ytinjjaoikofkdaa.ruleAll] at C)))
  apply wp_region_mmf1 M [0, 1] 2 3 _ (StBk ns ls) (by kernel_rfl) (by kernel_rfl) rfl rfl rfl
  case ht => (repeat (first | exact wpTextG_nil | (apply wpTextG_cons; (intro g9 w2 hG; obtain ⟨Lg9, hSt9, G⟩ := hG; have M := G.suffix; have C := M.ruleAll; simp only [Go.Proofs.Ytinjjaoikofkdaa.ruleAll] at C; go_wp2_with (first | ((with_reducible apply wpM_lda' M 3 29 0 (bkA g3 ns.length g4 ls.length ns.length ls.length)); rfl; rfl; rfl; exact ⟨rfl, inf_bok.trans (congrArg some (bok_size ..).symm), _, und_bok, rfl⟩; exact whole_of rfl) | ((with_reducible apply wpM_lda' M 11 25 0 (bkV p1 c1 p2 c2 ns.length ls.length)); rfl; rfl; rfl; exact ⟨rfl, inf_bk0.trans (congrArg some (bkv_size ..).symm), _, und_bk0, rfl⟩; exact whole_of rfl)); exact ⟨rfl, rfl, Lg9, hSt9, G⟩); rfl)))
  case hA =>
    intro Lg w2 h M
    obtain rfl : Lg = [] := h
    refine yield_walk (ops := #[]) rfl rfl (by simp [Act.put]) ?_
    simp only [List.nil_append] at M
    go_wp2_with (first | (go_at_call 9; fail))
    refine (HT _ M.below).mono ?_
    rintro e w1 ⟨g5, g6, cs5, cs6, rfl, hg5, hg6, hs5, hs6, M'⟩
    have M9 := M.join2 M' (new_box2 hg5 hg6)
    go_wp2
    exact ⟨_, ⟨g5, g6, cs5, cs6, rfl, hs5, hs6, rfl⟩, M9⟩
  clear M; (try clear C)
  intro v Lg w2 h M
  obtain ⟨g5, g6, cs5, cs6, rfl, hs5, hs6, rfl⟩ := h
  simp only [List.drop_succ_cons, List.drop_zero, List.cons_append, List.nil_append] at M ⊢
  go_wp2_with (first | (go_at_call 11; ((with_reducible refine (HE.out _ _ _ _ _ (BkHere.of M 6 7 (by decide) rfl rfl hscs3 hscs4) (BkHere.of M 0 1 (by decide) rfl rfl hs5 hs6)).mono ?_); rintro e w1 ⟨rfl, hb⟩; have hsz := M.size; (try (have G9 := G.later hb; clear G; have G := G9; clear G9)); have M9 := M.later hb; clear M; (try clear C); have M := M9; clear M9; have C := M.ruleAll; simp only [Go.Proofs.Ytinjjaoikofkdaa.ruleAll] at C)) | (go_at_call 12; fail) | ((have M9 := M); clear M9; ((with_reducible apply wpM_lda' M 5 29 0 (bkA g3 ns.length g4 ls.length ns.length ls.length)); rfl; rfl; rfl; exact ⟨rfl, inf_bok.trans (congrArg some (bok_size ..).symm), _, und_bok, rfl⟩; exact whole_of rfl)))
  have M9 := (M.asRow 6 rfl w.heap.size ns.length 1 (Nat.le_trans hzg3 hgg3) (by rw [hscs3.1, Nat.mul_one]) hn).asRow 7 rfl w.heap.size ls.length 101 (Nat.le_trans hzg3 hgg4) hscs4.1 hm
  simp only [List.set_cons_zero, List.set_cons_succ] at M9
  have M8 := M9.sub [6, 7, 2, 3, 4, 5, 8, 9, 10, 11, 12, 13] (by decide)
  simp only [List.filterMap_cons, List.filterMap_nil, List.getElem?_cons_succ, List.getElem?_cons_zero] at M8
  clear M; (try clear C)
  have M := M8
  clear M8 M9
  have C := M.ruleAll; simp only [Go.Proofs.Ytinjjaoikofkdaa.ruleAll] at C
  refine (markBook_any w.heap.size ns.length ls.length ns.length ls.length (some ⟨g3, 0, none⟩) (some ⟨g4, 0, none⟩) cs3.toList cs4.toList 1 HB.n HB.m (by omega) _ (M.sub [0, 1] (by decide)).anew).mono ?_
  rintro e w2 ⟨rfl, ys1, ys2, hy1, hy2, M'⟩
  have M9 := M.markd (Nat.le_refl _) M'
  clear M; (try clear C)
  have M := M9
  clear M9 M' hy1 hy2
  have C := M.ruleAll; simp only [Go.Proofs.Ytinjjaoikofkdaa.ruleAll] at C
  have hk1 : ¬ ((1 + ns.length + ls.length : Nat) : Int) < 0 := by omega
  generalize ((1 + ns.length + ls.length : Nat) : Int) = kk1 at hk1 ⊢
  have hd1 : decide (kk1 < 0) = false := decide_eq_false hk1
  go_wp2_with (first | ((with_reducible apply wpM_lda' M 2 29 0 (bkV pCa cCa pCb cCb N.length Q.length)); rfl; rfl; rfl; exact ⟨rfl, inf_bok.trans (congrArg some (bkv_size ..).symm), _, und_bok, rfl⟩; exact whole_of rfl) | ((with_reducible apply wpM_lda' M 6 29 0 (bkV pAa cAa pAb cAb N.length Q.length)); rfl; rfl; rfl; exact ⟨rfl, inf_bok.trans (congrArg some (bkv_size ..).symm), _, und_bok, rfl⟩; exact whole_of rfl) | (go_at_call 11; ((with_reducible refine (HEQ.out _ _ _ _ _ _ _ _ _ (nmR_rdq (M.row 3 rfl)) (slR_rdq (M.row 4 rfl)) (nmR_rdq (M.row 7 rfl)) (slR_rdq (M.row 8 rfl))).mono ?_); rintro e w1 ⟨rfl, hb⟩; have hsz := M.size; (try (have G9 := G.later hb; clear G; have G := G9; clear G9)); have M9 := M.later hb; clear M; (try clear C); have M := M9; clear M9; have C := M.ruleAll; simp only [Go.Proofs.Ytinjjaoikofkdaa.ruleAll] at C)) | (go_at_call 12; fail))
  refine (markBook_any _ N.length Q.length _ _ _ _ (nmR N) (slC Q) 1 hN hQ (by omega) _ (M.sub [3, 4] (by decide)).anew).mono ?_
  rintro e w3 ⟨rfl, ys3, ys4, hy3, hy4, M'⟩
  have M8 := M.sub [3, 4, 0, 1, 2, 5, 6, 7, 8, 9, 10, 11] (by decide)
  simp only [List.filterMap_cons, List.filterMap_nil, List.getElem?_cons_succ, List.getElem?_cons_zero] at M8
  have M9 := M8.markd hbC M'
  clear M; (try clear C)
  have M := M9
  clear M8 M9 M'
  have C := M.ruleAll; simp only [Go.Proofs.Ytinjjaoikofkdaa.ruleAll] at C
  have HHB := Hid2.mk (fun w1 h1 h2 => heldBook1_any N.length Q.length cCa cCb pCa pCb hN hQ w1 (fun j => ys4.getD j undef) h1 h2 (fun j hj => by rw [List.getD_eq_getElem?_getD, hy4.2 j hj]; rfl))
  have HY3 := Hid2.mk hy3
  clear hy3 hy4
  have hk2 : ¬ ((1 + N.length + Q.length : Nat) : Int) < 0 := by omega
  generalize ((1 + N.length + Q.length : Nat) : Int) = kk2 at hk2 HHB ⊢
  have hkk : (kk2 == kk2) = true := by simp
  go_wp2_with (first | ((with_reducible apply wpM_lda' M 4 29 0 (bkV pCa cCa pCb cCb N.length Q.length)); rfl; rfl; rfl; exact ⟨rfl, inf_bok.trans (congrArg some (bkv_size ..).symm), _, und_bok, rfl⟩; exact whole_of rfl) | (go_at_call 13; ((with_reducible refine (HHB.out _ (mkdS_rdq HY3.out (M.row 0 rfl)) (rdq_of_own (M.row 1 rfl))).mono ?_); rintro e w1 ⟨rfl, hb⟩; have hsz := M.size; (try (have G9 := G.later hb; clear G; have G := G9; clear G9)); have M9 := M.later hb; clear M; (try clear C); have M := M9; clear M9; have C := M.ruleAll; simp only [Go.Proofs.Ytinjjaoikofkdaa.ruleAll] at C)) | ((with_reducible apply wpM_lda' M 11 25 0 (bkV p1 c1 p2 c2 ns.length ls.length)); rfl; rfl; rfl; exact ⟨rfl, inf_bk0.trans (congrArg some (bkv_size ..).symm), _, und_bk0, rfl⟩; exact whole_of rfl) | (go_at_call 9; fail))
  refine (HT _ M.below).mono ?_
  rintro e w1 ⟨g7, g8, cs7, cs8, rfl, hg7, hg8, hs7, hs8, M'⟩
  have M9 := M.join2 M' (new_box2 hg7 hg8)
  clear M; (try clear C)
  have M := M9
  clear M9 M'
  have C := M.ruleAll; simp only [Go.Proofs.Ytinjjaoikofkdaa.ruleAll] at C
  go_wp2_with (first | (go_at_call 10; fail))
  refine (HP.out _ _ _ (BkHere.of M 0 1 (by decide) rfl rfl hs7 hs8)).mono ?_
  rintro e w1 ⟨pEa, cEa, pEb, cEb, rfl, M'⟩
  have hbE := M.size
  have M9 := M.join M' (newRows M')
  simp only [List.cons_append, List.nil_append] at M9
  clear M; (try clear C)
  have M := M9
  clear M9 M'
  have C := M.ruleAll; simp only [Go.Proofs.Ytinjjaoikofkdaa.ruleAll] at C
  go_wp2_with (first | ((with_reducible apply wpM_alloc' M 29 (bkV none 0 none 0 0 0)); rfl; exact ⟨rfl, _, zero_bkH _, rfl⟩; clear M; (try clear C); intro b14 w9 h_b14 M; have C := M.ruleAll; simp only [Go.Proofs.Ytinjjaoikofkdaa.ruleAll] at C) | ((with_reducible apply wpM_sta' M 0 29 (bkV pEa cEa pEb cEb N.length Q.length)); rfl; rfl; rfl; rfl; (first | exact .inl (by assumption) | exact .inr rfl | exact .inr (by assumption)); exact ⟨rfl, inf_bok.trans (congrArg some (bkv_size ..).symm), flat_bkv _ _ _ _ _ _⟩; (simp only [entCells, List.getElem?_cons_zero, List.getElem?_cons_succ, bkv_size, bkv_size]); clear M; (try clear C); intro w9 M; simp only [List.set_cons_zero, List.set_cons_succ, entBlk, entT, List.getElem?_cons_zero, List.getElem?_cons_succ] at M; have C := M.ruleAll; simp only [Go.Proofs.Ytinjjaoikofkdaa.ruleAll] at C) | ((with_reducible apply wpM_lda' M 0 29 0 (bkV pEa cEa pEb cEb N.length Q.length)); rfl; rfl; rfl; exact ⟨rfl, inf_bok.trans (congrArg some (bkv_size ..).symm), _, und_bok, rfl⟩; exact whole_of rfl) | ((with_reducible apply wpM_lda' M 11 29 0 (bkV pAa cAa pAb cAb N.length Q.length)); rfl; rfl; rfl; exact ⟨rfl, inf_bok.trans (congrArg some (bkv_size ..).symm), _, und_bok, rfl⟩; exact whole_of rfl) | (go_at_call 11; ((with_reducible refine (HEQ.out _ _ _ _ _ _ _ _ _ (nmR_rdq (M.row 1 rfl)) (slR_rdq (M.row 2 rfl)) (nmR_rdq (M.row 12 rfl)) (slR_rdq (M.row 13 rfl))).mono ?_); rintro e w1 ⟨rfl, hb⟩; have hsz := M.size; (try (have G9 := G.later hb; clear G; have G := G9; clear G9)); have M9 := M.later hb; clear M; (try clear C); have M := M9; clear M9; have C := M.ruleAll; simp only [Go.Proofs.Ytinjjaoikofkdaa.ruleAll] at C)) | ((with_reducible apply wpM_lda' M 9 29 0 (bkV pCa cCa pCb cCb N.length Q.length)); rfl; rfl; rfl; exact ⟨rfl, inf_bok.trans (congrArg some (bkv_size ..).symm), _, und_bok, rfl⟩; exact whole_of rfl) | (go_at_call 13; ((with_reducible refine (HHB.out _ (mkdS_rdq HY3.out (M.row 5 rfl)) (rdq_of_own (M.row 6 rfl))).mono ?_); rintro e w1 ⟨rfl, hb⟩; have hsz := M.size; (try (have G9 := G.later hb; clear G; have G := G9; clear G9)); have M9 := M.later hb; clear M; (try clear C); have M := M9; clear M9; have C := M.ruleAll; simp only [Go.Proofs.Ytinjjaoikofkdaa.ruleAll] at C)))
  go_ret
  exact ⟨rfl, M.below⟩
end Go.Proofs.Ytinjjaoikofkdaa

/- DropLoop of the program: contract. -/
namespace Go.Proofs.Ytinjjaoikofkdaa
set_option linter.unusedSimpArgs false
set_option linter.unusedVariables false
open Go Go.RowKit

/-- A call cuts a row. -/
theorem Mm.delRow {D0 : Nat → Prop} {w0 w w' : World} {L : List Ent} {B n n' e size : Nat} {v v' : Value} {xs xs' : List Value} (M : Mm D0 w0 w (.row B v n xs e size :: L)) (hB : w0.heap.size ≤ B) (M' : Mm (fun b => v.ownBlock = some b) w w' [.row B v' n' xs' e size]) (hv : v'.ownBlock = v.ownBlock) : Mm D0 w0 w' (.row B v' n' xs' e size :: L) := by
  have h := M.row 0 rfl
  refine Mm.callD (X := [.row B v n xs e size]) (X' := [.row B v' n' xs' e size]) M M' (fun b hb => ⟨_, List.mem_cons_self .., hb⟩) (fun x hx b hb => ?_) fun b hb hd => ?_
  · rw [List.mem_singleton.1 hx] at hb
    exact .inl ⟨_, List.mem_cons_self .., hv.symm.trans hb⟩
  · have := own_ge h hd
    omega
theorem slC_app (a b : List Sqr) : slC (a ++ b) = slC a ++ slC b := by simp [slC, rowC]
theorem slC_del (ls : List Sqr) (p : Nat) (hp : p < ls.length) : (slC ls).take (p * 101) ++ (slC ls).drop ((p + 1) * 101) = slC (ls.eraseIdx p) := by
  have h1 : slC ls = slC (ls.take p) ++ slC (ls.drop p) := by rw [← slC_app, List.take_append_drop]
  have h2 : slC ls = slC (ls.take (p + 1)) ++ slC (ls.drop (p + 1)) := by rw [← slC_app, List.take_append_drop]
  have l1 : (slC (ls.take p)).length = p * 101 := by rw [show (slC (ls.take p)).length = (ls.take p).length * 101 from rowC_len sqC_size _, List.length_take, Nat.min_eq_left (Nat.le_of_lt hp)]
  have l2 : (slC (ls.take (p + 1))).length = (p + 1) * 101 := by rw [show (slC (ls.take (p + 1))).length = (ls.take (p + 1)).length * 101 from rowC_len sqC_size _, List.length_take, Nat.min_eq_left hp]
  rw [List.eraseIdx_eq_take_drop_succ, slC_app]
  congr 1
  · rw [h1, ← l1, List.take_left']; rfl
  · rw [h2, ← l2, List.drop_left']; rfl
theorem nmR_del (ns : List ByteArray) (p : Nat) : (nmR ns).take (p * 1) ++ (nmR ns).drop ((p + 1) * 1) = nmR (ns.eraseIdx p) := by
  rw [Nat.mul_one, Nat.mul_one, List.eraseIdx_eq_take_drop_succ]
  simp [nmR, List.map_take, List.map_drop]
theorem build_bk2 (p1 : Option Addr) (n1 c1 : Nat) (p2 : Option Addr) (n2 c2 : Nat) (w : World) : (Instr.build 29 #[(0, .slice p1 n1 c1), (1, .slice p2 n2 c2)]).run Try.prog w = .ok (.agg (bkV p1 c1 p2 c2 n1 n2)) w := by kernel_rfl
/-- What the floating calls leave. -/
def StDel (B n : Nat) (X0 X1 : List Value) (m : Nat) (Y : List Value) : List Value → List Ent → Prop
  | [], Lg => Lg = []
  | [v], Lg => Lg = [.row B v n X0 9 1]
  | [_, u], Lg => ∃ g cap, u = .slice (some ⟨g, 0, none⟩) (n - 1) cap ∧ Lg = [.row B u (n - 1) X1 9 1]
  | _ :: u :: x :: _, Lg => ∃ g cap, u = .slice (some ⟨g, 0, none⟩) (n - 1) cap ∧ Lg = [.row B x m Y 43 101, .row B u (n - 1) X1 9 1]

set_option maxRecDepth 100000 in
set_option maxHeartbeats 400000 in
theorem implDropLoop_any {ns : List ByteArray} {ls : List Sqr} (h : BkIn ns ls) (s : ByteArray) (hs : s.size ≤ 1048576) (w : World) {g1 g2 : Nat} (h1 : BkHere ns ls w g1 g2) (c1 c2 : Nat) (hc : ns.length ≤ c1) :
    Calls Try.prog 10 #[.agg (bkA g1 c1 g2 c2 ns.length ls.length), .string s] w fun e w' => BkNew (dropN ns ls s) (dropL ns ls s) (namedR ns ls s).2 w e w' := by
  have M := Mm.start no w
  have k0 : (bkA g1 c1 g2 c2 ns.length ls.length)[0]? = some (.slice (some ⟨g1, 0, none⟩) ns.length c1) := rfl
  have k1 : (bkA g1 c1 g2 c2 ns.length ls.length)[1]? = some (.slice (some ⟨g2, 0, none⟩) ls.length c2) := rfl
  have HP := fun w1 (hb : Below w.heap.size w w1) => placed_any h s hs w1 (h1.later hb) c1 c2 hc
  have hbd := build_bkH
  rcases namedR_ok (ns := ns) (ls := ls) (s := s) with ⟨hne, hp0⟩ | ⟨he, p, hpn, hk, hpk⟩
  · have HR1 := Hid2.mk (show dropN ns ls s = [] from if_neg hne)
    have HR2 := Hid2.mk (show dropL ns ls s = [] from if_neg hne)
    generalize namedR ns ls s = r at hne hp0 HP
    obtain ⟨p, d⟩ := r
    have hd : (d == 0) = false := beq_eq_false_iff_ne.2 hne
    clear h h1 hc hne hp0
    go_enter Try.func10, Try.ntmps10
    go_wp2_with (first | ((with_reducible apply wpM_box' M 29 (bkA g1 c1 g2 c2 ns.length ls.length)); rfl; exact ⟨rfl, rfl⟩; clear M; (try clear C); intro bb w9 h_bb M; have C := M.ruleAll; simp only [Go.Proofs.Ytinjjaoikofkdaa.ruleAll] at C) | ((with_reducible apply wpM_alloc' M 29 (bkV none 0 none 0 0 0)); rfl; exact ⟨rfl, _, zero_bkH _, rfl⟩; clear M; (try clear C); intro b4 w9 h_b4 M; have C := M.ruleAll; simp only [Go.Proofs.Ytinjjaoikofkdaa.ruleAll] at C) | ((with_reducible apply wpM_lda' M 1 29 0 (bkA g1 c1 g2 c2 ns.length ls.length)); rfl; rfl; rfl; exact ⟨rfl, inf_bok.trans (congrArg some (bok_size ..).symm), _, und_bok, rfl⟩; exact whole_of rfl) | (go_at_call 31; ((with_reducible refine (HP _ M.below).mono ?_); rintro e w1 ⟨rfl, hb⟩; have hsz := M.size; (try (have G9 := G.later hb; clear G; have G := G9; clear G9)); have M9 := M.later hb; clear M; (try clear C); have M := M9; clear M9; have C := M.ruleAll; simp only [Go.Proofs.Ytinjjaoikofkdaa.ruleAll] at C)) | (refine wpList_build 29 _ rfl rfl [] rfl _ (build_bkH _) ?_) | ((with_reducible apply wpM_sta' M 0 29 (bkV none 0 none 0 0 0)); rfl; rfl; rfl; rfl; (first | exact .inl (by assumption) | exact .inr rfl | exact .inr (by assumption)); exact ⟨rfl, inf_bok.trans (congrArg some (bkv_size ..).symm), flat_bkv _ _ _ _ _ _⟩; (simp only [entCells, List.getElem?_cons_zero, List.getElem?_cons_succ, bkv_size, bkv_size]); clear M; (try clear C); intro w9 M; simp only [List.set_cons_zero, List.set_cons_succ, entBlk, entT, List.getElem?_cons_zero, List.getElem?_cons_succ] at M; have C := M.ruleAll; simp only [Go.Proofs.Ytinjjaoikofkdaa.ruleAll] at C))
    refine bodyPost_ret (v := .tuple #[.agg (bkV none 0 none 0 0 0), .int .i64 d]) (by exact results_part2 rfl _ _ _ _ (bkV none 0 none 0 0 0) _ rfl und_bok rfl inf_bok (cells_of_blk0 (M.box 0 rfl)) _ rfl) rfl ?_
    unfold BkNew
    rw [HR1.out, HR2.out]
    exact ⟨none, 0, none, 0, rfl, ((Mm.start no w).later M.below |>.nilRow w.heap.size 43 101).nilRow w.heap.size 9 1⟩
  · have HR1 := Hid2.mk (show dropN ns ls s = ns.eraseIdx p by unfold dropN; rw [if_pos he, hpk, Int.toNat_natCast])
    have HR2 := Hid2.mk (show dropL ns ls s = ls.eraseIdx p by unfold dropL; rw [if_pos he, hpk, Int.toNat_natCast])
    have hmn := namedR_len he
    have HMN := Hid2.mk (show ns.length = ls.length from hmn.symm)
    have hpm : p < ls.length := hk
    generalize namedR ns ls s = r at he hpk HP
    obtain ⟨p', d⟩ := r
    obtain rfl : d = 0 := he
    obtain rfl : p' = (p : Int) := hpk
    have hnb := h.n
    have hmb := h.m
    have HC1 := Hid2.mk (fun w1 (hb : Below w.heap.size w w1) => cloneS_any ns (by omega) w1 g1 c1 (h1.later hb).r1)
    have HC2 := Hid2.mk (fun w1 (hb : Below w.heap.size w w1) => cloneQ_any ls (by omega) w1 g2 c2 (h1.later hb).r2)
    have ep : ((p + 1 : Nat) : Int) = (p : Int) + 1 := by omega
    have HD1 := Hid2.mk (fun w1 B v (hv : w1.ownsRow B 9 1 v ns.length (nmR ns)) => ep ▸ delS_any ns.length p (p + 1) (by omega) rfl (by omega) (nmR ns) (cloneS_any_one ns) B v w1 hv)
    have HD2 := Hid2.mk (fun w1 B v (hv : w1.ownsRow B 43 101 v ls.length (slC ls)) => ep ▸ delQ_any ls.length p (p + 1) (by omega) rfl (by omega) (slC ls) (cloneQ_any_one ls) B v w1 hv)
    have HPM := Hid2.mk hpm
    have hpb : (p : Int) < 1048576 := by omega
    have hp0 : (0 : Int) ≤ (p : Int) := by omega
    clear h h1 hc hmn hpm hpn hk ep
    have hdd : ((0 : Int) == 0) = true := rfl
    go_enter Try.func10, Try.ntmps10
    go_wp2_with (first | ((with_reducible apply wpM_box' M 29 (bkA g1 c1 g2 c2 ns.length ls.length)); rfl; exact ⟨rfl, rfl⟩; clear M; (try clear C); intro bb w9 h_bb M; have C := M.ruleAll; simp only [Go.Proofs.Ytinjjaoikofkdaa.ruleAll] at C) | ((with_reducible apply wpM_alloc' M 29 (bkV none 0 none 0 0 0)); rfl; exact ⟨rfl, _, zero_bkH _, rfl⟩; clear M; (try clear C); intro b4 w9 h_b4 M; have C := M.ruleAll; simp only [Go.Proofs.Ytinjjaoikofkdaa.ruleAll] at C) | ((with_reducible apply wpM_lda' M 1 29 0 (bkA g1 c1 g2 c2 ns.length ls.length)); rfl; rfl; rfl; exact ⟨rfl, inf_bok.trans (congrArg some (bok_size ..).symm), _, und_bok, rfl⟩; exact whole_of rfl) | (go_at_call 31; ((with_reducible refine (HP _ M.below).mono ?_); rintro e w1 ⟨rfl, hb⟩; have hsz := M.size; (try (have G9 := G.later hb; clear G; have G := G9; clear G9)); have M9 := M.later hb; clear M; (try clear C); have M := M9; clear M9; have C := M.ruleAll; simp only [Go.Proofs.Ytinjjaoikofkdaa.ruleAll] at C)))
    apply wp_region_mmf3 M [0, 1, 3, 4, 5, 7, 8, 10, 11, 12] 2 6 9 13 _ _ _ (StDel w.heap.size ns.length (nmR ns) (nmR (ns.eraseIdx p)) ls.length (slC ls)) (by kernel_rfl) (by kernel_rfl) rfl rfl rfl rfl rfl rfl rfl
    case ht => (repeat (first | exact wpTextG_nil | (apply wpTextG_cons; (intro g9 w2 hG; obtain ⟨Lg9, hSt9, G⟩ := hG; have M := G.suffix; have C := M.ruleAll; simp only [Go.Proofs.Ytinjjaoikofkdaa.ruleAll] at C; go_wp2; exact ⟨rfl, rfl, Lg9, hSt9, G⟩); rfl)))
    case hA =>
      intro Lg w2 h M
      obtain rfl : Lg = [] := h
      refine yield_walk (ops := #[]) rfl rfl (by simp [Act.put]) ?_
      simp only [List.nil_append] at M
      go_wp2_with (first | (go_at_call 33; fail))
      refine (HC1.out _ M.below).mono ?_
      rintro e w1 ⟨v, rfl, M'⟩
      have M9 := M.joinRow M'
      go_wp2
      exact ⟨_, rfl, M9⟩
    case hA2 =>
      intro v Lg w2 h M
      obtain rfl : Lg = [_] := h
      refine yield_walk (ops := #[]) rfl rfl (by simp [Act.put]) ?_
      simp only [List.cons_append, List.nil_append] at M
      simp only [Act.put, List.setIfInBounds_toArray, List.set_cons_succ, List.set_cons_zero]
      go_wp2_with (first | (go_at_call 32; fail))
      refine (HD1.out _ _ _ (M.row 0 rfl)).mono ?_
      rintro e w1 ⟨g, cap, hg, rfl, M'⟩
      have M9 := M.delRow (Nat.le_refl _) M' (hg.symm ▸ rfl)
      rw [nmR_del] at M9
      go_wp2
      exact ⟨_, ⟨g, cap, rfl, rfl⟩, M9⟩
    case hA3 =>
      intro v u Lg w2 h M
      obtain ⟨g, cap, rfl, rfl⟩ := h
      refine yield_walk (ops := #[]) rfl rfl (by simp [Act.put]) ?_
      simp only [List.cons_append, List.nil_append] at M
      simp only [Act.put, List.setIfInBounds_toArray, List.set_cons_succ, List.set_cons_zero]
      go_wp2_with (first | (go_at_call 35; fail))
      refine (HC2.out _ M.below).mono ?_
      rintro e w1 ⟨v, rfl, M'⟩
      have M9 := M.joinRow M'
      go_wp2
      exact ⟨_, ⟨g, cap, rfl, rfl⟩, M9⟩
    clear M; (try clear C)
    intro v u y Lg w2 h M
    obtain ⟨g, cap, rfl, rfl⟩ := h
    simp only [List.drop_succ_cons, List.drop_zero, List.cons_append, List.nil_append] at M ⊢
    simp only [Act.put, List.setIfInBounds_toArray, List.set_cons_succ, List.set_cons_zero]
    go_wp2_with (first | (go_at_call 34; fail))
    refine (HD2.out _ _ _ (M.row 0 rfl)).mono ?_
    rintro e w1 ⟨g3, cap3, hg, rfl, M'⟩
    have M9 := M.delRow (Nat.le_refl _) M' (hg.symm ▸ rfl)
    rw [slC_del _ _ HPM.out] at M9
    clear M; (try clear C)
    have M := M9
    clear M9 M'
    have C := M.ruleAll; simp only [Go.Proofs.Ytinjjaoikofkdaa.ruleAll] at C
    go_wp2_with (first | (refine wpList_build 29 _ rfl rfl [(0, .slice (some ⟨g, 0, none⟩) (ns.length - 1) cap), (1, .slice (some ⟨g3, 0, none⟩) (ls.length - 1) cap3)] rfl _ (build_bk2 ..) ?_) | ((with_reducible apply wpM_sta' M 2 29 (bkV (some ⟨g, 0, none⟩) cap (some ⟨g3, 0, none⟩) cap3 (ns.length - 1) (ls.length - 1))); rfl; rfl; rfl; rfl; (first | exact .inl (by assumption) | exact .inr rfl | exact .inr (by assumption)); exact ⟨rfl, inf_bok.trans (congrArg some (bkv_size ..).symm), flat_bkv _ _ _ _ _ _⟩; (simp only [entCells, List.getElem?_cons_zero, List.getElem?_cons_succ, bkv_size, bkv_size]); clear M; (try clear C); intro w9 M; simp only [List.set_cons_zero, List.set_cons_succ, entBlk, entT, List.getElem?_cons_zero, List.getElem?_cons_succ] at M; have C := M.ruleAll; simp only [Go.Proofs.Ytinjjaoikofkdaa.ruleAll] at C))
    refine bodyPost_ret (v := .tuple #[.agg (bkV (some ⟨g, 0, none⟩) cap (some ⟨g3, 0, none⟩) cap3 (ns.length - 1) (ls.length - 1)), .int .i64 0]) (by exact results_part2 rfl _ _ _ _ (bkV (some ⟨g, 0, none⟩) cap (some ⟨g3, 0, none⟩) cap3 (ns.length - 1) (ls.length - 1)) _ rfl und_bok rfl inf_bok (cells_of_blk0 (M.box 2 rfl)) _ rfl) rfl ?_
    unfold BkNew
    rw [HR1.out, HR2.out]
    have e1 : (ns.eraseIdx p).length = ns.length - 1 := by rw [List.length_eraseIdx_of_lt]; have := HPM.out; have := HMN.out; omega
    have e2 : (ls.eraseIdx p).length = ls.length - 1 := by rw [List.length_eraseIdx_of_lt]; exact HPM.out
    rw [e1, e2]
    exact ⟨some ⟨g, 0, none⟩, cap, some ⟨g3, 0, none⟩, cap3, rfl, (M.sub [1, 0] (by decide)).eq rfl⟩
end Go.Proofs.Ytinjjaoikofkdaa

