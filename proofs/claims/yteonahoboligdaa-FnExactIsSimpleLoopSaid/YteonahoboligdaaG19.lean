/- Sets that a predicate wants are deleted: slices.IndexFunc and slices.DeleteFunc, for predicates that make memory: contracts. -/
import Derived.Test.YteonahoboligdaaG9
import Derived.Test.YteonahoboligdaaG16
import Derived.Lib.SliceRun
import Derived.Test.YteonahoboligdaaK12
namespace Go.Proofs.Yteonahoboligdaa
set_option linter.unusedSimpArgs false
set_option linter.unusedVariables false
open Go Go.RowKit

/-! ### Many cells of a row are written -/
def setL : List Value → Nat → List Value → List Value
  | xs, _, [] => xs
  | xs, j, u :: us => setL (xs.set j u) (j + 1) us
theorem setL_take {m : Nat} : ∀ (us xs : List Value) (j : Nat), m ≤ j → (setL xs j us).take m = xs.take m
  | [], _, _, _ => rfl
  | u :: us, xs, j, h => by
    rw [setL, setL_take us _ _ (by omega)]
    refine List.ext_getElem? fun k => ?_
    rw [List.getElem?_take, List.getElem?_take]
    split
    · rw [List.getElem?_set_ne (by omega)]
    · rfl
section
variable {P : Program} {D : Nat → Prop} {w0 w : World} {L : List Ent} {ops : Array Oper} {rest : List Oper} {o : Oper} {a : Act} {Q : Exit → Act → World → Prop}
theorem Mm.rowsets {B g n cap e : Nat} (i : Nat) (hB : w0.heap.size ≤ B ∨ D g) : ∀ (us : List Value) (j : Nat) (xs : List Value) (w : World) (L : List Ent), Mm D w0 w L → L[i]? = some (.row B (.slice (some ⟨g, 0, none⟩) n cap) n xs e 1) →
    Mm D w0 (w.setCells g j us) (L.set i (.row B (.slice (some ⟨g, 0, none⟩) n cap) n (setL xs j us) e 1))
  | [], j, xs, w, L, M, hi => by
    have : L.set i (.row B (.slice (some ⟨g, 0, none⟩) n cap) n (setL xs j []) e 1) = L := by
      refine List.ext_getElem? fun k => ?_
      by_cases e : k = i
      · subst e
        have hlt := (List.getElem?_eq_some_iff.1 hi).1
        rw [List.getElem?_set_self hlt, hi]; rfl
      · rw [List.getElem?_set_ne (by omega)]
    rw [this]; exact M
  | u :: us, j, xs, w, L, M, hi => by
    have h := Mm.rowsets i hB us (j + 1) (xs.set j u) _ _ (M.rowset i hi hB j u) (List.getElem?_set_self (List.getElem?_eq_some_iff.1 hi).1)
    rw [List.set_set] at h
    exact h
/-- clear of the end of a row. -/
theorem wpM_clr (M : Mm D w0 w L) (i : Nat) {B g n cap e : Nat} {xs : List Value} (hi : L[i]? = some (.row B (.slice (some ⟨g, 0, none⟩) n cap) n xs e 1)) (hB : w0.heap.size ≤ B ∨ D g) (hgd : o.guard = none) (s : Operand) (t : TypeId) (ho : o.op = .call { callee := .builtin .clear, args := #[s], argTypes := #[t] })
    (z : Value) (ht : P.underlying t = some (.slice e)) (hz : ∀ w, (zeroValue e).run P w = .ok z w) (hzc : z.cells = #[z]) (h1 : z.oneCell' = true) (j m c : Nat) (hx : a.eval s = .slice (some ⟨g, j, none⟩) m c) (hm : 0 < m) (hj : j + m ≤ n)
    (h : ∀ w', Mm D w0 w' (L.set i (.row B (.slice (some ⟨g, 0, none⟩) n cap) n (setL xs j (List.replicate m z)) e 1)) → wpList P ops Q rest (a.put o.dst (.tuple #[])) w') : wpList P ops Q (o :: rest) a w := by
  refine wpList_plain hgd fun K hK => ?_
  have hown := M.row i hi
  have hlen : xs.length = n := by have := hown.1; omega
  have hr := fun ty => Lib.run_clear_slice (P := P) w t e ty z ht hz hzc h1 g j m c hm (fun k hk => by rw [World.ownsRow.cellAt hown (j + k) (by omega), List.getElem?_eq_getElem (by omega)]; rfl) (fun k hk => World.ownsRow.frozenAt hown (j + k))
  unfold Oper.wp execOp
  simp only [ho, resolve, invoke, builtin, Sem.run_bind, Sem.run_pure, Result.andThen_ok, List.map_toArray, List.map_cons, List.map_nil, hx, hr]
  exact hK _ _ (h _ (Mm.rowsets i hB _ j xs w L M hi))
end

/-! ### What is deleted -/
/-- The place of the first number with a property. -/
def IdxP (ms : List Nat) (p : Nat → Bool) (r : Int) : Prop := (r = -1 ∧ ∀ m ∈ ms, p m = false) ∨ ∃ i : Nat, r = i ∧ i < ms.length ∧ (∀ j x, j < i → ms[j]? = some x → p x = false) ∧ ∀ x, ms[i]? = some x → p x = true
def IdxPost (ms : List Nat) (p : Nat → Bool) (w : World) (e : Ending) (w' : World) : Prop := ∃ r : Int, e = .returned (.int .i64 r) ∧ IdxP ms p r ∧ Below w.heap.size w w'
theorem IdxPost.mk {ms : List Nat} {p : Nat → Bool} {w w' : World} {r : Int} (h : IdxP ms p r) (hb : Below w.heap.size w w') : IdxPost ms p w (.returned (.int .i64 r)) w' := ⟨r, rfl, h, hb⟩

set_option maxRecDepth 100000 in
set_option maxHeartbeats 1000000 in
theorem indexF_any (ms : List Nat) (hlen : ms.length ≤ 2000) (p : Nat → Bool) (f : Nat) (fa cp : Array Value) (w : World) (g cap : Nat) (hr : rds w g ms.length (i64F ms)) (hen : ∀ (args : Array Value) (w : World), (callFunc f args).run Try.prog w = .ok (.enter f args) w)
    (hp : ∀ m ∈ ms, ∀ w1, Below w.heap.size w w1 → Calls Try.prog f (fa.push (.int .i64 (m : Int)) ++ cp) w1 fun e w' => e = .returned (.bool (p m)) ∧ Below w1.heap.size w1 w') :
    Calls Try.prog 87 #[.slice (some ⟨g, 0, none⟩) ms.length cap, .func (.func f) fa cp] w (IdxPost ms p w) := by
  have M := (Mm.start no w).add (x := .rd g ms.length (i64F ms)) hr fun _ h => by cases h
  have HP := Hid2.mk hp
  clear hr hp
  have C := M.ruleAll; simp only [Go.Proofs.Yteonahoboligdaa.ruleAll] at C
  go_enter Try.func87, Try.ntmps87
  go_wp2
  go_loopw [8, 5] (fun i _ wr => ∃ k : Nat, k ≤ ms.length ∧ i = .int .i64 (k : Int) ∧ Hid2 (∀ j x, j < k → ms[j]? = some x → p x = false) ∧ Mm no w wr [.rd g ms.length (i64F ms)]) (fun i _ _ => ms.length - (intOf i).toNat)
  case atStart => exact ⟨0, by omega, rfl, ⟨fun j x h => by omega⟩, M⟩
  case round =>
    obtain ⟨k, hk, rfl, HA, M9⟩ := hrel
    clear M; (try clear C)
    have M := M9
    clear M9
    by_cases hlt : k < ms.length
    · have hlt' : (k : Int) < (ms.length : Int) := by omega
      have e1 := List.getElem?_eq_getElem hlt
      have hd1 := (M.rd 0 rfl).at_ k hlt
      rw [i64F_at e1] at hd1
      have HP1 := Hid2.mk (HP.out _ (List.getElem_mem hlt))
      have HE := Hid2.mk e1
      clear e1
      generalize ms[k] = m at *
      cases hv : p m with
      | true =>
        rw [hv] at HP1
        have HI := Hid2.mk (show IdxP ms p (k : Int) from .inr ⟨k, rfl, hlt, HA.out, fun x hx => by rw [HE.out] at hx; cases hx; exact hv⟩)
        clear hv
        go_wp2_with (first | ((with_reducible refine (HP1.out _ M.below).mono ?_); rintro e w1 ⟨rfl, hb⟩; have M9 := M.later hb; clear M; (try clear C); have M := M9; clear M9 hb hd1))
        go_ret
        exact IdxPost.mk HI.out M.below
      | false =>
        rw [hv] at HP1
        have HN := Hid2.mk (show ∀ j x, j < k + 1 → ms[j]? = some x → p x = false from fun j x hj hx => if e : j = k then by subst e; rw [HE.out] at hx; cases hx; exact hv else HA.out j x (by omega) hx)
        clear hv
        go_wp2_with (first | ((with_reducible refine (HP1.out _ M.below).mono ?_); rintro e w1 ⟨rfl, hb⟩; have M9 := M.later hb; clear M; (try clear C); have M := M9; clear M9 hb hd1))
        go_roundw
        case rel => exact ⟨k + 1, by omega, by go_num, HN, M⟩
        case measure => simp [intOf]; omega
    · obtain rfl : k = ms.length := by omega
      have hge : ¬ ((ms.length : Int) < (ms.length : Int)) := by omega
      have HI := Hid2.mk (show IdxP ms p (-1) from .inl ⟨rfl, fun m hm => by
        obtain ⟨j, hj⟩ := List.getElem?_of_mem hm
        exact HA.out j m (List.getElem?_eq_some_iff.1 hj).1 hj⟩)
      go_wp2
      go_ret
      exact IdxPost.mk HI.out M.below

/-! ### slices.DeleteFunc -/
/-- The numbers below j have been looked at, i of them are kept. -/
structure Dlt (ms : List Nat) (p : Nat → Bool) (i j : Nat) (xs : List Nat) : Prop where
  len : xs.length = ms.length
  le : i < j
  jl : j ≤ ms.length
  kept : xs.take i = (ms.take j).filter fun m => !p m
  rest : ∀ k, j ≤ k → xs[k]? = ms[k]?
theorem Dlt.start {ms : List Nat} {p : Nat → Bool} {i : Nat} (hi : i < ms.length) (h1 : ∀ j x, j < i → ms[j]? = some x → p x = false) (h2 : ∀ x, ms[i]? = some x → p x = true) : Dlt ms p i (i + 1) ms := by
  refine ⟨rfl, by omega, by omega, ?_, fun _ _ => rfl⟩
  have e1 := List.getElem?_eq_getElem hi
  rw [List.take_succ_eq_append_getElem hi, List.filter_append, List.filter_cons, h2 _ e1]
  simp only [Bool.not_true, Bool.false_eq_true, if_false, List.filter_nil, List.append_nil]
  refine (List.filter_eq_self.2 fun x hx => ?_).symm
  obtain ⟨j, hj⟩ := List.getElem?_of_mem hx
  rw [List.getElem?_take] at hj
  split at hj
  · rename_i hji
    rw [h1 j x hji hj]; rfl
  · cases hj
theorem Dlt.keep {ms xs : List Nat} {p : Nat → Bool} {i j x : Nat} (V : Dlt ms p i j xs) (hx : ms[j]? = some x) (hp : p x = false) : Dlt ms p (i + 1) (j + 1) (xs.set i x) := by
  have hj := (List.getElem?_eq_some_iff.1 hx)
  obtain ⟨hj, e⟩ := hj
  have hi : i < xs.length := by have := V.len; have := V.le; omega
  refine ⟨by rw [List.length_set]; exact V.len, by have := V.le; omega, by omega, ?_, fun k hk => ?_⟩
  · rw [List.take_succ_eq_append_getElem hj, List.filter_append, List.filter_cons, e, hp, ← V.kept]
    simp only [Bool.not_false, if_true, List.filter_nil]
    rw [List.take_succ_eq_append_getElem (by rw [List.length_set]; exact hi), List.getElem_set_self]
    congr 1
    refine List.ext_getElem? fun k => ?_
    rw [List.getElem?_take, List.getElem?_take]
    split
    · rw [List.getElem?_set_ne (by omega)]
    · rfl
  · have := V.le
    rw [List.getElem?_set_ne (by omega)]; exact V.rest k (by omega)
theorem Dlt.skip {ms xs : List Nat} {p : Nat → Bool} {i j x : Nat} (V : Dlt ms p i j xs) (hx : ms[j]? = some x) (hp : p x = true) : Dlt ms p i (j + 1) xs := by
  obtain ⟨hj, e⟩ := List.getElem?_eq_some_iff.1 hx
  refine ⟨V.len, by have := V.le; omega, by omega, ?_, fun k hk => V.rest k (by omega)⟩
  rw [List.take_succ_eq_append_getElem hj, List.filter_append, List.filter_cons, e, hp, ← V.kept]
  simp
theorem Dlt.done {ms xs : List Nat} {p : Nat → Bool} {i : Nat} (V : Dlt ms p i ms.length xs) : xs.take i = ms.filter fun m => !p m := by rw [V.kept, List.take_length]
theorem i64N_set (xs : List Nat) (i x : Nat) : (i64N xs).set i (.int .i64 (x : Int)) = i64N (xs.set i x) := by unfold i64N; rw [List.map_set]
theorem i64N_take (xs : List Nat) (i : Nat) : (i64N xs).take i = i64N (xs.take i) := by unfold i64N; rw [List.map_take]
theorem zero_set (w : World) : (zeroValue 73).run Try.prog w = .ok (.int .i64 0) w := by kernel_rfl
/-- What is left. -/
def DelPost (l : List Nat) (w0 : World) (B : Nat) (X : List Ent) (e : Ending) (w' : World) : Prop := ∃ v, e = .returned v ∧ Mm no w0 w' (.row B v l.length (i64N l) 73 1 :: X)
theorem DelPost.mk {l : List Nat} {w0 w' : World} {B : Nat} {X : List Ent} {v : Value} (h : Mm no w0 w' (.row B v l.length (i64N l) 73 1 :: X)) : DelPost l w0 B X (.returned v) w' := ⟨v, rfl, h⟩

set_option maxRecDepth 100000 in
set_option maxHeartbeats 2000000 in
theorem deleteF_any (ms : List Nat) (h0 : 0 < ms.length) (hlen : ms.length ≤ 2000) (p : Nat → Bool) (f : Nat) (fa cp : Array Value) (w0 w : World) (B bq : Nat) (n : Nat) (t : Nat → Nat → Nat) (v : Value) (hB : w0.heap.size ≤ B)
    (M0 : Mm no w0 w [.row B v ms.length (i64N ms) 73 1, .box bq (sqs (n : Int) t) 30]) (hen : ∀ (args : Array Value) (w : World), (callFunc f args).run Try.prog w = .ok (.enter f args) w)
    (hp : ∀ m ∈ ms, ∀ w1, Mm no w1 w1 [.box bq (sqs (n : Int) t) 30] → Calls Try.prog f (fa.push (.int .i64 (m : Int)) ++ cp) w1 fun e w' => e = .returned (.bool (p m)) ∧ Below w1.heap.size w1 w') :
    Calls Try.prog 67 #[v, .func (.func f) fa cp] w (DelPost (ms.filter fun m => !p m) w0 B [.box bq (sqs (n : Int) t) 30]) := by
  have M := M0
  obtain ⟨g, cap, rfl, hBg, -, hr⟩ := own_rds (M.row 0 rfl) (by omega)
  obtain ⟨hnc, hcm⟩ := own_cap (M.row 0 rfl)
  have hcm' : cap ≤ 9223372036854775807 := hcm
  rw [Nat.mul_one] at hr
  have hr2 : rds w g ms.length (i64F ms) := ⟨hr.lt, fun j hj => by rw [hr.at_ j hj, i64N_at hj]⟩
  have HI := Hid2.mk (indexF_any ms hlen p f fa cp w g cap hr2 hen (fun m hm w1 hb => hp m hm w1 ((M.sub [1] (by decide)).later hb).anew))
  have HP := Hid2.mk hp
  have HALL := Hid2.mk (show (∀ m ∈ ms, p m = false) → (ms.filter fun m => !p m) = ms from fun h => List.filter_eq_self.2 fun m hm => by rw [h m hm]; rfl)
  have HDN := Hid2.mk (fun i xs (V : Dlt ms p i ms.length xs) => V.done)
  generalize (ms.filter fun m => !p m) = res at *
  clear M0 hr hr2 hp
  have C := M.ruleAll; simp only [Go.Proofs.Yteonahoboligdaa.ruleAll] at C
  go_enter Try.func67, Try.ntmps67
  go_wp2_with (first | (go_at_call 87; fail))
  refine HI.out.mono ?_
  rintro e w1 ⟨r, rfl, hr, hb⟩
  have M9 := M.later hb
  clear M; (try clear C)
  have M := M9
  clear M9 hb HI
  rcases hr with ⟨rfl, hall⟩ | ⟨i, rfl, hi, h1, h2⟩
  · have HE := Hid2.mk (HALL.out hall)
    clear hall
    have hd : ((-1 : Int) == -1) = true := by decide
    have C := M.ruleAll; simp only [Go.Proofs.Yteonahoboligdaa.ruleAll] at C
    go_wp2
    go_ret
    exact DelPost.mk (M.eq (by rw [HE.out]; rfl))
  · have HV0 := Hid2.mk (Dlt.start hi h1 h2)
    have hne : ((i : Int) == -1) = false := beq_eq_false_iff_ne.2 (by omega)
    have hi2 : (i : Int) ≤ 2000 := by omega
    clear h1 h2
    have C := M.ruleAll; simp only [Go.Proofs.Yteonahoboligdaa.ruleAll] at C
    go_wp2
    go_loopw [5, 6, 7] (fun a b _ wr => ∃ (i j : Nat) (xs : List Nat), a = .int .i64 (i : Int) ∧ b = .int .i64 (j : Int) ∧ Hid2 (Dlt ms p i j xs) ∧ Mm no w0 wr [.row B (.slice (some ⟨g, 0, none⟩) ms.length cap) ms.length (i64N xs) 73 1, .box bq (sqs (n : Int) t) 30]) (fun _ b _ _ => ms.length - (intOf b).toNat)
    case atStart => exact ⟨i, i + 1, ms, rfl, by go_num, HV0, M⟩
    case round =>
      clear HV0 hi hne hi2
      obtain ⟨i, j, xs, rfl, rfl, HV, M9⟩ := hrel
      clear M; (try clear C)
      have M := M9
      clear M9
      have hij := HV.out.le
      have hjl := HV.out.jl
      by_cases hlt : j < ms.length
      · have hlt' : (j : Int) < (ms.length : Int) := by omega
        have e1 := List.getElem?_eq_getElem hlt
        have hx := HV.out.rest j (Nat.le_refl j)
        rw [e1] at hx
        have hd1 := World.ownsRow.cellAt (M.row 0 rfl) j (by omega)
        rw [i64N_get hx] at hd1
        have HP1 := Hid2.mk (HP.out _ (List.getElem_mem hlt))
        have HE := Hid2.mk e1
        clear e1 hx
        generalize ms[j] = m at *
        cases hv : p m with
        | true =>
          rw [hv] at HP1
          have HN := Hid2.mk (HV.out.skip HE.out hv)
          clear hv
          go_wp2_with (first | ((with_reducible refine (HP1.out _ (M.sub [1] (by decide)).anew).mono ?_); rintro e w1 ⟨rfl, hb⟩; have M9 := M.later hb; clear M; (try clear C); have M := M9; clear M9 hb hd1))
          go_roundw
          case rel => exact ⟨i, j + 1, xs, rfl, by go_num, HN, M⟩
          case measure => simp [intOf]; omega
        | false =>
          rw [hv] at HP1
          have HN := Hid2.mk (HV.out.keep HE.out hv)
          have HS := Hid2.mk (i64N_set xs i m)
          clear hv
          have hi3 : i < ms.length := by omega
          have hi3' : (i : Int) < (ms.length : Int) := by omega
          go_wp2_with (first | ((with_reducible refine (HP1.out _ (M.sub [1] (by decide)).anew).mono ?_); rintro e w1 ⟨rfl, hb⟩; have M9 := M.later hb; clear M; (try clear C); have M := M9; clear M9 hb hd1) | ((with_reducible apply wpM_rst' M 0 73 B g ms.length cap 73 (i64N xs) i (.int .i64 (m : Int))); rfl; rfl; rfl; rfl; exact ⟨rfl, rfl, by kernel_rfl⟩; exact .inl hB; exact hi3; (clear M; intro w9 M; simp only [List.set_cons_zero] at M; rw [HS.out] at M)))
          go_roundw
          case rel => exact ⟨i + 1, j + 1, xs.set i m, by go_num, by go_num, HN, M⟩
          case measure => simp [intOf]; omega
      · obtain rfl : j = ms.length := by omega
        have hge : ¬ ((ms.length : Int) < (ms.length : Int)) := by omega
        have HE := Hid2.mk (HDN.out i xs HV.out)
        have HT := Hid2.mk (setL_take (m := i) (List.replicate (ms.length - i) (.int .i64 0)) (i64N xs) i (Nat.le_refl i))
        have HL := Hid2.mk (show (xs.take i).length = i by rw [List.length_take, HV.out.len]; omega)
        have hic : i ≤ cap := by omega
        go_wp2_with (first | (refine wpM_clr M 0 (g := g) (n := ms.length) (cap := cap) (xs := i64N xs) rfl (.inl hB) rfl _ _ rfl (.int .i64 0) und_slst zero_set rfl rfl i (ms.length - i) (cap - i) rfl (by omega) (by omega) ?_; (clear M; intro w9 M; simp only [List.set_cons_zero] at M)))
        have M9 := M.cutRow 0 rfl (m := i) (by omega)
        simp only [List.set_cons_zero] at M9
        clear M; (try clear C)
        go_ret
        exact DelPost.mk (M9.eq (by rw [← HE.out, HL.out, HT.out, i64N_take]; rfl))
end Go.Proofs.Yteonahoboligdaa
