/- The reader of terms, for the reference, whole; contracts. -/
import Derived.Test.YtpmemoabkbmljaaDoorC85
namespace Go.Proofs.YtpmemoabkbmljaaDoor
set_option linter.unusedSimpArgs false
set_option linter.unusedVariables false
open Go Go.RowKit

set_option maxRecDepth 100000 in
set_option maxHeartbeats 2000000 in
theorem op_leaf (l : List Nat) (hl : l.length ≤ 1000) (hb : Byts l) (k : Nat) (hk : k < l.length) (hlf : isLeafB (l.getD k 0) = true) (w : World) :
    Calls Tryd.prog 80 #[.string (str l), .int .i64 (k : Int)] w (SdPost k (some ([l.getD k 0], k + 1)) w) := by
  have M := Mm.start no w
  have hsz := str_size l
  have h1 : ¬ ((l.length : Int) ≤ (k : Int)) := by omega
  have hix := ix_str hb k hk
  have hw : wrap64 ((k : Int) + 1) = (k : Int) + 1 := wrap_small _ (by omega) (by omega)
  have hcs := leaf_cases hlf
  clear hb hlf
  generalize l.getD k 0 = b at hix hcs ⊢
  generalize str l = s at *
  rcases hcs with rfl | rfl | rfl | rfl
  · go_enter Tryd.func80, Tryd.ntmps80
    go_wp2_with (first | ((with_reducible apply wpM_bsl' M 47 1 5 ([(0, .int .u8 (120 : Int))]) (#[.int .u8 (120 : Int)])); rfl; rfl; rfl; exact bsl_u81 _; clear M; (try clear C); intro b7 w9 h_b7 M; have C := M.ruleAll; simp only [Go.Proofs.YtpmemoabkbmljaaDoor.ruleAll] at C))
    go_ret3
    exact ⟨_, rfl, M.asRow 0 rfl w.heap.size 1 1 (by assumption) rfl (by decide)⟩
  · go_enter Tryd.func80, Tryd.ntmps80
    go_wp2_with (first | ((with_reducible apply wpM_bsl' M 47 1 5 ([(0, .int .u8 (121 : Int))]) (#[.int .u8 (121 : Int)])); rfl; rfl; rfl; exact bsl_u81 _; clear M; (try clear C); intro b7 w9 h_b7 M; have C := M.ruleAll; simp only [Go.Proofs.YtpmemoabkbmljaaDoor.ruleAll] at C))
    go_ret3
    exact ⟨_, rfl, M.asRow 0 rfl w.heap.size 1 1 (by assumption) rfl (by decide)⟩
  · go_enter Tryd.func80, Tryd.ntmps80
    go_wp2_with (first | ((with_reducible apply wpM_bsl' M 47 1 5 ([(0, .int .u8 (122 : Int))]) (#[.int .u8 (122 : Int)])); rfl; rfl; rfl; exact bsl_u81 _; clear M; (try clear C); intro b7 w9 h_b7 M; have C := M.ruleAll; simp only [Go.Proofs.YtpmemoabkbmljaaDoor.ruleAll] at C))
    go_ret3
    exact ⟨_, rfl, M.asRow 0 rfl w.heap.size 1 1 (by assumption) rfl (by decide)⟩
  · go_enter Tryd.func80, Tryd.ntmps80
    go_wp2_with (first | ((with_reducible apply wpM_bsl' M 47 1 5 ([(0, .int .u8 (101 : Int))]) (#[.int .u8 (101 : Int)])); rfl; rfl; rfl; exact bsl_u81 _; clear M; (try clear C); intro b7 w9 h_b7 M; have C := M.ruleAll; simp only [Go.Proofs.YtpmemoabkbmljaaDoor.ruleAll] at C))
    go_ret3
    exact ⟨_, rfl, M.asRow 0 rfl w.heap.size 1 1 (by assumption) rfl (by decide)⟩

set_option maxRecDepth 100000 in
set_option maxHeartbeats 2000000 in
theorem op_no (l : List Nat) (hl : l.length ≤ 1000) (hb : Byts l) (k : Nat) (hk : k ≤ l.length) (hlf : isLeafB (l.getD k 0) = false) (h40 : l.getD k 0 ≠ 40) (w : World) :
    Calls Tryd.prog 80 #[.string (str l), .int .i64 (k : Int)] w (SdPost k none w) := by
  have M := Mm.start no w
  have hsz := str_size l
  by_cases hlt : k < l.length
  · have h1 : ¬ ((l.length : Int) ≤ (k : Int)) := by omega
    have hix := ix_str hb k hlt
    obtain ⟨n1, n2, n3, n4⟩ := leaf_none hlf
    have e1 : ((l.getD k 0 : Nat) : Int) ≠ 120 := by omega
    have e2 : ((l.getD k 0 : Nat) : Int) ≠ 121 := by omega
    have e3 : ((l.getD k 0 : Nat) : Int) ≠ 122 := by omega
    have e4 : ((l.getD k 0 : Nat) : Int) ≠ 101 := by omega
    have e5 : ((l.getD k 0 : Nat) : Int) ≠ 40 := by omega
    have f1 : (((l.getD k 0 : Nat) : Int) == 120) = false := neI n1
    have f2 : (((l.getD k 0 : Nat) : Int) == 121) = false := neI n2
    have f3 : (((l.getD k 0 : Nat) : Int) == 122) = false := neI n3
    have f4 : (((l.getD k 0 : Nat) : Int) == 101) = false := neI n4
    have f5 : (((l.getD k 0 : Nat) : Int) == 40) = false := neI h40
    clear hb hlf n1 n2 n3 n4 h40
    generalize l.getD k 0 = b at *
    generalize str l = s at *
    go_enter Tryd.func80, Tryd.ntmps80
    go_wp2
    go_ret3
    exact ⟨rfl, M.below⟩
  · have h1 : (l.length : Int) ≤ (k : Int) := by omega
    clear hb hlf h40
    generalize str l = s at *
    go_enter Tryd.func80, Tryd.ntmps80
    go_wp2
    go_ret3
    exact ⟨rfl, M.below⟩

set_option maxRecDepth 100000 in
set_option maxHeartbeats 4000000 in
theorem op_par (l : List Nat) (hl : l.length ≤ 1000) (hb : Byts l) (k : Nat) (hk : k < l.length) (h40 : l.getD k 0 = 40) (o : Option (List Nat × Nat)) (ho : SdB l (k + 1) o) (hS : ∀ w, Calls Tryd.prog 61 #[.string (str l), .int .i64 ((k + 1 : Nat) : Int)] w (SdPost (k + 1) o w)) (w : World) :
    Calls Tryd.prog 80 #[.string (str l), .int .i64 (k : Int)] w (SdPost k (match o with | none => none | some (t, k2) => if t.length = 1 ∨ l.getD k2 0 ≠ 41 then none else some (t, k2 + 1)) w) := by
  have M := Mm.start no w
  have hsz := str_size l
  have h1 : ¬ ((l.length : Int) ≤ (k : Int)) := by omega
  have hix : ∀ w : World, (Instr.index 9 (.string (str l)) (.int .i64 (k : Int))).run Tryd.prog w = .ok (.int .u8 40) w := fun w => by have := ix_str hb k hk w; rw [h40] at this; exact this
  have HS := Hid2.mk (show ∀ w, Calls Tryd.prog 61 #[.string (str l), .int .i64 ((k : Int) + 1)] w (SdPost (k + 1) o w) from fun w => by have := hS w; rwa [show ((k + 1 : Nat) : Int) = (k : Int) + 1 by omega] at this)
  rcases o with _ | ⟨t, k2⟩
  · clear hb hS ho h40
    generalize str l = s at *
    go_enter Tryd.func80, Tryd.ntmps80
    go_wp2_with (first | (go_at_call 61; fail))
    refine (HS.out _).mono ?_
    rintro e w1 ⟨rfl, hb⟩
    have M9 := M.later hb
    clear M; (try clear C)
    have M := M9
    clear M9 hb
    go_wp2
    go_ret3
    exact ⟨rfl, M.below⟩
  · obtain ⟨b1, b2, b3⟩ := ho t k2 rfl
    generalize hq : (if t.length = 1 ∨ l.getD k2 0 ≠ 41 then none else some (t, k2 + 1)) = res
    show Calls _ _ _ _ (SdPost k (if t.length = 1 ∨ l.getD k2 0 ≠ 41 then none else some (t, k2 + 1)) w)
    rw [hq]
    have HR := Hid2.mk hq
    have HI2 := Hid2.mk (fun h => ix_str hb k2 h)
    clear hb hS ho h40 hq
    go_enter Tryd.func80, Tryd.ntmps80
    go_wp2_with (first | (go_at_call 61; fail))
    refine (HS.out _).mono ?_
    rintro e w1 ⟨v, rfl, M'⟩
    have M9 := M.joinRow M'
    obtain ⟨pp1, cap1, rfl⟩ := own_form (M9.row 0 rfl)
    clear M; (try clear C)
    have M := M9
    clear M9 M' HS hix
    by_cases ht : t.length = 1
    · have hr := HR.out
      rw [if_pos (.inl ht)] at hr
      subst hr
      have e1 : ((t.length : Int) == 1) = true := by rw [ht]; rfl
      rw [ht]
      clear HR
      go_wp2
      go_ret3
      exact ⟨rfl, M.below⟩
    · have e1 : ((t.length : Int) == 1) = false := by simp; omega
      have e2 : (t.length : Int) ≠ 1 := by omega
      by_cases hlt : k2 < l.length
      · have h2 : ¬ ((l.length : Int) ≤ (k2 : Int)) := by omega
        have hix := HI2.out hlt
        by_cases hc : l.getD k2 0 = 41
        · have hr := HR.out
          rw [if_neg (by rintro (h | h); exact ht h; exact h hc)] at hr
          subst hr
          rw [hc] at hix
          clear HR HI2 hc ht
          go_wp2
          go_ret3
          exact ⟨_, rfl, M⟩
        · have hr := HR.out
          rw [if_pos (.inr hc)] at hr
          subst hr
          have e3 : ((l.getD k2 0 : Nat) : Int) ≠ 41 := by omega
          have e4 : (((l.getD k2 0 : Nat) : Int) == 41) = false := neI hc
          have e5 : (((l.getD k2 0 : Nat) : Int) != 41) = true := by rw [bne, e4]; rfl
          generalize l.getD k2 0 = b at *
          clear HR HI2 hc ht
          go_wp2
          go_ret3
          exact ⟨rfl, M.below⟩
      · have h2 : (l.length : Int) ≤ (k2 : Int) := by omega
        have hr := HR.out
        rw [if_pos (.inr (by rw [List.getD_eq_getElem?_getD, List.getElem?_eq_none (by omega)]; decide))] at hr
        subst hr
        clear HR HI2 ht
        go_wp2
        go_ret3
        exact ⟨rfl, M.below⟩

theorem op_any (l : List Nat) (hl : l.length ≤ 1000) (hb : Byts l) : ∀ n, Sdr 80 l n (opK l n)
  | 0 => fun k w hk hn => by
    unfold opK
    split
    · rename_i h; exact op_leaf l hl hb k (leafB_lt h) h w
    · rename_i h
      refine op_no l hl hb k hk (by simpa using h) (fun e => ?_) w
      have := getD_lt (l := l) (k := k) (by omega)
      omega
  | n + 1 => fun k w hk hn => by
    unfold opK
    split
    · rename_i h; exact op_leaf l hl hb k (leafB_lt h) h w
    · rename_i h
      split
      · rename_i h40
        have hlt := getD_lt (l := l) (k := k) (by omega)
        exact op_par l hl hb k hlt h40 _ (sideOf_b (opK_b l n) (k + 1)) (fun w1 => side_of l hl hb n _ (op_any l hl hb n) (opK_b l n) (k + 1) w1 (by omega) (by omega)) w
      · rename_i h40
        exact op_no l hl hb k hk (by simpa using h) h40 w
theorem side_any (l : List Nat) (hl : l.length ≤ 1000) (hb : Byts l) (k : Nat) (hk : k ≤ l.length) (w : World) : Calls Tryd.prog 61 #[.string (str l), .int .i64 (k : Int)] w (SdPost k (sideOf l (opK l l.length) k) w) :=
  side_of l hl hb l.length _ (op_any l hl hb l.length) (opK_b l l.length) k w hk (by omega)
end Go.Proofs.YtpmemoabkbmljaaDoor

/- Texts of identities as plain lists: what is written is read. -/
namespace Go.Proofs.YtpmemoabkbmljaaDoor
set_option linter.unusedSimpArgs false
set_option linter.unusedVariables false
open Go Go.RowKit

/-- Terms as trees. -/
inductive Tr where
  | lf (b : Nat)
  | op (b : Nat) (x y : Tr)
def Tr.post : Tr → List Nat
  | .lf b => [b]
  | .op b x y => x.post ++ y.post ++ [b]
def Tr.txt : Tr → List Nat
  | .lf b => [b]
  | .op b x y => parT x.txt ++ [b] ++ parT y.txt
def Tr.ok : Tr → Prop
  | .lf b => isLeafB b = true
  | .op b x y => isOpB b = true ∧ x.ok ∧ y.ok
theorem Tr.txt_pos : ∀ T : Tr, 1 ≤ T.txt.length
  | .lf _ => Nat.le_refl _
  | .op _ _ _ => by simp only [Tr.txt, List.length_append, List.length_singleton]; omega
theorem Tr.post_pos : ∀ T : Tr, 1 ≤ T.post.length
  | .lf _ => Nat.le_refl _
  | .op _ _ _ => by simp only [Tr.post, List.length_append, List.length_singleton]; omega
theorem Tr.op_txt (b : Nat) (x y : Tr) : parT (Tr.op b x y).txt = 40 :: ((Tr.op b x y).txt ++ [41]) := by
  refine if_pos ?_
  have h1 := x.txt_pos
  have h2 := y.txt_pos
  have h3 := parT_len x.txt
  simp only [Tr.txt, List.length_append, List.length_singleton]; omega
theorem Tr.lf_txt (b : Nat) : parT (Tr.lf b).txt = [b] := rfl
/-- How long a text is. -/
theorem Tr.par_le : ∀ T : Tr, (parT T.txt).length + 1 ≤ 2 * T.post.length
  | .lf b => Nat.le_refl 2
  | .op b x y => by
    have h1 := x.par_le
    have h2 := y.par_le
    rw [Tr.op_txt]
    simp only [Tr.txt, Tr.post, List.length_cons, List.length_append, List.length_nil]
    omega
/-! ### Each term is a tree -/
def TrSt (f : Nat → Nat) (k : Nat) (ts : List Tr) : Prop := (∀ T ∈ ts, T.ok) ∧ txTo f k = ts.map Tr.txt ∧ (ts.reverse.map Tr.post).flatten = (List.range k).map f
theorem trees {f : Nat → Nat} : ∀ {k v : Nat}, tmTo f k = some v → ∃ ts, ts.length = v ∧ TrSt f k ts
  | 0, v, h => by cases h; exact ⟨[], rfl, (fun _ h => by cases h), rfl, rfl⟩
  | k + 1, v, h => by
    rw [tmTo] at h
    split at h
    · rename_i u hu
      obtain ⟨ts, hl, h1, h2, h3⟩ := trees hu
      simp only [tmStep] at h
      split at h
      · rename_i hlf
        cases h
        refine ⟨.lf (f k) :: ts, by simp [hl], fun T hT => ?_, ?_, ?_⟩
        · rcases List.mem_cons.1 hT with rfl | hT
          · exact hlf
          · exact h1 T hT
        · rw [txTo_succ, txStep_leaf hlf, h2]; rfl
        · rw [List.reverse_cons, List.map_append, List.flatten_append, h3, List.range_succ, List.map_append]; rfl
      · rename_i hlf
        split at h
        · rename_i ho
          cases h
          rcases ts with _ | ⟨c, _ | ⟨a, r⟩⟩
          · simp at hl; omega
          · simp at hl; omega
          · refine ⟨.op (f k) a c :: r, by simp at hl ⊢; omega, fun T hT => ?_, ?_, ?_⟩
            · rcases List.mem_cons.1 hT with rfl | hT
              · exact ⟨ho.1, h1 a (by simp), h1 c (by simp)⟩
              · exact h1 T (by simp [hT])
            · rw [txTo_succ, h2, List.map_cons, List.map_cons, txStep_op (by simpa using hlf)]; rfl
            · simp only [List.reverse_cons, List.map_append, List.flatten_append, List.map_cons, List.map_nil, List.flatten_cons, List.flatten_nil, List.append_nil, List.append_assoc] at h3 ⊢
              rw [List.range_succ, List.map_append, ← h3]
              simp [Tr.post]
        · cases h
    · cases h
theorem elB_map (xs : List Nat) : (List.range xs.length).map (elB xs) = xs := by
  apply List.ext_getElem
  · simp
  · intro i h1 h2
    rw [List.getElem_map, List.getElem_range]
    unfold elB
    rw [List.getD_eq_getElem?_getD, List.getElem?_eq_getElem h2]; rfl
theorem tree_of {xs : List Nat} (h : isTm (elB xs) xs.length = true) : ∃ T : Tr, T.ok ∧ T.post = xs ∧ txB (elB xs) xs.length = T.txt := by
  obtain ⟨ts, hl, h1, h2, h3⟩ := trees (isTm_iff.1 h).1
  obtain ⟨T, rfl⟩ := List.length_eq_one_iff.1 hl
  refine ⟨T, h1 T (by simp), ?_, ?_⟩
  · rw [elB_map] at h3
    simpa using h3
  · unfold txB; rw [h2]; rfl

/-! ### What is written is read -/
theorem getD_pre (pre : List Nat) (c : Nat) (rest : List Nat) : (pre ++ c :: rest).getD pre.length 0 = c := by
  rw [List.getD_eq_getElem?_getD, List.getElem?_append_right (Nat.le_refl _), Nat.sub_self]; rfl
theorem getD_head (pre rest : List Nat) : (pre ++ rest).getD pre.length 0 = rest.headD 0 := by
  rw [List.getD_eq_getElem?_getD, List.getElem?_append_right (Nat.le_refl _), Nat.sub_self]
  cases rest <;> rfl
theorem leaf_not {b : Nat} (h : isLeafB b = true) : b ≠ 40 ∧ isOpB b = false := by
  rcases leaf_cases h with rfl | rfl | rfl | rfl <;> exact ⟨by decide, rfl⟩
theorem op_not {b : Nat} (h : isOpB b = true) : b ≠ 0 := by
  rcases op_cases h with rfl | rfl | rfl <;> decide
theorem partK_leaf {l : List Nat} {k : Nat} (h : l.getD k 0 ≠ 40) : ∀ n, partK l n k = ([l.getD k 0], nxK l k)
  | 0 => rfl
  | n + 1 => by rw [partK, if_neg h]

theorem termOf_two {l : List Nat} {p : Nat → List Nat × Nat} {k : Nat} {a b : List Nat} {k1 k2 c : Nat} (h1 : p k = (a, k1)) (h2 : p (k1 + 1) = (b, k2)) (hc : l.getD k1 0 = c) (ho : isOpB c = true) : termOf l p k = (a ++ b ++ [c], k2) := by
  unfold termOf
  rw [h1]
  simp only
  rw [h2, hc]
  refine if_neg ?_
  rintro (h | h)
  · have := opB_lt (l := l) (k := k1) (by rw [hc]; exact ho)
    omega
  · rw [ho] at h; cases h
theorem termOf_one {l : List Nat} {p : Nat → List Nat × Nat} {k : Nat} {a : List Nat} {k1 : Nat} (h1 : p k = (a, k1)) (ho : isOpB (l.getD k1 0) = false) : termOf l p k = (a, k1) := by
  unfold termOf
  rw [h1]
  exact if_pos (.inr ho)

def PartRd (T : Tr) : Prop := ∀ n pre rest, (parT T.txt).length ≤ n → partK (pre ++ (parT T.txt ++ rest)) n pre.length = (T.post, pre.length + (parT T.txt).length)
def TermRd (T : Tr) : Prop := ∀ n pre rest, T.txt.length ≤ n → isOpB (rest.headD 0) = false → termOf (pre ++ (T.txt ++ rest)) (partK (pre ++ (T.txt ++ rest)) n) pre.length = (T.post, pre.length + T.txt.length)
theorem partRd_lf {b : Nat} (h : isLeafB b = true) : PartRd (.lf b) := fun n pre rest hn => by
  rw [Tr.lf_txt]
  have hg : (pre ++ ([b] ++ rest)).getD pre.length 0 = b := getD_pre pre b rest
  rw [partK_leaf (by rw [hg]; exact (leaf_not h).1) n, hg]
  simp only [Tr.post, nxK, List.length_append, List.length_singleton]
  rw [if_pos (by omega)]
theorem termRd_lf {b : Nat} (h : isLeafB b = true) : TermRd (.lf b) := fun n pre rest hn hr => by
  have h1 := partRd_lf h n pre rest hn
  rw [Tr.lf_txt] at h1
  refine termOf_one (by exact h1) ?_
  have : (pre ++ ((Tr.lf b).txt ++ rest)).getD (pre.length + (Tr.lf b).txt.length) 0 = rest.headD 0 := by
    have := getD_head (pre ++ [b]) rest
    rw [List.append_assoc, List.length_append] at this
    exact this
  rw [this]; exact hr
theorem termRd_op {b : Nat} {x y : Tr} (hb : isOpB b = true) (hx : PartRd x) (hy : PartRd y) : TermRd (.op b x y) := fun n pre rest hn hr => by
  have hlen : (Tr.op b x y).txt.length = (parT x.txt).length + 1 + (parT y.txt).length := by simp only [Tr.txt, List.length_append, List.length_singleton]
  have e1 : pre ++ ((Tr.op b x y).txt ++ rest) = pre ++ (parT x.txt ++ (b :: (parT y.txt ++ rest))) := by simp [Tr.txt]
  have e2 : pre ++ ((Tr.op b x y).txt ++ rest) = (pre ++ parT x.txt ++ [b]) ++ (parT y.txt ++ rest) := by simp [Tr.txt]
  have h1 := hx n pre (b :: (parT y.txt ++ rest)) (by omega)
  have h2 := hy n (pre ++ parT x.txt ++ [b]) rest (by omega)
  rw [← e1] at h1
  rw [← e2] at h2
  have hc : (pre ++ ((Tr.op b x y).txt ++ rest)).getD (pre.length + (parT x.txt).length) 0 = b := by
    have := getD_pre (pre ++ parT x.txt) b (parT y.txt ++ rest)
    rw [List.length_append] at this
    rw [e1, ← List.append_assoc]; exact this
  have h2' : partK (pre ++ ((Tr.op b x y).txt ++ rest)) n (pre.length + (parT x.txt).length + 1) = (y.post, pre.length + (Tr.op b x y).txt.length) := by
    have e3 : (pre ++ parT x.txt ++ [b]).length = pre.length + (parT x.txt).length + 1 := by simp only [List.length_append, List.length_singleton]
    rw [e3] at h2
    rw [h2, hlen]
    congr 1
    omega
  exact termOf_two h1 h2' hc hb
theorem partRd_op {b : Nat} {x y : Tr} (hT : TermRd (.op b x y)) : PartRd (.op b x y) := fun n pre rest hn => by
  rw [Tr.op_txt] at hn ⊢
  simp only [List.length_cons, List.length_append, List.length_nil] at hn ⊢
  obtain ⟨m, rfl⟩ : ∃ m, n = m + 1 := ⟨n - 1, by omega⟩
  have e1 : pre ++ (40 :: ((Tr.op b x y).txt ++ [41]) ++ rest) = (pre ++ [40]) ++ ((Tr.op b x y).txt ++ (41 :: rest)) := by simp
  have h1 := hT m (pre ++ [40]) (41 :: rest) (by omega) rfl
  rw [← e1] at h1
  have hg : (pre ++ (40 :: ((Tr.op b x y).txt ++ [41]) ++ rest)).getD pre.length 0 = 40 := getD_pre pre 40 _
  have e3 : (pre ++ [40]).length = pre.length + 1 := by simp
  rw [e3] at h1
  have hc : (pre ++ (40 :: ((Tr.op b x y).txt ++ [41]) ++ rest)).getD (pre.length + 1 + (Tr.op b x y).txt.length) 0 = 41 := by
    have := getD_pre (pre ++ [40] ++ (Tr.op b x y).txt) 41 rest
    rw [List.length_append, e3] at this
    rw [e1, ← List.append_assoc]; exact this
  rw [partK, if_pos hg, h1]
  simp only
  rw [if_pos hc]
  congr 1
  unfold nxK
  rw [if_pos (getD_lt (by rw [hc]; decide))]
  omega
theorem Tr.rd : ∀ T : Tr, T.ok → PartRd T ∧ TermRd T
  | .lf b, h => ⟨partRd_lf h, termRd_lf h⟩
  | .op b x y, h => by
    have hT := termRd_op h.1 (x.rd h.2.1).1 (y.rd h.2.2).1
    exact ⟨partRd_op hT, hT⟩

/-! ### The same for the reference -/
def OpRd (T : Tr) : Prop := ∀ n pre rest, (parT T.txt).length ≤ n → opK (pre ++ (parT T.txt ++ rest)) n pre.length = some (T.post, pre.length + (parT T.txt).length)
def SideRd (T : Tr) : Prop := ∀ n pre rest, T.txt.length ≤ n → isOpB (rest.headD 0) = false → sideOf (pre ++ (T.txt ++ rest)) (opK (pre ++ (T.txt ++ rest)) n) pre.length = some (T.post, pre.length + T.txt.length)
theorem opK_leaf {l : List Nat} {k : Nat} (h : isLeafB (l.getD k 0) = true) : ∀ n, opK l n k = some ([l.getD k 0], k + 1)
  | 0 => by rw [opK, if_pos h]
  | n + 1 => by rw [opK, if_pos h]
theorem opRd_lf {b : Nat} (h : isLeafB b = true) : OpRd (.lf b) := fun n pre rest hn => by
  rw [Tr.lf_txt]
  have hg : (pre ++ ([b] ++ rest)).getD pre.length 0 = b := getD_pre pre b rest
  rw [opK_leaf (by rw [hg]; exact h) n, hg]
  rfl
theorem sideRd_lf {b : Nat} (h : isLeafB b = true) : SideRd (.lf b) := fun n pre rest hn hr => by
  have h1 := opRd_lf h n pre rest hn
  rw [Tr.lf_txt] at h1
  have hg : (pre ++ ([b] ++ rest)).getD (pre.length + [b].length) 0 = rest.headD 0 := by
    have := getD_head (pre ++ [b]) rest
    rw [List.append_assoc, List.length_append] at this
    exact this
  show sideOf (pre ++ ([b] ++ rest)) (opK (pre ++ ([b] ++ rest)) n) pre.length = _
  unfold sideOf
  rw [h1]
  simp only
  rw [if_pos (by rw [hg]; exact hr)]
  rfl
theorem sideRd_op {b : Nat} {x y : Tr} (hb : isOpB b = true) (hx : OpRd x) (hy : OpRd y) : SideRd (.op b x y) := fun n pre rest hn hr => by
  have hlen : (Tr.op b x y).txt.length = (parT x.txt).length + 1 + (parT y.txt).length := by simp only [Tr.txt, List.length_append, List.length_singleton]
  have e1 : pre ++ ((Tr.op b x y).txt ++ rest) = pre ++ (parT x.txt ++ (b :: (parT y.txt ++ rest))) := by simp [Tr.txt]
  have e2 : pre ++ ((Tr.op b x y).txt ++ rest) = (pre ++ parT x.txt ++ [b]) ++ (parT y.txt ++ rest) := by simp [Tr.txt]
  have h1 := hx n pre (b :: (parT y.txt ++ rest)) (by omega)
  have h2 := hy n (pre ++ parT x.txt ++ [b]) rest (by omega)
  rw [← e1] at h1
  rw [← e2] at h2
  have hc : (pre ++ ((Tr.op b x y).txt ++ rest)).getD (pre.length + (parT x.txt).length) 0 = b := by
    have := getD_pre (pre ++ parT x.txt) b (parT y.txt ++ rest)
    rw [List.length_append] at this
    rw [e1, ← List.append_assoc]; exact this
  have e3 : (pre ++ parT x.txt ++ [b]).length = pre.length + (parT x.txt).length + 1 := by simp only [List.length_append, List.length_singleton]
  rw [e3] at h2
  unfold sideOf
  rw [h1]
  simp only
  rw [hc, if_neg (by rw [hb]; exact Bool.noConfusion), h2]
  simp only
  rw [hlen]
  congr 2
  omega
theorem opRd_op {b : Nat} {x y : Tr} (hT : SideRd (.op b x y)) : OpRd (.op b x y) := fun n pre rest hn => by
  rw [Tr.op_txt] at hn ⊢
  simp only [List.length_cons, List.length_append, List.length_nil] at hn ⊢
  obtain ⟨m, rfl⟩ : ∃ m, n = m + 1 := ⟨n - 1, by omega⟩
  have e1 : pre ++ (40 :: ((Tr.op b x y).txt ++ [41]) ++ rest) = (pre ++ [40]) ++ ((Tr.op b x y).txt ++ (41 :: rest)) := by simp
  have h1 := hT m (pre ++ [40]) (41 :: rest) (by omega) rfl
  rw [← e1] at h1
  have hg : (pre ++ (40 :: ((Tr.op b x y).txt ++ [41]) ++ rest)).getD pre.length 0 = 40 := getD_pre pre 40 _
  have e3 : (pre ++ [40]).length = pre.length + 1 := by simp
  rw [e3] at h1
  have hc : (pre ++ (40 :: ((Tr.op b x y).txt ++ [41]) ++ rest)).getD (pre.length + 1 + (Tr.op b x y).txt.length) 0 = 41 := by
    have := getD_pre (pre ++ [40] ++ (Tr.op b x y).txt) 41 rest
    rw [List.length_append, e3] at this
    rw [e1, ← List.append_assoc]; exact this
  rw [opK, if_neg (by rw [hg]; decide), if_pos hg, h1]
  simp only
  have hp : (Tr.op b x y).post.length ≠ 1 := by
    have := x.post_pos
    have := y.post_pos
    simp only [Tr.post, List.length_append, List.length_singleton]; omega
  rw [if_neg (by rintro (h | h); exact hp h; exact h hc)]
  congr 2
  omega
theorem Tr.sd : ∀ T : Tr, T.ok → OpRd T ∧ SideRd T
  | .lf b, h => ⟨opRd_lf h, sideRd_lf h⟩
  | .op b x y, h => by
    have hT := sideRd_op h.1 (x.sd h.2.1).1 (y.sd h.2.2).1
    exact ⟨opRd_op hT, hT⟩

/-! ### Identities -/
/-- What the program reads. -/
def rdI (l : List Nat) : Option (List Nat × List Nat) :=
  if 240 < l.length then none else
  let a := termOf l (partK l l.length) 0
  if l.getD a.2 0 ≠ 61 then none else
  let b := termOf l (partK l l.length) (a.2 + 1)
  if isId a.1 b.1 = true ∧ idT a.1 b.1 = l then some (a.1, b.1) else none
/-- What the reference reads. -/
def rdS (l : List Nat) : Option (List Nat × List Nat) :=
  if 320 < l.length then none else
  match sideOf l (opK l l.length) 0 with
  | none => none
  | some (a, k1) => if l.getD k1 0 ≠ 61 then none else
    match sideOf l (opK l l.length) (k1 + 1) with
    | none => none
    | some (b, k2) => if k2 = l.length ∧ isId a b = true ∧ idT a b = l then some (a, b) else none
theorem isId_iff {xs ys : List Nat} : isId xs ys = true ↔ isTm (elB xs) xs.length = true ∧ isTm (elB ys) ys.length = true := by
  unfold isId; rw [Bool.and_eq_true]
theorem par_ge (s : List Nat) : s.length ≤ (parT s).length := (parT_len s).2
theorem rdI_iff {l : List Nat} {xs ys : List Nat} : rdI l = some (xs, ys) ↔ isId xs ys = true ∧ idT xs ys = l := by
  constructor
  · intro h
    unfold rdI at h
    split at h
    · cases h
    · simp only at h
      split at h
      · cases h
      · split at h
        · rename_i hc
          cases h
          exact hc
        · cases h
  · rintro ⟨h1, rfl⟩
    obtain ⟨hx, hy⟩ := isId_iff.1 h1
    obtain ⟨X, okX, hX, tX⟩ := tree_of hx
    obtain ⟨Y, okY, hY, tY⟩ := tree_of hy
    have hl : idT xs ys = X.txt ++ [61] ++ Y.txt := by unfold idT; rw [tX, tY]
    have bx : xs.length ≤ 40 := (isTm_iff.1 hx).2
    have by' : ys.length ≤ 40 := (isTm_iff.1 hy).2
    have lx := X.par_le
    have ly := Y.par_le
    rw [hX] at lx
    rw [hY] at ly
    have gx := par_ge X.txt
    have gy := par_ge Y.txt
    have hlen : (idT xs ys).length = X.txt.length + 1 + Y.txt.length := by rw [hl]; simp only [List.length_append, List.length_singleton]
    have e0 : idT xs ys = [] ++ (X.txt ++ (61 :: Y.txt)) := by rw [hl]; simp
    have e1 : idT xs ys = (X.txt ++ [61]) ++ (Y.txt ++ []) := by rw [hl]; simp
    have r1 := (X.rd okX).2 (idT xs ys).length [] (61 :: Y.txt) (by omega) rfl
    rw [← e0] at r1
    have r2 := (Y.rd okY).2 (idT xs ys).length (X.txt ++ [61]) [] (by omega) rfl
    rw [← e1] at r2
    simp only [List.length_nil, Nat.zero_add] at r1
    have e2 : (X.txt ++ [61]).length = X.txt.length + 1 := by simp
    rw [e2] at r2
    have hg : (idT xs ys).getD X.txt.length 0 = 61 := by
      have := getD_pre X.txt 61 Y.txt
      rw [e0]; exact this
    unfold rdI
    rw [if_neg (by omega)]
    simp only [r1, hg, r2, hX, hY, h1]
    simp
theorem rdS_iff {l : List Nat} {xs ys : List Nat} : rdS l = some (xs, ys) ↔ isId xs ys = true ∧ idT xs ys = l := by
  constructor
  · intro h
    unfold rdS at h
    split at h
    · cases h
    · split at h
      · cases h
      · split at h
        · cases h
        · split at h
          · cases h
          · split at h
            · rename_i hc
              cases h
              exact hc.2
            · cases h
  · rintro ⟨h1, rfl⟩
    obtain ⟨hx, hy⟩ := isId_iff.1 h1
    obtain ⟨X, okX, hX, tX⟩ := tree_of hx
    obtain ⟨Y, okY, hY, tY⟩ := tree_of hy
    have hl : idT xs ys = X.txt ++ [61] ++ Y.txt := by unfold idT; rw [tX, tY]
    have bx : xs.length ≤ 40 := (isTm_iff.1 hx).2
    have by' : ys.length ≤ 40 := (isTm_iff.1 hy).2
    have lx := X.par_le
    have ly := Y.par_le
    rw [hX] at lx
    rw [hY] at ly
    have gx := par_ge X.txt
    have gy := par_ge Y.txt
    have hlen : (idT xs ys).length = X.txt.length + 1 + Y.txt.length := by rw [hl]; simp only [List.length_append, List.length_singleton]
    have e0 : idT xs ys = [] ++ (X.txt ++ (61 :: Y.txt)) := by rw [hl]; simp
    have e1 : idT xs ys = (X.txt ++ [61]) ++ (Y.txt ++ []) := by rw [hl]; simp
    have r1 := (X.sd okX).2 (idT xs ys).length [] (61 :: Y.txt) (by omega) rfl
    rw [← e0] at r1
    have r2 := (Y.sd okY).2 (idT xs ys).length (X.txt ++ [61]) [] (by omega) rfl
    rw [← e1] at r2
    simp only [List.length_nil, Nat.zero_add] at r1
    have e2 : (X.txt ++ [61]).length = X.txt.length + 1 := by simp
    rw [e2] at r2
    have hg : (idT xs ys).getD X.txt.length 0 = 61 := by
      have := getD_pre X.txt 61 Y.txt
      rw [e0]; exact this
    unfold rdS
    rw [if_neg (by omega), r1]
    simp only [hg]
    rw [if_neg (by simp), r2]
    simp only [hX, hY, h1]
    rw [if_pos ⟨by omega, by first | rfl | trivial, by first | rfl | trivial⟩]
theorem rd_same (l : List Nat) : rdS l = rdI l := by
  rcases h : rdI l with _ | ⟨xs, ys⟩
  · rcases h2 : rdS l with _ | ⟨xs, ys⟩
    · rfl
    · rw [rdI_iff.2 (rdS_iff.1 h2)] at h; cases h
  · exact rdS_iff.2 (rdI_iff.1 h)
end Go.Proofs.YtpmemoabkbmljaaDoor

