/- The texts of terms as plain lists; texts put together; contracts of the small functions. -/
import Derived.Test.YtpmemoabkbmljaaDoorC80
import Derived.Laws.IdiomStrings
namespace Go.Proofs.YtpmemoabkbmljaaDoor
set_option linter.unusedSimpArgs false
set_option linter.unusedVariables false
open Go Go.RowKit

def parT (s : List Nat) : List Nat := if 1 < s.length then 40 :: (s ++ [41]) else s
def txStep (b : Nat) (st : List (List Nat)) : List (List Nat) :=
  if isLeafB b = true then [b] :: st else match st with | c :: a :: r => (parT a ++ [b] ++ parT c) :: r | _ => []
def txTo (f : Nat → Nat) : Nat → List (List Nat)
  | 0 => []
  | k + 1 => txStep (f k) (txTo f k)
def txB (f : Nat → Nat) (n : Nat) : List Nat := (txTo f n).headD []
theorem txTo_succ (f : Nat → Nat) (k : Nat) : txTo f (k + 1) = txStep (f k) (txTo f k) := rfl
theorem txStep_leaf {b : Nat} (h : isLeafB b = true) (st : List (List Nat)) : txStep b st = [b] :: st := if_pos h
theorem txStep_op {b : Nat} (h : isLeafB b = false) (c a : List Nat) (r : List (List Nat)) : txStep b (c :: a :: r) = (parT a ++ [b] ++ parT c) :: r := by rw [txStep, if_neg (by rw [h]; exact Bool.false_ne_true)]
theorem parT_len (s : List Nat) : (parT s).length ≤ s.length + 2 ∧ s.length ≤ (parT s).length := by
  unfold parT
  split
  · simp only [List.length_cons, List.length_append, List.length_nil]; omega
  · omega
def sumL (st : List (List Nat)) : Nat := (st.map List.length).sum
theorem mem_sumL {st : List (List Nat)} {s : List Nat} (h : s ∈ st) : s.length ≤ sumL st := by
  induction st with
  | nil => cases h
  | cons a st ih =>
    simp only [sumL, List.map_cons, List.sum_cons]
    rcases List.mem_cons.1 h with rfl | h
    · omega
    · have := ih h; unfold sumL at this; omega
theorem txTo_length {f : Nat → Nat} : ∀ {k v : Nat}, tmTo f k = some v → (txTo f k).length = v
  | 0, v, h => by cases h; rfl
  | k + 1, v, h => by
    rw [tmTo] at h
    split at h
    · rename_i u hu
      have ih := txTo_length hu
      rw [txTo]
      simp only [tmStep] at h
      simp only [txStep]
      split at h
      · rename_i hl; cases h; rw [if_pos hl]; simp [ih]
      · rename_i hl
        rw [if_neg hl]
        split at h
        · rename_i ho
          cases h
          revert ih
          rcases txTo f k with _ | ⟨c, _ | ⟨a, r⟩⟩
          · intro ih; simp at ih; omega
          · intro ih; simp at ih; omega
          · intro ih; simp at ih ⊢; omega
        · cases h
    · cases h
/-- The texts are not too long, nor empty, and made of bytes. -/
theorem txTo_ok {f : Nat → Nat} : ∀ {k v : Nat}, tmTo f k = some v → sumL (txTo f k) ≤ 5 * k ∧ ∀ s ∈ txTo f k, 1 ≤ s.length ∧ Byts s
  | 0, v, h => ⟨Nat.le_refl _, fun s hs => by cases hs⟩
  | k + 1, v, h => by
    rw [tmTo] at h
    split at h
    · rename_i u hu
      obtain ⟨i1, i2⟩ := txTo_ok hu
      rw [txTo]
      simp only [tmStep] at h
      simp only [txStep]
      split at h
      · rename_i hl
        rw [if_pos hl]
        refine ⟨by simp only [sumL, List.map_cons, List.sum_cons, List.length_singleton] at i1 ⊢; omega, fun s hs => ?_⟩
        rcases List.mem_cons.1 hs with rfl | hs
        · refine ⟨Nat.le_refl _, fun x hx => ?_⟩
          simp only [List.mem_singleton] at hx
          subst hx
          have := leaf_cases hl
          omega
        · exact i2 s hs
      · rename_i hl
        rw [if_neg hl]
        split at h
        · rename_i ho
          revert i1 i2
          rcases txTo f k with _ | ⟨c, _ | ⟨a, r⟩⟩
          · intro i1 i2; exact ⟨Nat.zero_le _, fun s hs => by cases hs⟩
          · intro i1 i2; exact ⟨Nat.zero_le _, fun s hs => by cases hs⟩
          · intro i1 i2
            have pa := parT_len a
            have pc := parT_len c
            have ha := i2 a (by simp)
            have hc := i2 c (by simp)
            refine ⟨by simp only [sumL, List.map_cons, List.sum_cons, List.length_append, List.length_singleton] at i1 ⊢; omega, fun s hs => ?_⟩
            rcases List.mem_cons.1 hs with rfl | hs
            · refine ⟨by simp only [List.length_append, List.length_singleton]; omega, fun x hx => ?_⟩
              have hp : ∀ t, Byts t → ∀ x ∈ parT t, x < 256 := fun t ht x hx => by
                unfold parT at hx
                split at hx
                · simp only [List.mem_cons, List.mem_append, List.not_mem_nil, or_false] at hx
                  rcases hx with rfl | hx | rfl
                  · omega
                  · exact ht x hx
                  · omega
                · exact ht x hx
              simp only [List.mem_append, List.mem_singleton] at hx
              rcases hx with (hx | rfl) | hx
              · exact hp a ha.2 x hx
              · have ho1 := ho.1
                simp [isOpB] at ho1
                omega
              · exact hp c hc.2 x hx
            · exact i2 s (by simp [hs])
        · cases h
    · cases h

/-! ### Texts put together -/
theorem cv_leaf {b : Nat} (h : isLeafB b = true) (w : World) : (convert 5 9 (.int .u8 (b : Int))).run Tryd.prog w = .ok (.string (str [b])) w := by
  rcases leaf_cases h with rfl | rfl | rfl | rfl <;> kernel_rfl
theorem cv_op {b : Nat} (h : isOpB b = true) (w : World) : (convert 5 9 (.int .u8 (b : Int))).run Tryd.prog w = .ok (.string (str [b])) w := by
  rcases op_cases h with rfl | rfl | rfl <;> kernel_rfl

set_option maxRecDepth 100000 in
theorem implPart_any (s : List Nat) (hs : s.length ≤ 10000) (w : World) : Calls Tryd.prog 94 #[.string (str s)] w fun e w' => e = .returned (.string (str (parT s))) ∧ w = w' := by
  have hsz := str_size s
  by_cases h : 1 < s.length
  · have hp : parT s = 40 :: (s ++ [41]) := if_pos h
    have h1 : (1 : Int) < (s.length : Int) := by omega
    have a1 : ∀ w, (Op.stringOp .add (⟨#[40]⟩ : ByteArray) (str s)).run Tryd.prog w = .ok (.string (str (40 :: s))) w := add_str [40] s (by simp; omega)
    have a2 : ∀ w, (Op.stringOp .add (str (40 :: s)) (⟨#[41]⟩ : ByteArray)).run Tryd.prog w = .ok (.string (str (40 :: (s ++ [41])))) w := add_str (40 :: s) [41] (by simp; omega)
    rw [hp]
    generalize str (40 :: s) = s1 at a1 a2
    generalize str (40 :: (s ++ [41])) = s2 at a2 ⊢
    generalize str s = s0 at *
    go_enter Tryd.func94, Tryd.ntmps94
    go_wp2
    go_ret
    exact ⟨rfl, rfl⟩
  · have hp : parT s = s := if_neg h
    have h1 : ¬ (1 : Int) < (s.length : Int) := by omega
    rw [hp]
    generalize str s = s0 at *
    go_enter Tryd.func94, Tryd.ntmps94
    go_wp2
    go_ret
    exact ⟨rfl, rfl⟩
set_option maxRecDepth 100000 in
theorem specPart_any (s : List Nat) (h0 : 1 ≤ s.length) (hs : s.length ≤ 10000) (w : World) : Calls Tryd.prog 89 #[.string (str s)] w fun e w' => e = .returned (.string (str (parT s))) ∧ w = w' := by
  have hsz := str_size s
  by_cases h : 1 < s.length
  · have hp : parT s = 40 :: (s ++ [41]) := if_pos h
    have h1 : ((s.length : Int) == 1) = false := by simp; omega
    have a1 : ∀ w, (Op.stringOp .add (⟨#[40]⟩ : ByteArray) (str s)).run Tryd.prog w = .ok (.string (str (40 :: s))) w := add_str [40] s (by simp; omega)
    have a2 : ∀ w, (Op.stringOp .add (str (40 :: s)) (⟨#[41]⟩ : ByteArray)).run Tryd.prog w = .ok (.string (str (40 :: (s ++ [41])))) w := add_str (40 :: s) [41] (by simp; omega)
    rw [hp]
    generalize str (40 :: s) = s1 at a1 a2
    generalize str (40 :: (s ++ [41])) = s2 at a2 ⊢
    generalize str s = s0 at *
    go_enter Tryd.func89, Tryd.ntmps89
    go_wp2
    go_ret
    exact ⟨rfl, rfl⟩
  · have hp : parT s = s := if_neg h
    have h1 : ((s.length : Int) == 1) = true := by simp; omega
    rw [hp]
    generalize str s = s0 at *
    go_enter Tryd.func89, Tryd.ntmps89
    go_wp2
    go_ret
    exact ⟨rfl, rfl⟩
set_option maxRecDepth 100000 in
theorem tx1_any (b : Nat) (h : isLeafB b = true) (w : World) : Calls Tryd.prog 92 #[.int .u8 (b : Int)] w fun e w' => e = .returned (.string (str [b])) ∧ w = w' := by
  have hc := cv_leaf h
  generalize str [b] = s at *
  clear h
  go_enter Tryd.func92, Tryd.ntmps92
  go_wp2
  go_ret
  exact ⟨rfl, rfl⟩
set_option maxRecDepth 100000 in
theorem tx2_any (b : Nat) (h : isOpB b = true) (a c : List Nat) (ha : a.length ≤ 10000) (hc : c.length ≤ 10000) (w : World) : Calls Tryd.prog 93 #[.int .u8 (b : Int), .string (str a), .string (str c)] w fun e w' => e = .returned (.string (str (parT a ++ [b] ++ parT c))) ∧ w = w' := by
  have hv := cv_op h
  have pa := parT_len a
  have pc := parT_len c
  have P1 := fun w1 => implPart_any a ha w1
  have P2 := fun w1 => implPart_any c hc w1
  have a1 := add_str (parT a) [b] (by simp only [List.length_singleton]; omega)
  have a2 := add_str (parT a ++ [b]) (parT c) (by simp only [List.length_append, List.length_singleton]; omega)
  generalize str (parT a ++ [b] ++ parT c) = s3 at *
  generalize str (parT a ++ [b]) = s2 at *
  generalize str (parT a) = s1 at *
  generalize str (parT c) = s4 at *
  generalize str [b] = sb at *
  generalize str a = sa at *
  generalize str c = sc at *
  clear pa pc ha hc h
  go_enter Tryd.func93, Tryd.ntmps93
  go_wp2_with (first | (go_at_call 94; ((with_reducible refine (P1 _).mono ?_); rintro e w1 ⟨rfl, rfl⟩)) | (go_at_call 94; ((with_reducible refine (P2 _).mono ?_); rintro e w1 ⟨rfl, rfl⟩)))
  go_ret
  exact ⟨rfl, rfl⟩
end Go.Proofs.YtpmemoabkbmljaaDoor
