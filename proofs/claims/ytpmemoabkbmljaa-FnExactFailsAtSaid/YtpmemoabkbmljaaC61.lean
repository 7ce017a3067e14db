/- Identities: contracts. -/
import Derived.Test.YtpmemoabkbmljaaC60
namespace Go.Proofs.Ytpmemoabkbmljaa
set_option linter.unusedSimpArgs false
set_option linter.unusedVariables false
open Go Go.RowKit

/-- The two sides of an identity, as cells. -/
def idV (p1 : Option Addr) (c1 : Nat) (p2 : Option Addr) (c2 n m : Nat) : Array Value := #[.slice p1 n c1, .slice p2 m c2]
theorem und_idn : Try.prog.underlying 37 = some (.struct (Try.prog.fieldsOf 37)) := by kernel_rfl
theorem inf_idn : (Try.prog.info? 37).map (·.size) = some 2 := by kernel_rfl
theorem idv_size (p1 : Option Addr) (c1 : Nat) (p2 : Option Addr) (c2 n m : Nat) : (idV p1 c1 p2 c2 n m).size = 2 := rfl
theorem idv_0 (p1 : Option Addr) (c1 : Nat) (p2 : Option Addr) (c2 n m : Nat) : (idV p1 c1 p2 c2 n m)[0]? = some (.slice p1 n c1) := rfl
theorem idv_1 (p1 : Option Addr) (c1 : Nat) (p2 : Option Addr) (c2 n m : Nat) : (idV p1 c1 p2 c2 n m)[1]? = some (.slice p2 m c2) := rfl
def isId (xs ys : List Nat) : Bool := isTm (elB xs) xs.length && isTm (elB ys) ys.length

set_option maxRecDepth 100000 in
set_option maxHeartbeats 1000000 in
theorem isIdentity_any (xs ys : List Nat) (h1 : xs.length ≤ 10000000) (h2 : ys.length ≤ 10000000) (w : World) (p1 p2 : Option Addr) (c1 c2 : Nat) (r1 : rdq w p1 xs.length (bytF xs)) (r2 : rdq w p2 ys.length (bytF ys)) :
    Calls Try.prog 40 #[.agg (idV p1 c1 p2 c2 xs.length ys.length)] w fun e w' => e = .returned (.bool (isId xs ys)) ∧ Below w.heap.size w w' := by
  have M := Mm.start no w
  have H1 := fun w1 (hb : Below w.heap.size w w1) => isTerm_any xs h1 w1 p1 c1 (r1.later hb)
  have H2 := fun w1 (hb : Below w.heap.size w w1) => isTerm_any ys h2 w1 p2 c2 (r2.later hb)
  have hI : isId xs ys = (isTm (elB xs) xs.length && isTm (elB ys) ys.length) := rfl
  have hI1 := idv_0 p1 c1 p2 c2 xs.length ys.length
  have hI2 := idv_1 p1 c1 p2 c2 xs.length ys.length
  rw [hI]
  generalize isTm (elB xs) xs.length = x at H1
  generalize isTm (elB ys) ys.length = y at H2
  clear r1 r2 hI
  generalize hV : idV p1 c1 p2 c2 xs.length ys.length = V at hI1 hI2
  clear hV
  go_enter Try.func40, Try.ntmps40
  cases x
  · go_wp2_with (first | ((with_reducible apply wpM_box' M 37 (V)); rfl; exact ⟨rfl, rfl⟩; clear M; (try clear C); intro bi w9 h_bi M; have C := M.ruleAll; simp only [Go.Proofs.Ytpmemoabkbmljaa.ruleAll] at C) | (go_at_call 56; ((with_reducible refine (H1 _ M.below).mono ?_); rintro e w1 ⟨rfl, hb⟩; have hsz := M.size; (try (have G9 := G.later hb; clear G; have G := G9; clear G9)); have M9 := M.later hb; clear M; (try clear C); have M := M9; clear M9; have C := M.ruleAll; simp only [Go.Proofs.Ytpmemoabkbmljaa.ruleAll] at C)))
    go_ret
    exact ⟨rfl, M.below⟩
  · go_wp2_with (first | ((with_reducible apply wpM_box' M 37 (V)); rfl; exact ⟨rfl, rfl⟩; clear M; (try clear C); intro bi w9 h_bi M; have C := M.ruleAll; simp only [Go.Proofs.Ytpmemoabkbmljaa.ruleAll] at C) | (go_at_call 56; ((with_reducible refine (H1 _ M.below).mono ?_); rintro e w1 ⟨rfl, hb⟩; have hsz := M.size; (try (have G9 := G.later hb; clear G; have G := G9; clear G9)); have M9 := M.later hb; clear M; (try clear C); have M := M9; clear M9; have C := M.ruleAll; simp only [Go.Proofs.Ytpmemoabkbmljaa.ruleAll] at C)) | (go_at_call 56; ((with_reducible refine (H2 _ M.below).mono ?_); rintro e w1 ⟨rfl, hb⟩; have hsz := M.size; (try (have G9 := G.later hb; clear G; have G := G9; clear G9)); have M9 := M.later hb; clear M; (try clear C); have M := M9; clear M9; have C := M.ruleAll; simp only [Go.Proofs.Ytpmemoabkbmljaa.ruleAll] at C)))
    go_ret
    exact ⟨by cases y <;> rfl, M.below⟩

set_option maxRecDepth 100000 in
set_option maxHeartbeats 1000000 in
theorem l03Both_any (xs ys : List Nat) (h1 : xs.length ≤ 10000000) (h2 : ys.length ≤ 10000000) (w : World) (p1 p2 : Option Addr) (c1 c2 : Nat) (r1 : rdq w p1 xs.length (bytF xs)) (r2 : rdq w p2 ys.length (bytF ys)) :
    Calls Try.prog 36 #[.agg (idV p1 c1 p2 c2 xs.length ys.length)] w fun e w' => e = .returned (.bool (isId xs ys)) ∧ Below w.heap.size w w' := by
  have M := Mm.start no w
  have H1 := fun w1 (hb : Below w.heap.size w w1) => l03Is_any xs h1 w1 p1 c1 (r1.later hb)
  have H2 := fun w1 (hb : Below w.heap.size w w1) => l03Is_any ys h2 w1 p2 c2 (r2.later hb)
  have hI : isId xs ys = (isTm (elB xs) xs.length && isTm (elB ys) ys.length) := rfl
  have hI1 := idv_0 p1 c1 p2 c2 xs.length ys.length
  have hI2 := idv_1 p1 c1 p2 c2 xs.length ys.length
  rw [hI]
  generalize isTm (elB xs) xs.length = x at H1
  generalize isTm (elB ys) ys.length = y at H2
  clear r1 r2 hI
  generalize hV : idV p1 c1 p2 c2 xs.length ys.length = V at hI1 hI2
  clear hV
  go_enter Try.func36, Try.ntmps36
  cases x
  · go_wp2_with (first | ((with_reducible apply wpM_box' M 37 (V)); rfl; exact ⟨rfl, rfl⟩; clear M; (try clear C); intro bi w9 h_bi M; have C := M.ruleAll; simp only [Go.Proofs.Ytpmemoabkbmljaa.ruleAll] at C) | (go_at_call 54; ((with_reducible refine (H1 _ M.below).mono ?_); rintro e w1 ⟨rfl, hb⟩; have hsz := M.size; (try (have G9 := G.later hb; clear G; have G := G9; clear G9)); have M9 := M.later hb; clear M; (try clear C); have M := M9; clear M9; have C := M.ruleAll; simp only [Go.Proofs.Ytpmemoabkbmljaa.ruleAll] at C)))
    go_ret
    exact ⟨rfl, M.below⟩
  · go_wp2_with (first | ((with_reducible apply wpM_box' M 37 (V)); rfl; exact ⟨rfl, rfl⟩; clear M; (try clear C); intro bi w9 h_bi M; have C := M.ruleAll; simp only [Go.Proofs.Ytpmemoabkbmljaa.ruleAll] at C) | (go_at_call 54; ((with_reducible refine (H1 _ M.below).mono ?_); rintro e w1 ⟨rfl, hb⟩; have hsz := M.size; (try (have G9 := G.later hb; clear G; have G := G9; clear G9)); have M9 := M.later hb; clear M; (try clear C); have M := M9; clear M9; have C := M.ruleAll; simp only [Go.Proofs.Ytpmemoabkbmljaa.ruleAll] at C)) | (go_at_call 54; ((with_reducible refine (H2 _ M.below).mono ?_); rintro e w1 ⟨rfl, hb⟩; have hsz := M.size; (try (have G9 := G.later hb; clear G; have G := G9; clear G9)); have M9 := M.later hb; clear M; (try clear C); have M := M9; clear M9; have C := M.ruleAll; simp only [Go.Proofs.Ytpmemoabkbmljaa.ruleAll] at C)))
    go_ret
    exact ⟨by cases y <;> rfl, M.below⟩
end Go.Proofs.Ytpmemoabkbmljaa
