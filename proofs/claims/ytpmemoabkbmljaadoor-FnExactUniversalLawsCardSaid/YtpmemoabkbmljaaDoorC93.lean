/- The texts of the laws, and the laws; contracts. -/
import Derived.Test.YtpmemoabkbmljaaDoorC90
import Derived.Test.YtpmemoabkbmljaaDoorC8
import Derived.Test.YtpmemoabkbmljaaDoorC4
namespace Go.Proofs.YtpmemoabkbmljaaDoor
set_option linter.unusedSimpArgs false
set_option linter.unusedVariables false
open Go Go.RowKit

/-- The texts of the laws. -/
def lawL : List (List Nat) := [[40, 101, 47, 120, 41, 42, 40, 120, 42, 121, 41, 61, 121],
  [40, 121, 42, 120, 41, 42, 40, 120, 92, 101, 41, 61, 121],
  [40, 120, 42, 121, 41, 92, 101, 61, 40, 120, 92, 101, 41, 42, 40, 121, 92, 101, 41],
  [40, 120, 42, 121, 41, 92, 101, 61, 40, 121, 92, 101, 41, 42, 40, 120, 92, 101, 41],
  [120, 42, 40, 40, 121, 42, 120, 41, 92, 101, 41, 61, 121, 92, 101],
  [40, 120, 42, 121, 41, 42, 40, 120, 92, 101, 41, 61, 121],
  [120, 42, 40, 121, 42, 120, 41, 61, 40, 120, 42, 121, 41, 42, 120],
  [120, 42, 40, 120, 42, 121, 41, 61, 40, 120, 42, 120, 41, 42, 121],
  [40, 121, 42, 120, 41, 42, 120, 61, 121, 42, 40, 120, 42, 120, 41],
  [120, 42, 40, 121, 42, 40, 120, 42, 122, 41, 41, 61, 40, 120, 42, 40, 121, 42, 120, 41, 41, 42, 122],
  [40, 40, 122, 42, 120, 41, 42, 121, 41, 42, 120, 61, 122, 42, 40, 40, 120, 42, 121, 41, 42, 120, 41],
  [40, 120, 42, 121, 41, 42, 40, 122, 42, 120, 41, 61, 40, 120, 42, 40, 121, 42, 122, 41, 41, 42, 120],
  [120, 42, 40, 121, 42, 40, 122, 42, 120, 41, 41, 61, 40, 40, 120, 42, 121, 41, 42, 122, 41, 42, 120],
  [120, 42, 40, 121, 42, 40, 121, 42, 122, 41, 41, 61, 40, 40, 120, 42, 121, 41, 42, 121, 41, 42, 122],
  [120, 42, 40, 121, 42, 122, 41, 61, 40, 40, 120, 42, 121, 41, 47, 120, 41, 42, 40, 120, 42, 122, 41],
  [40, 120, 42, 121, 41, 42, 122, 61, 40, 120, 42, 122, 41, 42, 40, 122, 92, 40, 121, 42, 122, 41, 41],
  [120, 42, 121, 61, 121, 42, 120],
  [40, 120, 42, 121, 41, 42, 122, 61, 120, 42, 40, 121, 42, 122, 41],
  [120, 42, 120, 61, 101],
  [120, 42, 40, 121, 42, 120, 41, 61, 121]]
def lawT (k : Nat) : List Nat := lawL.getD k []
theorem lawT_ok : ∀ k, k < 20 → (lawT k).length ≤ 100 ∧ Byts (lawT k) := by
  unfold Byts
  decide +kernel
theorem lawT_rd : ∀ k, k < 20 → (rdI (lawT k)).isSome = true := by decide +kernel
/-- A law. -/
def lawI (k : Nat) : List Nat × List Nat := (rdI (lawT k)).getD ([], [])
theorem lawI_rd {k : Nat} (h : k < 20) : rdI (lawT k) = some (lawI k) := by
  have := lawT_rd k h
  unfold lawI
  revert this
  rcases rdI (lawT k) with _ | x
  · intro h; cases h
  · intro _; rfl
theorem lawI_tm {k : Nat} (h : k < 20) : isTm (elB (lawI k).1) (lawI k).1.length = true ∧ isTm (elB (lawI k).2) (lawI k).2.length = true :=
  isId_iff.1 (rdI_iff.1 (lawI_rd h)).1
/-- The package's texts, as they are laid. -/
def glb (w : World) : Prop := ∀ k, k < 20 → w.cell? ⟨0, k, none⟩ = some (.string (str (lawT k)))
theorem glb.later {w w' : World} (h : glb w) (hb : Below w.heap.size w w') : glb w' := fun k hk => by
  have hlt : 0 < w.heap.size := World.block_lt_of_cell? w ⟨0, k, none⟩ (h k hk)
  rw [hb.cell (p := ⟨0, k, none⟩) hlt]; exact h k hk
/-- An identity handed back, its sides in new memory. -/
def LawPost (xs ys : List Nat) (w : World) (e : Ending) (w' : World) : Prop :=
  ∃ p1 c1 p2 c2, e = .returned (.agg (idV p1 c1 p2 c2 xs.length ys.length)) ∧ Mm no w w' [.row w.heap.size (.slice p1 xs.length c1) xs.length (u8s xs) 5 1, .row w.heap.size (.slice p2 ys.length c2) ys.length (u8s ys) 5 1]
theorem Mm.weakRows {D : Nat → Prop} {w0 w : World} {L : List Ent} {B1 B2 B : Nat} {v1 v2 : Value} {n1 n2 : Nat} {xs1 xs2 : List Value} {e1 e2 s1 s2 : Nat} (M : Mm D w0 w (.row B1 v1 n1 xs1 e1 s1 :: .row B2 v2 n2 xs2 e2 s2 :: L)) (h1 : B ≤ B1) (h2 : B ≤ B2) : Mm D w0 w (.row B v1 n1 xs1 e1 s1 :: .row B v2 n2 xs2 e2 s2 :: L) :=
  (M.set 0 rfl (y := .row B v1 n1 xs1 e1 s1) (.refl no w) (fun _ h => h.elim) (fun _ _ h => h.elim) (ownsRow_weak (M.row 0 rfl) h1) fun k h => .inl h).set 1 rfl (y := .row B v2 n2 xs2 e2 s2) (.refl no w) (fun _ h => h.elim) (fun _ _ h => h.elim) (ownsRow_weak (M.row 1 rfl) h2) fun k h => .inl h

set_option maxRecDepth 100000 in
set_option maxHeartbeats 2000000 in
theorem law_any (k : Nat) (hk : k < 20) (w : World) (hg : glb w) : Calls Tryd.prog 30 #[.int .i64 (k : Int)] w (LawPost (lawI k).1 (lawI k).2 w) := by
  have M := Mm.start no w
  have HG := Hid2.mk (fun w1 (hb : Below w.heap.size w w1) => (hg.later hb) k hk)
  have HP := Hid2.mk (fun w1 => parseIdentity_any (lawT k) (Nat.le_trans (lawT_ok k hk).1 (by decide)) (lawT_ok k hk).2 w1)
  rw [lawI_rd hk] at HP
  generalize str (lawT k) = s at HG HP
  generalize lawI k = r at HP ⊢
  obtain ⟨xs, ys⟩ := r
  simp only at HP ⊢
  have hk2 : (k : Int) < 20 := by omega
  have hc := HG.out _ M.below
  clear hg
  go_enter Tryd.func30, Tryd.ntmps30
  go_wp2_with (first | (((with_reducible apply wpM_alloc' M 49 (idV none 0 none 0 0 0)); rfl; exact ⟨rfl, _, zero_idn _, rfl⟩; clear M; (try clear C); intro bz w9 h_bz M; have C := M.ruleAll; simp only [Go.Proofs.YtpmemoabkbmljaaDoor.ruleAll] at C); have hc := HG.out _ M.below) | (go_at_call 50; fail))
  refine (HP.out _).mono ?_
  rintro e w1 ⟨p1, c1, p2, c2, rfl, M'⟩
  have M9 := (M.joinRows M').weakRows M.size M.size
  clear M; (try clear C)
  have M := M9
  clear M9 M' hc
  have C := M.ruleAll; simp only [Go.Proofs.YtpmemoabkbmljaaDoor.ruleAll] at C
  go_wp2_with (first | ((with_reducible apply wpM_alloc' M 49 (idV none 0 none 0 0 0)); rfl; exact ⟨rfl, _, zero_idn _, rfl⟩; clear M; (try clear C); intro bi w9 h_bi M; have C := M.ruleAll; simp only [Go.Proofs.YtpmemoabkbmljaaDoor.ruleAll] at C) | ((with_reducible apply wpM_sta' M 0 49 (idV p1 c1 p2 c2 xs.length ys.length)); rfl; rfl; rfl; rfl; (first | exact .inl (by assumption) | exact .inr rfl | exact .inr (by assumption)); exact ⟨rfl, inf_idn.trans (congrArg some (idv_size ..).symm), flat_idv _ _ _ _ _ _⟩; (simp only [entCells, List.getElem?_cons_zero, List.getElem?_cons_succ, idv_size, idv_size]); clear M; (try clear C); intro w9 M; simp only [List.set_cons_zero, List.set_cons_succ, entBlk, entT, List.getElem?_cons_zero, List.getElem?_cons_succ] at M; have C := M.ruleAll; simp only [Go.Proofs.YtpmemoabkbmljaaDoor.ruleAll] at C) | ((with_reducible apply wpM_lda' M 0 49 0 (idV p1 c1 p2 c2 xs.length ys.length)); rfl; rfl; rfl; exact ⟨rfl, inf_idn.trans (congrArg some (idv_size ..).symm), _, und_idn, rfl⟩; exact whole_of rfl) | ((with_reducible apply wpM_sta' M 3 49 (idV p1 c1 p2 c2 xs.length ys.length)); rfl; rfl; rfl; rfl; (first | exact .inl (by assumption) | exact .inr rfl | exact .inr (by assumption)); exact ⟨rfl, inf_idn.trans (congrArg some (idv_size ..).symm), flat_idv _ _ _ _ _ _⟩; (simp only [entCells, List.getElem?_cons_zero, List.getElem?_cons_succ, idv_size, idv_size]); clear M; (try clear C); intro w9 M; simp only [List.set_cons_zero, List.set_cons_succ, entBlk, entT, List.getElem?_cons_zero, List.getElem?_cons_succ] at M; have C := M.ruleAll; simp only [Go.Proofs.YtpmemoabkbmljaaDoor.ruleAll] at C))
  refine bodyPost_ret (v := .agg (idV p1 c1 p2 c2 xs.length ys.length)) (by exact results_part rfl _ _ _ _ _ _ rfl und_idn rfl inf_idn (cells_of_blk0 (M.box 3 rfl))) rfl ?_
  exact ⟨p1, c1, p2, c2, rfl, by
    have M9 := M.sub [1, 2] (by decide)
    simp only [List.filterMap_cons, List.filterMap_nil, List.getElem?_cons_succ, List.getElem?_cons_zero] at M9
    exact M9⟩

/-- The reference's texts in a new slice. -/
def lawV : List (Nat × Value) := [(0, .string ⟨#[40, 101, 47, 120, 41, 42, 40, 120, 42, 121, 41, 61, 121]⟩), (1, .string ⟨#[40, 121, 42, 120, 41, 42, 40, 120, 92, 101, 41, 61, 121]⟩), (2, .string ⟨#[40, 120, 42, 121, 41, 92, 101, 61, 40, 120, 92, 101, 41, 42, 40, 121, 92, 101, 41]⟩), (3, .string ⟨#[40, 120, 42, 121, 41, 92, 101, 61, 40, 121, 92, 101, 41, 42, 40, 120, 92, 101, 41]⟩), (4, .string ⟨#[120, 42, 40, 40, 121, 42, 120, 41, 92, 101, 41, 61, 121, 92, 101]⟩), (5, .string ⟨#[40, 120, 42, 121, 41, 42, 40, 120, 92, 101, 41, 61, 121]⟩), (6, .string ⟨#[120, 42, 40, 121, 42, 120, 41, 61, 40, 120, 42, 121, 41, 42, 120]⟩), (7, .string ⟨#[120, 42, 40, 120, 42, 121, 41, 61, 40, 120, 42, 120, 41, 42, 121]⟩), (8, .string ⟨#[40, 121, 42, 120, 41, 42, 120, 61, 121, 42, 40, 120, 42, 120, 41]⟩), (9, .string ⟨#[120, 42, 40, 121, 42, 40, 120, 42, 122, 41, 41, 61, 40, 120, 42, 40, 121, 42, 120, 41, 41, 42, 122]⟩), (10, .string ⟨#[40, 40, 122, 42, 120, 41, 42, 121, 41, 42, 120, 61, 122, 42, 40, 40, 120, 42, 121, 41, 42, 120, 41]⟩), (11, .string ⟨#[40, 120, 42, 121, 41, 42, 40, 122, 42, 120, 41, 61, 40, 120, 42, 40, 121, 42, 122, 41, 41, 42, 120]⟩), (12, .string ⟨#[120, 42, 40, 121, 42, 40, 122, 42, 120, 41, 41, 61, 40, 40, 120, 42, 121, 41, 42, 122, 41, 42, 120]⟩), (13, .string ⟨#[120, 42, 40, 121, 42, 40, 121, 42, 122, 41, 41, 61, 40, 40, 120, 42, 121, 41, 42, 121, 41, 42, 122]⟩), (14, .string ⟨#[120, 42, 40, 121, 42, 122, 41, 61, 40, 40, 120, 42, 121, 41, 47, 120, 41, 42, 40, 120, 42, 122, 41]⟩), (15, .string ⟨#[40, 120, 42, 121, 41, 42, 122, 61, 40, 120, 42, 122, 41, 42, 40, 122, 92, 40, 121, 42, 122, 41, 41]⟩), (16, .string ⟨#[120, 42, 121, 61, 121, 42, 120]⟩), (17, .string ⟨#[40, 120, 42, 121, 41, 42, 122, 61, 120, 42, 40, 121, 42, 122, 41]⟩), (18, .string ⟨#[120, 42, 120, 61, 101]⟩), (19, .string ⟨#[120, 42, 40, 121, 42, 120, 41, 61, 121]⟩)]
def lawC : Array Value := #[.string ⟨#[40, 101, 47, 120, 41, 42, 40, 120, 42, 121, 41, 61, 121]⟩, .string ⟨#[40, 121, 42, 120, 41, 42, 40, 120, 92, 101, 41, 61, 121]⟩, .string ⟨#[40, 120, 42, 121, 41, 92, 101, 61, 40, 120, 92, 101, 41, 42, 40, 121, 92, 101, 41]⟩, .string ⟨#[40, 120, 42, 121, 41, 92, 101, 61, 40, 121, 92, 101, 41, 42, 40, 120, 92, 101, 41]⟩, .string ⟨#[120, 42, 40, 40, 121, 42, 120, 41, 92, 101, 41, 61, 121, 92, 101]⟩, .string ⟨#[40, 120, 42, 121, 41, 42, 40, 120, 92, 101, 41, 61, 121]⟩, .string ⟨#[120, 42, 40, 121, 42, 120, 41, 61, 40, 120, 42, 121, 41, 42, 120]⟩, .string ⟨#[120, 42, 40, 120, 42, 121, 41, 61, 40, 120, 42, 120, 41, 42, 121]⟩, .string ⟨#[40, 121, 42, 120, 41, 42, 120, 61, 121, 42, 40, 120, 42, 120, 41]⟩, .string ⟨#[120, 42, 40, 121, 42, 40, 120, 42, 122, 41, 41, 61, 40, 120, 42, 40, 121, 42, 120, 41, 41, 42, 122]⟩, .string ⟨#[40, 40, 122, 42, 120, 41, 42, 121, 41, 42, 120, 61, 122, 42, 40, 40, 120, 42, 121, 41, 42, 120, 41]⟩, .string ⟨#[40, 120, 42, 121, 41, 42, 40, 122, 42, 120, 41, 61, 40, 120, 42, 40, 121, 42, 122, 41, 41, 42, 120]⟩, .string ⟨#[120, 42, 40, 121, 42, 40, 122, 42, 120, 41, 41, 61, 40, 40, 120, 42, 121, 41, 42, 122, 41, 42, 120]⟩, .string ⟨#[120, 42, 40, 121, 42, 40, 121, 42, 122, 41, 41, 61, 40, 40, 120, 42, 121, 41, 42, 121, 41, 42, 122]⟩, .string ⟨#[120, 42, 40, 121, 42, 122, 41, 61, 40, 40, 120, 42, 121, 41, 47, 120, 41, 42, 40, 120, 42, 122, 41]⟩, .string ⟨#[40, 120, 42, 121, 41, 42, 122, 61, 40, 120, 42, 122, 41, 42, 40, 122, 92, 40, 121, 42, 122, 41, 41]⟩, .string ⟨#[120, 42, 121, 61, 121, 42, 120]⟩, .string ⟨#[40, 120, 42, 121, 41, 42, 122, 61, 120, 42, 40, 121, 42, 122, 41]⟩, .string ⟨#[120, 42, 120, 61, 101]⟩, .string ⟨#[120, 42, 40, 121, 42, 120, 41, 61, 121]⟩]
theorem bsl_law (w : World) : (Instr.buildSlice 64 20 lawV.toArray).run Tryd.prog w = .ok (.slice (some ⟨w.heap.size, 0, none⟩) 20 20) (w.alloc (.cells lawC 9)) := by kernel_rfl
theorem lawC_get : ∀ k, k < 20 → lawC[k]? = some (.string (str (lawT k)))
  | 0, _ => by kernel_rfl
  | 1, _ => by kernel_rfl
  | 2, _ => by kernel_rfl
  | 3, _ => by kernel_rfl
  | 4, _ => by kernel_rfl
  | 5, _ => by kernel_rfl
  | 6, _ => by kernel_rfl
  | 7, _ => by kernel_rfl
  | 8, _ => by kernel_rfl
  | 9, _ => by kernel_rfl
  | 10, _ => by kernel_rfl
  | 11, _ => by kernel_rfl
  | 12, _ => by kernel_rfl
  | 13, _ => by kernel_rfl
  | 14, _ => by kernel_rfl
  | 15, _ => by kernel_rfl
  | 16, _ => by kernel_rfl
  | 17, _ => by kernel_rfl
  | 18, _ => by kernel_rfl
  | 19, _ => by kernel_rfl
  | n + 20, h => absurd h (by omega)
set_option maxRecDepth 100000 in
set_option maxHeartbeats 1000000 in
theorem l07Texts_any (w : World) : Calls Tryd.prog 44 #[] w fun e w' => ∃ g, e = .returned (.slice (some ⟨g, 0, none⟩) 20 20) ∧ w.heap.size ≤ g ∧ Mm no w w' [.box g lawC 9] := by
  have M := Mm.start no w
  go_enter Tryd.func44, Tryd.ntmps44
  go_wp2_with (first | ((with_reducible apply wpM_bsl' M 64 20 9 (lawV) (lawC)); rfl; rfl; rfl; exact bsl_law; clear M; (try clear C); intro b w9 h_b M; have C := M.ruleAll; simp only [Go.Proofs.YtpmemoabkbmljaaDoor.ruleAll] at C))
  go_ret
  exact ⟨b, rfl, by assumption, M⟩

set_option maxRecDepth 100000 in
set_option maxHeartbeats 2000000 in
theorem l07Law_any (k : Nat) (hk : k < 20) (w : World) : Calls Tryd.prog 27 #[.int .i64 (k : Int)] w (LawPost (lawI k).1 (lawI k).2 w) := by
  have M := Mm.start no w
  have HP := Hid2.mk (fun w1 => rd_same (lawT k) ▸ l03Read_any (lawT k) (Nat.le_trans (lawT_ok k hk).1 (by decide)) (lawT_ok k hk).2 w1)
  rw [lawI_rd hk] at HP
  have hck := lawC_get k hk
  generalize str (lawT k) = s at hck HP
  have HTX := Hid2.mk (fun w1 => l07Texts_any w1)
  generalize lawC = cs at hck HTX
  generalize lawI k = r at HP ⊢
  obtain ⟨xs, ys⟩ := r
  simp only at HP ⊢
  have hk2 : (k : Int) < 20 := by omega
  go_enter Tryd.func27, Tryd.ntmps27
  go_wp2_with (first | ((with_reducible apply wpM_alloc' M 49 (idV none 0 none 0 0 0)); rfl; exact ⟨rfl, _, zero_idn _, rfl⟩; clear M; (try clear C); intro bz w9 h_bz M; have C := M.ruleAll; simp only [Go.Proofs.YtpmemoabkbmljaaDoor.ruleAll] at C) | (go_at_call 44; fail))
  refine (HTX.out _).mono ?_
  rintro e w1 ⟨g, rfl, hg, M'⟩
  have M9 := M.join1 M' (new_box hg)
  clear M; (try clear C)
  have M := M9
  clear M9 M' hg
  have C := M.ruleAll; simp only [Go.Proofs.YtpmemoabkbmljaaDoor.ruleAll] at C
  go_wp2_with (first | (go_at_call 43; fail))
  refine (HP.out _).mono ?_
  rintro e w1 ⟨p1, c1, p2, c2, rfl, M'⟩
  have M9 := (M.joinRows M').weakRows M.size M.size
  clear M; (try clear C)
  have M := M9
  clear M9 M'
  have C := M.ruleAll; simp only [Go.Proofs.YtpmemoabkbmljaaDoor.ruleAll] at C
  go_wp2_with (first | ((with_reducible apply wpM_alloc' M 49 (idV none 0 none 0 0 0)); rfl; exact ⟨rfl, _, zero_idn _, rfl⟩; clear M; (try clear C); intro bi w9 h_bi M; have C := M.ruleAll; simp only [Go.Proofs.YtpmemoabkbmljaaDoor.ruleAll] at C) | ((with_reducible apply wpM_sta' M 0 49 (idV p1 c1 p2 c2 xs.length ys.length)); rfl; rfl; rfl; rfl; (first | exact .inl (by assumption) | exact .inr rfl | exact .inr (by assumption)); exact ⟨rfl, inf_idn.trans (congrArg some (idv_size ..).symm), flat_idv _ _ _ _ _ _⟩; (simp only [entCells, List.getElem?_cons_zero, List.getElem?_cons_succ, idv_size, idv_size]); clear M; (try clear C); intro w9 M; simp only [List.set_cons_zero, List.set_cons_succ, entBlk, entT, List.getElem?_cons_zero, List.getElem?_cons_succ] at M; have C := M.ruleAll; simp only [Go.Proofs.YtpmemoabkbmljaaDoor.ruleAll] at C) | ((with_reducible apply wpM_lda' M 0 49 0 (idV p1 c1 p2 c2 xs.length ys.length)); rfl; rfl; rfl; exact ⟨rfl, inf_idn.trans (congrArg some (idv_size ..).symm), _, und_idn, rfl⟩; exact whole_of rfl) | ((with_reducible apply wpM_sta' M 4 49 (idV p1 c1 p2 c2 xs.length ys.length)); rfl; rfl; rfl; rfl; (first | exact .inl (by assumption) | exact .inr rfl | exact .inr (by assumption)); exact ⟨rfl, inf_idn.trans (congrArg some (idv_size ..).symm), flat_idv _ _ _ _ _ _⟩; (simp only [entCells, List.getElem?_cons_zero, List.getElem?_cons_succ, idv_size, idv_size]); clear M; (try clear C); intro w9 M; simp only [List.set_cons_zero, List.set_cons_succ, entBlk, entT, List.getElem?_cons_zero, List.getElem?_cons_succ] at M; have C := M.ruleAll; simp only [Go.Proofs.YtpmemoabkbmljaaDoor.ruleAll] at C))
  refine bodyPost_ret (v := .agg (idV p1 c1 p2 c2 xs.length ys.length)) (by exact results_part rfl _ _ _ _ _ _ rfl und_idn rfl inf_idn (cells_of_blk0 (M.box 4 rfl))) rfl ?_
  exact ⟨p1, c1, p2, c2, rfl, by
    have M9 := M.sub [1, 2] (by decide)
    simp only [List.filterMap_cons, List.filterMap_nil, List.getElem?_cons_succ, List.getElem?_cons_zero] at M9
    exact M9⟩

/-- The number of a law. -/
noncomputable def lwCode (n : Int) (t : Nat → Nat → Nat) (k : Int) : Int := if isLp n t = true then (if 0 ≤ k ∧ k ≤ 19 then 0 else 2) else 1
set_option maxRecDepth 100000 in
theorem l07Number_any (k : Int) (b : Bool) (hb : b = true ↔ 0 ≤ k ∧ k ≤ 19) (w : World) : Calls Tryd.prog 40 #[.int .i64 k] w fun e w' => e = .returned (.bool b) ∧ w = w' := by
  have H := fun w1 => l01In_b k 0 19 b hb w1
  clear hb
  go_enter Tryd.func40, Tryd.ntmps40
  go_wp2_with (first | (go_at_call 55; ((with_reducible refine (H _).mono ?_); rintro e w1 ⟨rfl, rfl⟩)))
  go_ret
  exact ⟨rfl, rfl⟩
set_option maxRecDepth 100000 in
theorem isLaw_any (k : Int) (b : Bool) (hb : b = true ↔ 0 ≤ k ∧ k ≤ 19) (w : World) : Calls Tryd.prog 45 #[.int .i64 k] w fun e w' => e = .returned (.bool b) ∧ w = w' := by
  have H := fun w1 => within_b k 0 19 b hb w1
  clear hb
  go_enter Tryd.func45, Tryd.ntmps45
  go_wp2_with (first | (go_at_call 58; ((with_reducible refine (H _).mono ?_); rintro e w1 ⟨rfl, rfl⟩)))
  go_ret
  exact ⟨rfl, rfl⟩
set_option maxRecDepth 100000 in
set_option maxHeartbeats 1000000 in
theorem l07Code_any (n : Int) (t : Nat → Nat → Nat) (hby : Byt2 t) (k : Int) (w : World) : Calls Tryd.prog 25 #[.agg (sqs n t), .int .i64 k] w fun e w' => e = .returned (.int .i64 (lwCode n t k)) ∧ Below w.heap.size w w' := by
  have M := Mm.start no w
  have H1 := fun w1 => l01Loop_any n t w1 hby
  have H2 := fun w1 => l07Number_any k (decide (0 ≤ k ∧ k ≤ 19)) (by simp) w1
  unfold lwCode
  cases hl : isLp n t with
  | false =>
    rw [if_neg Bool.false_ne_true]
    rw [hl] at H1
    clear hby hl
    go_enter Tryd.func25, Tryd.ntmps25
    go_wp2_with (first | ((with_reducible apply wpM_box' M 31 (sqs n t)); rfl; exact ⟨rfl, rfl⟩; clear M; (try clear C); intro bq w9 h_bq M; have C := M.ruleAll; simp only [Go.Proofs.YtpmemoabkbmljaaDoor.ruleAll] at C) | ((with_reducible apply wpM_lda' M 0 31 0 (sqs n t)); rfl; rfl; rfl; exact ⟨rfl, inf_sqs.trans (congrArg some (sqs_size ..).symm), _, und_sqs, rfl⟩; exact whole_of rfl) | (go_at_call 19; ((with_reducible refine (H1 _).mono ?_); rintro e w1 ⟨rfl, hb⟩; have hsz := M.size; (try (have G9 := G.later hb; clear G; have G := G9; clear G9)); have M9 := M.later hb; clear M; (try clear C); have M := M9; clear M9; have C := M.ruleAll; simp only [Go.Proofs.YtpmemoabkbmljaaDoor.ruleAll] at C)))
    go_ret
    exact ⟨rfl, M.below⟩
  | true =>
    rw [if_pos rfl]
    rw [hl] at H1
    clear hby hl
    by_cases h : 0 ≤ k ∧ k ≤ 19
    · rw [if_pos h]
      rw [decide_eq_true h] at H2
      clear h
      go_enter Tryd.func25, Tryd.ntmps25
      go_wp2_with (first | ((with_reducible apply wpM_box' M 31 (sqs n t)); rfl; exact ⟨rfl, rfl⟩; clear M; (try clear C); intro bq w9 h_bq M; have C := M.ruleAll; simp only [Go.Proofs.YtpmemoabkbmljaaDoor.ruleAll] at C) | ((with_reducible apply wpM_lda' M 0 31 0 (sqs n t)); rfl; rfl; rfl; exact ⟨rfl, inf_sqs.trans (congrArg some (sqs_size ..).symm), _, und_sqs, rfl⟩; exact whole_of rfl) | (go_at_call 19; ((with_reducible refine (H1 _).mono ?_); rintro e w1 ⟨rfl, hb⟩; have hsz := M.size; (try (have G9 := G.later hb; clear G; have G := G9; clear G9)); have M9 := M.later hb; clear M; (try clear C); have M := M9; clear M9; have C := M.ruleAll; simp only [Go.Proofs.YtpmemoabkbmljaaDoor.ruleAll] at C)) | (go_at_call 40; ((with_reducible refine (H2 _).mono ?_); rintro e w1 ⟨rfl, rfl⟩)))
      go_ret
      exact ⟨rfl, M.below⟩
    · rw [if_neg h]
      rw [decide_eq_false h] at H2
      clear h
      go_enter Tryd.func25, Tryd.ntmps25
      go_wp2_with (first | ((with_reducible apply wpM_box' M 31 (sqs n t)); rfl; exact ⟨rfl, rfl⟩; clear M; (try clear C); intro bq w9 h_bq M; have C := M.ruleAll; simp only [Go.Proofs.YtpmemoabkbmljaaDoor.ruleAll] at C) | ((with_reducible apply wpM_lda' M 0 31 0 (sqs n t)); rfl; rfl; rfl; exact ⟨rfl, inf_sqs.trans (congrArg some (sqs_size ..).symm), _, und_sqs, rfl⟩; exact whole_of rfl) | (go_at_call 19; ((with_reducible refine (H1 _).mono ?_); rintro e w1 ⟨rfl, hb⟩; have hsz := M.size; (try (have G9 := G.later hb; clear G; have G := G9; clear G9)); have M9 := M.later hb; clear M; (try clear C); have M := M9; clear M9; have C := M.ruleAll; simp only [Go.Proofs.YtpmemoabkbmljaaDoor.ruleAll] at C)) | (go_at_call 40; ((with_reducible refine (H2 _).mono ?_); rintro e w1 ⟨rfl, rfl⟩)))
      go_ret
      exact ⟨rfl, M.below⟩
set_option maxRecDepth 100000 in
set_option maxHeartbeats 1000000 in
theorem lawCode_any (n : Int) (t : Nat → Nat → Nat) (hby : Byt2 t) (k : Int) (w : World) : Calls Tryd.prog 28 #[.agg (sqs n t), .int .i64 k] w fun e w' => e = .returned (.int .i64 (lwCode n t k)) ∧ Below w.heap.size w w' := by
  have M := Mm.start no w
  have H1 := fun w1 => isLoop_any n t w1 hby
  have H2 := fun w1 => isLaw_any k (decide (0 ≤ k ∧ k ≤ 19)) (by simp) w1
  unfold lwCode
  cases hl : isLp n t with
  | false =>
    rw [if_neg Bool.false_ne_true]
    rw [hl] at H1
    clear hby hl
    go_enter Tryd.func28, Tryd.ntmps28
    go_wp2_with (first | ((with_reducible apply wpM_box' M 31 (sqs n t)); rfl; exact ⟨rfl, rfl⟩; clear M; (try clear C); intro bq w9 h_bq M; have C := M.ruleAll; simp only [Go.Proofs.YtpmemoabkbmljaaDoor.ruleAll] at C) | ((with_reducible apply wpM_lda' M 0 31 0 (sqs n t)); rfl; rfl; rfl; exact ⟨rfl, inf_sqs.trans (congrArg some (sqs_size ..).symm), _, und_sqs, rfl⟩; exact whole_of rfl) | (go_at_call 22; ((with_reducible refine (H1 _).mono ?_); rintro e w1 ⟨rfl, hb⟩; have hsz := M.size; (try (have G9 := G.later hb; clear G; have G := G9; clear G9)); have M9 := M.later hb; clear M; (try clear C); have M := M9; clear M9; have C := M.ruleAll; simp only [Go.Proofs.YtpmemoabkbmljaaDoor.ruleAll] at C)))
    go_ret
    exact ⟨rfl, M.below⟩
  | true =>
    rw [if_pos rfl]
    rw [hl] at H1
    clear hby hl
    by_cases h : 0 ≤ k ∧ k ≤ 19
    · rw [if_pos h]
      rw [decide_eq_true h] at H2
      clear h
      go_enter Tryd.func28, Tryd.ntmps28
      go_wp2_with (first | ((with_reducible apply wpM_box' M 31 (sqs n t)); rfl; exact ⟨rfl, rfl⟩; clear M; (try clear C); intro bq w9 h_bq M; have C := M.ruleAll; simp only [Go.Proofs.YtpmemoabkbmljaaDoor.ruleAll] at C) | ((with_reducible apply wpM_lda' M 0 31 0 (sqs n t)); rfl; rfl; rfl; exact ⟨rfl, inf_sqs.trans (congrArg some (sqs_size ..).symm), _, und_sqs, rfl⟩; exact whole_of rfl) | (go_at_call 22; ((with_reducible refine (H1 _).mono ?_); rintro e w1 ⟨rfl, hb⟩; have hsz := M.size; (try (have G9 := G.later hb; clear G; have G := G9; clear G9)); have M9 := M.later hb; clear M; (try clear C); have M := M9; clear M9; have C := M.ruleAll; simp only [Go.Proofs.YtpmemoabkbmljaaDoor.ruleAll] at C)) | (go_at_call 45; ((with_reducible refine (H2 _).mono ?_); rintro e w1 ⟨rfl, rfl⟩)))
      go_ret
      exact ⟨rfl, M.below⟩
    · rw [if_neg h]
      rw [decide_eq_false h] at H2
      clear h
      go_enter Tryd.func28, Tryd.ntmps28
      go_wp2_with (first | ((with_reducible apply wpM_box' M 31 (sqs n t)); rfl; exact ⟨rfl, rfl⟩; clear M; (try clear C); intro bq w9 h_bq M; have C := M.ruleAll; simp only [Go.Proofs.YtpmemoabkbmljaaDoor.ruleAll] at C) | ((with_reducible apply wpM_lda' M 0 31 0 (sqs n t)); rfl; rfl; rfl; exact ⟨rfl, inf_sqs.trans (congrArg some (sqs_size ..).symm), _, und_sqs, rfl⟩; exact whole_of rfl) | (go_at_call 22; ((with_reducible refine (H1 _).mono ?_); rintro e w1 ⟨rfl, hb⟩; have hsz := M.size; (try (have G9 := G.later hb; clear G; have G := G9; clear G9)); have M9 := M.later hb; clear M; (try clear C); have M := M9; clear M9; have C := M.ruleAll; simp only [Go.Proofs.YtpmemoabkbmljaaDoor.ruleAll] at C)) | (go_at_call 45; ((with_reducible refine (H2 _).mono ?_); rintro e w1 ⟨rfl, rfl⟩)))
      go_ret
      exact ⟨rfl, M.below⟩

/-! ### What the search hands back, as a row -/
def ffOut (o : Option (Nat × Nat × Nat)) : List Int := match o with | none => [] | some (x, y, z) => [(x : Int), (y : Int), (z : Int)]
theorem ff_len (o : Option (Nat × Nat × Nat)) : (ffOut o).length ≤ 3 := by rcases o with _ | ⟨x, y, z⟩ <;> simp [ffOut]
theorem fails2_any (n : Nat) (t : Nat → Nat → Nat) (hs : IsSq (n : Int) t) (xs ys : List Nat) (hX : isTm (elB xs) xs.length = true) (hY : isTm (elB ys) ys.length = true) (w : World) (p1 p2 : Option Addr) (c1 c2 : Nat) (r1 : rdq w p1 xs.length (bytF xs)) (r2 : rdq w p2 ys.length (bytF ys)) :
    Calls Tryd.prog 29 #[.agg (sqs n t), .agg (idV p1 c1 p2 c2 xs.length ys.length)] w fun e w' =>
      ∃ v, e = .returned (.tuple #[v, .bool (!holdsB n t xs ys)]) ∧ Mm no w w' [.row w.heap.size v (ffOut (fst3 (neB t (elB xs) xs.length (elB ys) ys.length) n n n)).length (i64s (ffOut (fst3 (neB t (elB xs) xs.length (elB ys) ys.length) n n n))) 2 1] := by
  refine (fails_any n t hs xs ys hX hY w p1 p2 c1 c2 r1 r2).mono ?_
  unfold holdsB
  rcases fst3 (neB t (elB xs) xs.length (elB ys) ys.length) n n n with _ | ⟨x, y, z⟩
  · rintro e w' ⟨rfl, hb⟩
    exact ⟨_, rfl, ((Mm.start no w).later hb).nilRow w.heap.size 2 1⟩
  · rintro e w' ⟨g, rfl, hg, M⟩
    exact ⟨_, rfl, M.asRow 0 rfl w.heap.size 3 1 hg rfl (by decide)⟩
theorem l03Fails2_any (n : Nat) (t : Nat → Nat → Nat) (hs : IsSq (n : Int) t) (xs ys : List Nat) (hX : isTm (elB xs) xs.length = true) (hY : isTm (elB ys) ys.length = true) (w : World) (p1 p2 : Option Addr) (c1 c2 : Nat) (r1 : rdq w p1 xs.length (bytF xs)) (r2 : rdq w p2 ys.length (bytF ys)) :
    Calls Tryd.prog 26 #[.agg (sqs n t), .agg (idV p1 c1 p2 c2 xs.length ys.length)] w fun e w' =>
      ∃ v, e = .returned v ∧ Mm no w w' [.row w.heap.size v (ffOut (fst3 (neB t (elB xs) xs.length (elB ys) ys.length) n n n)).length (i64s (ffOut (fst3 (neB t (elB xs) xs.length (elB ys) ys.length) n n n))) 2 1] := by
  refine (l03Fails_any n t hs xs ys hX hY w p1 p2 c1 c2 r1 r2).mono ?_
  rcases fst3 (neB t (elB xs) xs.length (elB ys) ys.length) n n n with _ | ⟨x, y, z⟩
  · rintro e w' ⟨rfl, hb⟩
    exact ⟨_, rfl, ((Mm.start no w).later hb).nilRow w.heap.size 2 1⟩
  · rintro e w' ⟨g, rfl, hg, M⟩
    exact ⟨_, rfl, M.asRow 0 rfl w.heap.size 3 1 hg rfl (by decide)⟩
end Go.Proofs.YtpmemoabkbmljaaDoor
