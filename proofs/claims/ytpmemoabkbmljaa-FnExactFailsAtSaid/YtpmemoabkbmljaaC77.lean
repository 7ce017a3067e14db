/- The law on FailsAt: its walk. -/
import Derived.Test.YtpmemoabkbmljaaC76
import Derived.Test.YtpmemoabkbmljaaK17
namespace Go.Proofs.Ytpmemoabkbmljaa
set_option linter.unusedSimpArgs false
set_option linter.unusedVariables false
open Go Go.RowKit

theorem und_id0 : Try.prog.underlying 28 = some (.struct (Try.prog.fieldsOf 28)) := by kernel_rfl
theorem inf_id0 : (Try.prog.info? 28).map (·.size) = some 2 := by kernel_rfl
theorem und_sq0 : Try.prog.underlying 25 = some (.struct (Try.prog.fieldsOf 25)) := by kernel_rfl
theorem inf_sq0 : (Try.prog.info? 25).map (·.size) = some 101 := by kernel_rfl
theorem Mm.join2 {D : Nat → Prop} {w0 w w' : World} {L : List Ent} {x y : Ent} (M : Mm D w0 w L) (M' : Mm no w w' [x, y]) (hn : ∀ z ∈ [x, y], ∀ b, z.place b → w.heap.size ≤ b) : Mm D w0 w' (x :: y :: L) := M.join M' hn
theorem new_row {w w' : World} {v : Value} {n : Nat} {xs : List Value} {e size : Nat} (M : Mm no w w' [.row w.heap.size v n xs e size]) : ∀ x ∈ [Ent.row w.heap.size v n xs e size], ∀ b, x.place b → w.heap.size ≤ b := fun x hx b hb => by
  simp only [List.mem_singleton] at hx; subst hx
  exact (World.ownsRow.lt (M.row 0 rfl) b hb).1
/-- Two new boxes that a call has written to are no longer told of. -/
theorem Mm.lose2 {w0 w w' : World} {g1 g2 t1 t2 : Nat} {cs1 cs2 : Array Value} {L : List Ent} (M : Mm no w0 w (.box g1 cs1 t1 :: .box g2 cs2 t2 :: L)) (h1 : w0.heap.size ≤ g1) (h2 : w0.heap.size ≤ g2) (hk : Kept (fun b => b = g1 ∨ b = g2) w w') : Mm no w0 w' L := by
  refine (Mm.suffix (Lg := [_, _]) M).go hk (fun k hk hE => ?_) fun x hx b hb hE => ?_
  · rcases hE with rfl | rfl <;> omega
  · obtain ⟨i, hi⟩ := List.getElem?_of_mem hx
    rcases hE with rfl | rfl
    · exact M.dist 0 (i + 2) _ x rfl (by simpa using hi) (by omega) b rfl hb
    · exact M.dist 1 (i + 2) _ x rfl (by simpa using hi) (by omega) b rfl hb
/-- A row that is ours is written by a call. -/
theorem Mm.rowmark {w0 w w' : World} {L : List Ent} (M : Mm no w0 w L) (i : Nat) {B : Nat} {v : Value} {n : Nat} {xs ys : List Value} {e size : Nat} (hi : L[i]? = some (.row B v n xs e size)) (hB : w0.heap.size ≤ B) (hk : Kept (fun b => v.ownBlock = some b) w w') (h : w'.ownsRow B e size v n ys) : Mm no w0 w' (L.set i (.row B v n ys e size)) :=
  M.set i hi hk (fun _ h => h) (fun k hk h => by have := (World.ownsRow.lt (M.row i hi) k h).1; omega) h fun _ h => .inl h
theorem fa_rdq {w : World} {B n c : Nat} {p : Option Addr} {out : List Int} (hn : n = out.length) (h : w.ownsRow B 2 1 (.slice p n c) n (i64s out)) : rdq w p out.length (intF out) := by
  subst hn
  obtain ⟨p', c', e, hr⟩ := fa_read h
  cases e
  exact hr
theorem mk_rdq {w : World} {B n c : Nat} {p : Option Addr} {k : Int} (h : w.ownsRow B 2 1 (.slice p n c) n (mkV k n)) : rdq w p n (fun j => .int .i64 (k + (j : Int))) := by
  have hr := rdq_of_own h
  rw [Nat.mul_one] at hr
  exact hr.congr fun j hj => by rw [List.getD_eq_getElem?_getD, mkV_get hj]; rfl
/-- A new identity that floats. -/
def StId (xs ys : List Nat) : List Value → List Ent → Prop
  | [], Lg => Lg = []
  | v :: _, Lg => ∃ i1 i2 cs1 cs2, v = .agg (idV (some ⟨i1, 0, none⟩) xs.length (some ⟨i2, 0, none⟩) ys.length xs.length ys.length) ∧ bytC xs cs1 ∧ bytC ys cs2 ∧ Lg = [.box i1 cs1 5, .box i2 cs2 5]

def fa5R : Nat → List Nat
  | 0 => []
  | 1 => [0]
  | 2 => []
  | 3 => [0, 1, 2]
  | 4 => [0, 1, 2, 3]
  | 5 => [0, 1, 2, 3, 4]
  | 6 => [0, 1, 2, 3, 4, 5]
  | 7 => [0, 1, 2, 3, 4, 5]
  | 8 => [0, 1, 2, 3, 4, 5, 6]
  | 9 => [0, 1, 2, 3, 4, 5, 6, 7, 8]
  | _ => []
def fa5P (n : Int) (t : Nat → Nat → Nat) (xs ys : List Nat) (p1 p2 : Option Addr) (c1 c2 : Nat) (B0 : Nat) : Nat → (Nat → Bool) → (Nat → Value) → List Ent → Prop
  | 0, _, g, E => g 0 = .agg (sqs n t) ∧ E = []
  | 1, _, g, E => g 1 = .agg (sqs n t) ∧ E = []
  | 2, _, g, E => g 2 = .agg (idV p1 c1 p2 c2 xs.length ys.length) ∧ E = []
  | 3, _, g, E => ∃ i1 i2 cs1 cs2, g 3 = .agg (idV (some ⟨i1, 0, none⟩) xs.length (some ⟨i2, 0, none⟩) ys.length xs.length ys.length) ∧ B0 ≤ i1 ∧ B0 ≤ i2 ∧ bytC xs cs1 ∧ bytC ys cs2 ∧ E = [.box i1 cs1 5, .box i2 cs2 5]
  | 4, _, g, E => ∃ vr B, g 4 = .tuple #[vr, .int .i64 (faCode n t xs ys)] ∧ B0 ≤ B ∧ E = [.row B vr (faOut n t xs ys).length (i64s (faOut n t xs ys)) 2 1]
  | 5, _, g, E => ∃ vr, g 4 = .tuple #[vr, .int .i64 (faCode n t xs ys)] ∧ g 5 = .tuple #[vr, .int .i64 (faCode n t xs ys)] ∧ E = []
  | 6, _, g, E => ∃ vr, g 4 = .tuple #[vr, .int .i64 (faCode n t xs ys)] ∧ g 6 = vr ∧ E = []
  | 7, _, g, E => g 7 = .int .i64 (faCode n t xs ys) ∧ E = []
  | 8, _, g, E => ∃ vr, g 4 = .tuple #[vr, .int .i64 (faCode n t xs ys)] ∧ g 8 = vr ∧ E = []
  | 9, _, g, E => g 9 = .int .i64 (faCode n t xs ys) ∧ E = []
  | _, _, _, _ => False
theorem fa5S (n : Int) (t : Nat → Nat → Nat) (xs ys : List Nat) (p1 p2 : Option Addr) (c1 c2 : Nat) (B0 : Nat) : Stable (fa5P n t xs ys p1 p2 c1 c2 B0) fa5R (fun _ => []) := fun i k D g u E hki hkR _ h => by
  match i with
  | 0 =>
    have e0 : updG g k u 0 = g 0 := updG_ne (g := g) (u := u) (Ne.symm hki)
    simp only [fa5P, e0]; exact h
  | 1 =>
    have e1 : updG g k u 1 = g 1 := updG_ne (g := g) (u := u) (Ne.symm hki)
    simp only [fa5P, e1]; exact h
  | 2 =>
    have e2 : updG g k u 2 = g 2 := updG_ne (g := g) (u := u) (Ne.symm hki)
    simp only [fa5P, e2]; exact h
  | 3 =>
    have e3 : updG g k u 3 = g 3 := updG_ne (g := g) (u := u) (Ne.symm hki)
    simp only [fa5P, e3]; exact h
  | 4 =>
    have e4 : updG g k u 4 = g 4 := updG_ne (g := g) (u := u) (Ne.symm hki)
    simp only [fa5P, e4]; exact h
  | 5 =>
    have e4 : updG g k u 4 = g 4 := updG_ne (g := g) (u := u) (i := k) (j := 4) (fun e => hkR (by rw [← e]; decide))
    have e5 : updG g k u 5 = g 5 := updG_ne (g := g) (u := u) (Ne.symm hki)
    simp only [fa5P, e4, e5]; exact h
  | 6 =>
    have e4 : updG g k u 4 = g 4 := updG_ne (g := g) (u := u) (i := k) (j := 4) (fun e => hkR (by rw [← e]; decide))
    have e6 : updG g k u 6 = g 6 := updG_ne (g := g) (u := u) (Ne.symm hki)
    simp only [fa5P, e4, e6]; exact h
  | 7 =>
    have e7 : updG g k u 7 = g 7 := updG_ne (g := g) (u := u) (Ne.symm hki)
    simp only [fa5P, e7]; exact h
  | 8 =>
    have e4 : updG g k u 4 = g 4 := updG_ne (g := g) (u := u) (i := k) (j := 4) (fun e => hkR (by rw [← e]; decide))
    have e8 : updG g k u 8 = g 8 := updG_ne (g := g) (u := u) (Ne.symm hki)
    simp only [fa5P, e4, e8]; exact h
  | 9 =>
    have e9 : updG g k u 9 = g 9 := updG_ne (g := g) (u := u) (Ne.symm hki)
    simp only [fa5P, e9]; exact h
  | n + 10 => exact h.elim

def fa7R : Nat → List Nat
  | 0 => []
  | 1 => [0]
  | 2 => []
  | 3 => [0, 1, 2]
  | 4 => [0, 1, 2, 3]
  | 5 => [0, 1, 2, 3, 4]
  | 6 => [0, 1, 2, 3, 4]
  | 7 => [0, 1, 2, 3, 4, 5]
  | 8 => [0, 1, 2, 3, 4, 5, 6, 7]
  | _ => []
def fa7P (n : Int) (t : Nat → Nat → Nat) (xs ys : List Nat) (p1 p2 : Option Addr) (c1 c2 : Nat) (B0 : Nat) (x1 x2 : Nat) : Nat → (Nat → Bool) → (Nat → Value) → List Ent → Prop
  | 0, _, g, E => g 0 = .agg (sqs n t) ∧ E = []
  | 1, _, g, E => g 1 = .agg (sqs n t) ∧ E = []
  | 2, _, g, E => g 2 = .agg (idV (some ⟨x1, 0, none⟩) xs.length (some ⟨x2, 0, none⟩) ys.length xs.length ys.length) ∧ E = []
  | 3, _, g, E => ∃ vr B, g 3 = .tuple #[vr, .int .i64 (faCode n t xs ys)] ∧ B0 ≤ B ∧ E = [.row B vr (faOut n t xs ys).length (i64s (faOut n t xs ys)) 2 1]
  | 4, _, g, E => ∃ vr, g 3 = .tuple #[vr, .int .i64 (faCode n t xs ys)] ∧ g 4 = .tuple #[vr, .int .i64 (faCode n t xs ys)] ∧ E = []
  | 5, _, g, E => ∃ vr, g 3 = .tuple #[vr, .int .i64 (faCode n t xs ys)] ∧ g 5 = vr ∧ E = []
  | 6, _, g, E => g 6 = .int .i64 (faCode n t xs ys) ∧ E = []
  | 7, _, g, E => ∃ vr, g 3 = .tuple #[vr, .int .i64 (faCode n t xs ys)] ∧ g 7 = vr ∧ E = []
  | 8, _, g, E => g 8 = .int .i64 (faCode n t xs ys) ∧ E = []
  | _, _, _, _ => False
theorem fa7S (n : Int) (t : Nat → Nat → Nat) (xs ys : List Nat) (p1 p2 : Option Addr) (c1 c2 : Nat) (B0 : Nat) (x1 x2 : Nat) : Stable (fa7P n t xs ys p1 p2 c1 c2 B0 x1 x2) fa7R (fun _ => []) := fun i k D g u E hki hkR _ h => by
  match i with
  | 0 =>
    have e0 : updG g k u 0 = g 0 := updG_ne (g := g) (u := u) (Ne.symm hki)
    simp only [fa7P, e0]; exact h
  | 1 =>
    have e1 : updG g k u 1 = g 1 := updG_ne (g := g) (u := u) (Ne.symm hki)
    simp only [fa7P, e1]; exact h
  | 2 =>
    have e2 : updG g k u 2 = g 2 := updG_ne (g := g) (u := u) (Ne.symm hki)
    simp only [fa7P, e2]; exact h
  | 3 =>
    have e3 : updG g k u 3 = g 3 := updG_ne (g := g) (u := u) (Ne.symm hki)
    simp only [fa7P, e3]; exact h
  | 4 =>
    have e3 : updG g k u 3 = g 3 := updG_ne (g := g) (u := u) (i := k) (j := 3) (fun e => hkR (by rw [← e]; decide))
    have e4 : updG g k u 4 = g 4 := updG_ne (g := g) (u := u) (Ne.symm hki)
    simp only [fa7P, e3, e4]; exact h
  | 5 =>
    have e3 : updG g k u 3 = g 3 := updG_ne (g := g) (u := u) (i := k) (j := 3) (fun e => hkR (by rw [← e]; decide))
    have e5 : updG g k u 5 = g 5 := updG_ne (g := g) (u := u) (Ne.symm hki)
    simp only [fa7P, e3, e5]; exact h
  | 6 =>
    have e6 : updG g k u 6 = g 6 := updG_ne (g := g) (u := u) (Ne.symm hki)
    simp only [fa7P, e6]; exact h
  | 7 =>
    have e3 : updG g k u 3 = g 3 := updG_ne (g := g) (u := u) (i := k) (j := 3) (fun e => hkR (by rw [← e]; decide))
    have e7 : updG g k u 7 = g 7 := updG_ne (g := g) (u := u) (Ne.symm hki)
    simp only [fa7P, e3, e7]; exact h
  | 8 =>
    have e8 : updG g k u 8 = g 8 := updG_ne (g := g) (u := u) (Ne.symm hki)
    simp only [fa7P, e8]; exact h
  | n + 9 => exact h.elim

def fa24R : Nat → List Nat
  | 0 => []
  | 1 => [0]
  | 2 => []
  | 3 => [0, 1, 2]
  | 4 => [0, 1, 2, 3]
  | 5 => [0, 1, 2, 3, 4]
  | 6 => [0, 1, 2, 3, 4, 5]
  | 7 => [0, 1, 2, 3, 4, 5]
  | 8 => [0, 1, 2, 3, 4, 5, 6]
  | 9 => [0, 1, 2, 3, 4, 5, 6, 7, 8]
  | _ => []
def fa24P (n : Int) (t : Nat → Nat → Nat) (xs ys : List Nat) (p1 p2 : Option Addr) (c1 c2 : Nat) (B0 : Nat) : Nat → (Nat → Bool) → (Nat → Value) → List Ent → Prop
  | 0, _, g, E => g 0 = .agg (sqs n t) ∧ E = []
  | 1, _, g, E => g 1 = .agg (sqs n t) ∧ E = []
  | 2, _, g, E => g 2 = .agg (idV p1 c1 p2 c2 xs.length ys.length) ∧ E = []
  | 3, _, g, E => ∃ i1 i2 cs1 cs2, g 3 = .agg (idV (some ⟨i1, 0, none⟩) xs.length (some ⟨i2, 0, none⟩) ys.length xs.length ys.length) ∧ B0 ≤ i1 ∧ B0 ≤ i2 ∧ bytC xs cs1 ∧ bytC ys cs2 ∧ E = [.box i1 cs1 5, .box i2 cs2 5]
  | 4, _, g, E => ∃ vr B, g 4 = .tuple #[vr, .int .i64 (faCode n t xs ys)] ∧ B0 ≤ B ∧ E = [.row B vr (faOut n t xs ys).length (i64s (faOut n t xs ys)) 2 1]
  | 5, _, g, E => ∃ vr, g 4 = .tuple #[vr, .int .i64 (faCode n t xs ys)] ∧ g 5 = .tuple #[vr, .int .i64 (faCode n t xs ys)] ∧ E = []
  | 6, _, g, E => ∃ vr, g 4 = .tuple #[vr, .int .i64 (faCode n t xs ys)] ∧ g 6 = vr ∧ E = []
  | 7, _, g, E => g 7 = .int .i64 (faCode n t xs ys) ∧ E = []
  | 8, _, g, E => ∃ vr, g 4 = .tuple #[vr, .int .i64 (faCode n t xs ys)] ∧ g 8 = vr ∧ E = []
  | 9, _, g, E => g 9 = .int .i64 (faCode n t xs ys) ∧ E = []
  | _, _, _, _ => False
theorem fa24S (n : Int) (t : Nat → Nat → Nat) (xs ys : List Nat) (p1 p2 : Option Addr) (c1 c2 : Nat) (B0 : Nat) : Stable (fa24P n t xs ys p1 p2 c1 c2 B0) fa24R (fun _ => []) := fun i k D g u E hki hkR _ h => by
  match i with
  | 0 =>
    have e0 : updG g k u 0 = g 0 := updG_ne (g := g) (u := u) (Ne.symm hki)
    simp only [fa24P, e0]; exact h
  | 1 =>
    have e1 : updG g k u 1 = g 1 := updG_ne (g := g) (u := u) (Ne.symm hki)
    simp only [fa24P, e1]; exact h
  | 2 =>
    have e2 : updG g k u 2 = g 2 := updG_ne (g := g) (u := u) (Ne.symm hki)
    simp only [fa24P, e2]; exact h
  | 3 =>
    have e3 : updG g k u 3 = g 3 := updG_ne (g := g) (u := u) (Ne.symm hki)
    simp only [fa24P, e3]; exact h
  | 4 =>
    have e4 : updG g k u 4 = g 4 := updG_ne (g := g) (u := u) (Ne.symm hki)
    simp only [fa24P, e4]; exact h
  | 5 =>
    have e4 : updG g k u 4 = g 4 := updG_ne (g := g) (u := u) (i := k) (j := 4) (fun e => hkR (by rw [← e]; decide))
    have e5 : updG g k u 5 = g 5 := updG_ne (g := g) (u := u) (Ne.symm hki)
    simp only [fa24P, e4, e5]; exact h
  | 6 =>
    have e4 : updG g k u 4 = g 4 := updG_ne (g := g) (u := u) (i := k) (j := 4) (fun e => hkR (by rw [← e]; decide))
    have e6 : updG g k u 6 = g 6 := updG_ne (g := g) (u := u) (Ne.symm hki)
    simp only [fa24P, e4, e6]; exact h
  | 7 =>
    have e7 : updG g k u 7 = g 7 := updG_ne (g := g) (u := u) (Ne.symm hki)
    simp only [fa24P, e7]; exact h
  | 8 =>
    have e4 : updG g k u 4 = g 4 := updG_ne (g := g) (u := u) (i := k) (j := 4) (fun e => hkR (by rw [← e]; decide))
    have e8 : updG g k u 8 = g 8 := updG_ne (g := g) (u := u) (Ne.symm hki)
    simp only [fa24P, e4, e8]; exact h
  | 9 =>
    have e9 : updG g k u 9 = g 9 := updG_ne (g := g) (u := u) (Ne.symm hki)
    simp only [fa24P, e9]; exact h
  | n + 10 => exact h.elim


set_option maxRecDepth 100000 in
set_option maxHeartbeats 4000000 in
theorem lawFailsAt_any (n : Int) (t : Nat → Nat → Nat) (hby : Byt2 t) (xs ys : List Nat) (h1 : xs.length ≤ maxLen) (h2 : ys.length ≤ maxLen) (w : World) (p1 p2 : Option Addr) (c1 c2 : Nat) (r1 : rdp w p1 xs.length (bytF xs)) (r2 : rdp w p2 ys.length (bytF ys)) :
    Calls Try.prog 3 #[.agg (sqs n t), .agg (idV p1 c1 p2 c2 xs.length ys.length)] w fun e w' => e = .returned (.bool true) ∧ Below w.heap.size w w' := by
  have M := Mm.start no w
  have HS := fun w1 => szIdentity_any xs.length ys.length (Nat.le_trans h1 (by decide)) (Nat.le_trans h2 (by decide)) w1 p1 p2 c1 c2 1048576 (by omega) (by omega)
  have R1 := Hid2.mk (fun w1 (hb : Below w.heap.size w w1) => r1.later hb)
  have R2 := Hid2.mk (fun w1 (hb : Below w.heap.size w w1) => r2.later hb)
  have HBY := Hid2.mk hby
  clear r1 r2 hby h1 h2
  go_enter Try.func3, Try.ntmps3
  go_wp2_with (first | ((with_reducible apply wpM_box' M 28 (idV p1 c1 p2 c2 xs.length ys.length)); rfl; exact ⟨rfl, rfl⟩; clear M; (try clear C); intro bi w9 h_bi M; have C := M.ruleAll; simp only [Go.Proofs.Ytpmemoabkbmljaa.ruleAll] at C) | ((with_reducible apply wpM_box' M 25 (sqs n t)); rfl; exact ⟨rfl, rfl⟩; clear M; (try clear C); intro bq w9 h_bq M; have C := M.ruleAll; simp only [Go.Proofs.Ytpmemoabkbmljaa.ruleAll] at C) | ((with_reducible apply wpM_lda' M 0 28 0 (idV p1 c1 p2 c2 xs.length ys.length)); rfl; rfl; rfl; exact ⟨rfl, inf_id0.trans (congrArg some (idv_size ..).symm), _, und_id0, rfl⟩; exact whole_of rfl) | (go_at_call 5; fail))
  refine (HS _).mono ?_
  rintro e w1 ⟨r, rfl, hr, hb⟩
  have M9 := M.later hb
  clear M; (try clear C)
  have M := M9
  clear M9 hb
  have C := M.ruleAll; simp only [Go.Proofs.Ytpmemoabkbmljaa.ruleAll] at C
  clear HS
  by_cases hneg : r < 0
  · go_wp2
    go_ret
    exact ⟨rfl, M.below⟩
  · obtain ⟨_, q1, q2⟩ := hr (by omega)
    have l1 : xs.length ≤ 1048576 := by omega
    have l2 : ys.length ≤ 1048576 := by omega
    clear hr q1 q2
    have HTI := Hid2.mk (fun w1 (hb : Below w.heap.size w w1) => toIdentity_any xs ys l1 l2 w1 p1 p2 c1 c2 (R1.out w1 hb) (R2.out w1 hb))
    have HTQ := Hid2.mk (fun w1 => toSquare_any n t w1)
    have HSP := Hid2.mk (fun w1 a1 a2 d1 d2 => specFailsAt_any n t HBY.out xs ys (by omega) (by omega) w1 a1 a2 d1 d2)
    have HIM := Hid2.mk (fun w1 a1 a2 d1 d2 => implFailsAt_any n t HBY.out xs ys (by omega) (by omega) w1 a1 a2 d1 d2)
    have HL := Hid2.mk (And.intro l1 l2)
    clear l1 l2 C
    go_wp2
    refine wp_region_own (GrS 10 (fa5P n t xs ys p1 p2 c1 c2 w.heap.size) fa5R w [.box bq (sqs n t) 25, .box bi (idV p1 c1 p2 c2 xs.length ys.length) 28]) (by kernel_rfl) (by kernel_rfl) (fun _ => undef) (GrS.start (M.sub [1, 0] (by decide)) _) ?hs_fa5 ?hQ_fa5
    case hs_fa5 =>
      clear M
      try clear C
      intro i o hi D g w2 hi0 hpre S
      have hlt : i < 10 := by have := (List.getElem?_eq_some_iff.1 hi).1; simpa using this
      obtain rfl | rfl | rfl | rfl | rfl | rfl | rfl | rfl | rfl | rfl : i = 0 ∨ i = 1 ∨ i = 2 ∨ i = 3 ∨ i = 4 ∨ i = 5 ∨ i = 6 ∨ i = 7 ∨ i = 8 ∨ i = 9 := by omega
      · simp only [List.getElem?_cons_succ, List.getElem?_cons_zero, Option.some.injEq] at hi
        subst hi
        have M := S.base
        refine ⟨⟨#[undef, undef, .pointer (some ⟨bq, 0, none⟩), undef, undef, undef, undef, undef, undef, undef, undef, undef, undef, undef, undef, undef, undef, undef, undef, undef, undef, undef, undef, undef, undef, undef, undef, undef, undef, undef], []⟩, ?_, ?_⟩
        · intro t ht
          have ht' : t ∈ ([2] : List Nat) := ht
          simp only [List.mem_cons, List.not_mem_nil, or_false] at ht'
          subst ht'
          exact rfl
        · have HR : ∀ j ∈ fa5R 0, D j = true := (fun _ h => by cases h)
          have HW : ∀ j, D j = true → 0 ∉ (fun _ => [] : Nat → List Nat) j := fun _ _ h => by cases h
          have hst := fa5S n t xs ys p1 p2 c1 c2 w.heap.size
          have C := M.ruleAll; simp only [Go.Proofs.Ytpmemoabkbmljaa.ruleAll] at C
          refine yield_walk (ops := #[]) rfl rfl (show 22 < 30 by decide) ?_
          go_wp2_with (first | ((with_reducible apply wpM_lda' M 0 25 0 (sqs n t)); rfl; rfl; rfl; exact ⟨rfl, inf_sq0.trans (congrArg some (sqs_size ..).symm), _, und_sq0, rfl⟩; exact whole_of rfl))
          exact S.val (i := 0) hst (by decide) hi0 HR HW (Below.refl _ _) ⟨updG_at .., rfl⟩
      · simp only [List.getElem?_cons_succ, List.getElem?_cons_zero, Option.some.injEq] at hi
        subst hi
        have d0 : D 0 = true := hpre _ (Array.mem_of_getElem? (i := 0) rfl) rfl
        obtain ⟨E, P, M⟩ := S.get [0] (by decide) (by intro j hj; simp only [List.mem_cons, List.not_mem_nil, or_false] at hj; subst hj <;> assumption)
        obtain ⟨e0, E0⟩ : g 0 = .agg (sqs n t) ∧ E 0 = [] := P 0 (by decide)
        simp only [List.flatMap_cons, List.flatMap_nil, List.append_nil, E0, List.cons_append, List.nil_append] at M
        clear P
        refine ⟨⟨#[undef, undef, undef, undef, undef, undef, undef, undef, undef, undef, undef, undef, undef, undef, undef, undef, undef, undef, undef, undef, undef, undef, .agg (sqs n t), undef, undef, undef, undef, undef, undef, undef], []⟩, ?_, ?_⟩
        · intro t ht
          have ht' : t ∈ ([22] : List Nat) := ht
          simp only [List.mem_cons, List.not_mem_nil, or_false] at ht'
          subst ht'
          exact e0.symm
        · have HR : ∀ j ∈ fa5R 1, D j = true := (by intro j hj; have hj' : j ∈ ([0] : List Nat) := hj; simp only [List.mem_cons, List.not_mem_nil, or_false] at hj'; subst hj' <;> assumption)
          have HW : ∀ j, D j = true → 1 ∉ (fun _ => [] : Nat → List Nat) j := fun _ _ h => by cases h
          have hst := fa5S n t xs ys p1 p2 c1 c2 w.heap.size
          have C := M.ruleAll; simp only [Go.Proofs.Ytpmemoabkbmljaa.ruleAll] at C
          refine yield_walk (ops := #[]) rfl rfl (show 23 < 30 by decide) ?_
          go_wp2_with (first | (go_at_call 7; fail))
          refine (HTQ.out _).mono ?_
          rintro e w1 ⟨rfl, hb⟩
          go_wp2
          exact S.val (i := 1) hst (by decide) hi0 HR HW hb ⟨updG_at .., rfl⟩
      · simp only [List.getElem?_cons_succ, List.getElem?_cons_zero, Option.some.injEq] at hi
        subst hi
        have M := S.base
        refine ⟨⟨#[undef, undef, undef, .pointer (some ⟨bi, 0, none⟩), undef, undef, undef, undef, undef, undef, undef, undef, undef, undef, undef, undef, undef, undef, undef, undef, undef, undef, undef, undef, undef, undef, undef, undef, undef, undef], []⟩, ?_, ?_⟩
        · intro t ht
          have ht' : t ∈ ([3] : List Nat) := ht
          simp only [List.mem_cons, List.not_mem_nil, or_false] at ht'
          subst ht'
          exact rfl
        · have HR : ∀ j ∈ fa5R 2, D j = true := (fun _ h => by cases h)
          have HW : ∀ j, D j = true → 2 ∉ (fun _ => [] : Nat → List Nat) j := fun _ _ h => by cases h
          have hst := fa5S n t xs ys p1 p2 c1 c2 w.heap.size
          have C := M.ruleAll; simp only [Go.Proofs.Ytpmemoabkbmljaa.ruleAll] at C
          refine yield_walk (ops := #[]) rfl rfl (show 24 < 30 by decide) ?_
          go_wp2_with (first | ((with_reducible apply wpM_lda' M 1 28 0 (idV p1 c1 p2 c2 xs.length ys.length)); rfl; rfl; rfl; exact ⟨rfl, inf_id0.trans (congrArg some (idv_size ..).symm), _, und_id0, rfl⟩; exact whole_of rfl))
          exact S.val (i := 2) hst (by decide) hi0 HR HW (Below.refl _ _) ⟨updG_at .., rfl⟩
      · simp only [List.getElem?_cons_succ, List.getElem?_cons_zero, Option.some.injEq] at hi
        subst hi
        have d2 : D 2 = true := hpre _ (Array.mem_of_getElem? (i := 0) rfl) rfl
        have d1 : D 1 = true := hpre _ (Array.mem_of_getElem? (i := 1) rfl) rfl
        have d0 : D 0 = true := S.anc 1 d1 0 (show 0 ∈ fa5R 1 by decide)
        obtain ⟨E, P, M⟩ := S.get [2] (by decide) (by intro j hj; simp only [List.mem_cons, List.not_mem_nil, or_false] at hj; subst hj <;> assumption)
        obtain ⟨e2, E2⟩ : g 2 = .agg (idV p1 c1 p2 c2 xs.length ys.length) ∧ E 2 = [] := P 2 (by decide)
        simp only [List.flatMap_cons, List.flatMap_nil, List.append_nil, E2, List.cons_append, List.nil_append] at M
        clear P
        refine ⟨⟨#[undef, undef, undef, undef, undef, undef, undef, undef, undef, undef, undef, undef, undef, undef, undef, undef, undef, undef, undef, undef, undef, undef, undef, undef, .agg (idV p1 c1 p2 c2 xs.length ys.length), undef, undef, undef, undef, undef], []⟩, ?_, ?_⟩
        · intro t ht
          have ht' : t ∈ ([24] : List Nat) := ht
          simp only [List.mem_cons, List.not_mem_nil, or_false] at ht'
          subst ht'
          exact e2.symm
        · have HR : ∀ j ∈ fa5R 3, D j = true := (by intro j hj; have hj' : j ∈ ([0, 1, 2] : List Nat) := hj; simp only [List.mem_cons, List.not_mem_nil, or_false] at hj'; rcases hj' with rfl | rfl | rfl <;> assumption)
          have HW : ∀ j, D j = true → 3 ∉ (fun _ => [] : Nat → List Nat) j := fun _ _ h => by cases h
          have hst := fa5S n t xs ys p1 p2 c1 c2 w.heap.size
          have C := M.ruleAll; simp only [Go.Proofs.Ytpmemoabkbmljaa.ruleAll] at C
          refine yield_walk (ops := #[]) rfl rfl (show 25 < 30 by decide) ?_
          go_wp2_with (first | (go_at_call 8; fail))
          refine (HTI.out _ M.below).mono ?_
          rintro e w1 ⟨v, rfl, i1, i2, cs1, cs2, rfl, hi1, hi2, hs1, hs2, M'⟩
          go_wp2
          exact S.add (i := 3) hst (by decide) hi0 HR HW M' (new_box2 hi1 hi2) ⟨i1, i2, cs1, cs2, updG_at .., Nat.le_trans S.base.size hi1, Nat.le_trans S.base.size hi2, hs1, hs2, rfl⟩
      · simp only [List.getElem?_cons_succ, List.getElem?_cons_zero, Option.some.injEq] at hi
        subst hi
        have d1 : D 1 = true := hpre _ (Array.mem_of_getElem? (i := 0) rfl) rfl
        have d3 : D 3 = true := hpre _ (Array.mem_of_getElem? (i := 1) rfl) rfl
        have d0 : D 0 = true := S.anc 3 d3 0 (show 0 ∈ fa5R 3 by decide)
        have d2 : D 2 = true := S.anc 3 d3 2 (show 2 ∈ fa5R 3 by decide)
        obtain ⟨E, P, M⟩ := S.get [1, 3] (by decide) (by intro j hj; simp only [List.mem_cons, List.not_mem_nil, or_false] at hj; rcases hj with rfl | rfl <;> assumption)
        obtain ⟨e1, E1⟩ : g 1 = .agg (sqs n t) ∧ E 1 = [] := P 1 (by decide)
        obtain ⟨i1, i2, cs1, cs2, e3, hi1, hi2, hs1, hs2, E3⟩ : ∃ i1 i2 cs1 cs2, g 3 = .agg (idV (some ⟨i1, 0, none⟩) xs.length (some ⟨i2, 0, none⟩) ys.length xs.length ys.length) ∧ w.heap.size ≤ i1 ∧ w.heap.size ≤ i2 ∧ bytC xs cs1 ∧ bytC ys cs2 ∧ E 3 = [.box i1 cs1 5, .box i2 cs2 5] := P 3 (by decide)
        simp only [List.flatMap_cons, List.flatMap_nil, List.append_nil, E1, E3, List.cons_append, List.nil_append] at M
        clear P
        refine ⟨⟨#[undef, undef, undef, undef, undef, undef, undef, undef, undef, undef, undef, undef, undef, undef, undef, undef, undef, undef, undef, undef, undef, undef, undef, .agg (sqs n t), undef, .agg (idV (some ⟨i1, 0, none⟩) xs.length (some ⟨i2, 0, none⟩) ys.length xs.length ys.length), undef, undef, undef, undef], []⟩, ?_, ?_⟩
        · intro t ht
          have ht' : t ∈ ([23, 25] : List Nat) := ht
          simp only [List.mem_cons, List.not_mem_nil, or_false] at ht'
          rcases ht' with rfl | rfl
          · exact e1.symm
          · exact e3.symm
        · have HR : ∀ j ∈ fa5R 4, D j = true := (by intro j hj; have hj' : j ∈ ([0, 1, 2, 3] : List Nat) := hj; simp only [List.mem_cons, List.not_mem_nil, or_false] at hj'; rcases hj' with rfl | rfl | rfl | rfl <;> assumption)
          have HW : ∀ j, D j = true → 4 ∉ (fun _ => [] : Nat → List Nat) j := fun _ _ h => by cases h
          have hst := fa5S n t xs ys p1 p2 c1 c2 w.heap.size
          have C := M.ruleAll; simp only [Go.Proofs.Ytpmemoabkbmljaa.ruleAll] at C
          refine yield_walk (ops := #[]) rfl rfl (show 26 < 30 by decide) ?_
          go_wp2_with (first | (go_at_call 6; fail))
          refine (HSP.out _ _ _ _ _ ((M.box 0 rfl).rds hs1.2).rdq ((M.box 1 rfl).rds hs2.2).rdq).mono ?_
          rintro e w1 ⟨vr, rfl, M'⟩
          go_wp2
          exact S.add (i := 4) hst (by decide) hi0 HR HW M' (new_row M') ⟨vr, _, updG_at .., S.base.size, rfl⟩
      · simp only [List.getElem?_cons_succ, List.getElem?_cons_zero, Option.some.injEq] at hi
        subst hi
        have d4 : D 4 = true := hpre _ (Array.mem_of_getElem? (i := 0) rfl) rfl
        have d0 : D 0 = true := S.anc 4 d4 0 (show 0 ∈ fa5R 4 by decide)
        have d1 : D 1 = true := S.anc 4 d4 1 (show 1 ∈ fa5R 4 by decide)
        have d2 : D 2 = true := S.anc 4 d4 2 (show 2 ∈ fa5R 4 by decide)
        have d3 : D 3 = true := S.anc 4 d4 3 (show 3 ∈ fa5R 4 by decide)
        obtain ⟨E, P, M⟩ := S.get [4] (by decide) (by intro j hj; simp only [List.mem_cons, List.not_mem_nil, or_false] at hj; subst hj <;> assumption)
        obtain ⟨vr, B, e4, hB, E4⟩ : ∃ vr B, g 4 = .tuple #[vr, .int .i64 (faCode n t xs ys)] ∧ w.heap.size ≤ B ∧ E 4 = [.row B vr (faOut n t xs ys).length (i64s (faOut n t xs ys)) 2 1] := P 4 (by decide)
        simp only [List.flatMap_cons, List.flatMap_nil, List.append_nil, E4, List.cons_append, List.nil_append] at M
        clear P
        refine ⟨⟨#[undef, undef, undef, undef, undef, undef, undef, undef, undef, undef, undef, undef, undef, undef, undef, undef, undef, undef, undef, undef, undef, undef, undef, undef, undef, undef, .tuple #[vr, .int .i64 (faCode n t xs ys)], undef, undef, undef], []⟩, ?_, ?_⟩
        · intro t ht
          have ht' : t ∈ ([26] : List Nat) := ht
          simp only [List.mem_cons, List.not_mem_nil, or_false] at ht'
          subst ht'
          exact e4.symm
        · have HR : ∀ j ∈ fa5R 5, D j = true := (by intro j hj; have hj' : j ∈ ([0, 1, 2, 3, 4] : List Nat) := hj; simp only [List.mem_cons, List.not_mem_nil, or_false] at hj'; rcases hj' with rfl | rfl | rfl | rfl | rfl <;> assumption)
          have HW : ∀ j, D j = true → 5 ∉ (fun _ => [] : Nat → List Nat) j := fun _ _ h => by cases h
          have hst := fa5S n t xs ys p1 p2 c1 c2 w.heap.size
          have C := M.ruleAll; simp only [Go.Proofs.Ytpmemoabkbmljaa.ruleAll] at C
          refine yield_walk (ops := #[]) rfl rfl (show 21 < 30 by decide) ?_
          go_wp2
          exact S.val (i := 5) hst (by decide) hi0 HR HW (Below.refl _ _) ⟨vr, (updG_ne (by decide)).trans e4, updG_at .., rfl⟩
      · simp only [List.getElem?_cons_succ, List.getElem?_cons_zero, Option.some.injEq] at hi
        subst hi
        have d5 : D 5 = true := hpre _ (Array.mem_of_getElem? (i := 0) rfl) rfl
        have d0 : D 0 = true := S.anc 5 d5 0 (show 0 ∈ fa5R 5 by decide)
        have d1 : D 1 = true := S.anc 5 d5 1 (show 1 ∈ fa5R 5 by decide)
        have d2 : D 2 = true := S.anc 5 d5 2 (show 2 ∈ fa5R 5 by decide)
        have d3 : D 3 = true := S.anc 5 d5 3 (show 3 ∈ fa5R 5 by decide)
        have d4 : D 4 = true := S.anc 5 d5 4 (show 4 ∈ fa5R 5 by decide)
        obtain ⟨E, P, M⟩ := S.get [5] (by decide) (by intro j hj; simp only [List.mem_cons, List.not_mem_nil, or_false] at hj; subst hj <;> assumption)
        obtain ⟨vr, er5, e5, E5⟩ : ∃ vr, g 4 = .tuple #[vr, .int .i64 (faCode n t xs ys)] ∧ g 5 = .tuple #[vr, .int .i64 (faCode n t xs ys)] ∧ E 5 = [] := P 5 (by decide)
        simp only [List.flatMap_cons, List.flatMap_nil, List.append_nil, E5, List.cons_append, List.nil_append] at M
        clear P
        refine ⟨⟨#[undef, undef, undef, undef, undef, undef, undef, undef, undef, undef, undef, undef, undef, undef, undef, undef, undef, undef, undef, undef, undef, .tuple #[vr, .int .i64 (faCode n t xs ys)], undef, undef, undef, undef, undef, undef, undef, undef], []⟩, ?_, ?_⟩
        · intro t ht
          have ht' : t ∈ ([21] : List Nat) := ht
          simp only [List.mem_cons, List.not_mem_nil, or_false] at ht'
          subst ht'
          exact e5.symm
        · have HR : ∀ j ∈ fa5R 6, D j = true := (by intro j hj; have hj' : j ∈ ([0, 1, 2, 3, 4, 5] : List Nat) := hj; simp only [List.mem_cons, List.not_mem_nil, or_false] at hj'; rcases hj' with rfl | rfl | rfl | rfl | rfl | rfl <;> assumption)
          have HW : ∀ j, D j = true → 6 ∉ (fun _ => [] : Nat → List Nat) j := fun _ _ h => by cases h
          have hst := fa5S n t xs ys p1 p2 c1 c2 w.heap.size
          have C := M.ruleAll; simp only [Go.Proofs.Ytpmemoabkbmljaa.ruleAll] at C
          refine yield_walk (ops := #[]) rfl rfl (show 27 < 30 by decide) ?_
          go_wp2
          exact S.val (i := 6) hst (by decide) hi0 HR HW (Below.refl _ _) ⟨vr, (updG_ne (by decide)).trans er5, updG_at .., rfl⟩
      · simp only [List.getElem?_cons_succ, List.getElem?_cons_zero, Option.some.injEq] at hi
        subst hi
        have d5 : D 5 = true := hpre _ (Array.mem_of_getElem? (i := 0) rfl) rfl
        have d0 : D 0 = true := S.anc 5 d5 0 (show 0 ∈ fa5R 5 by decide)
        have d1 : D 1 = true := S.anc 5 d5 1 (show 1 ∈ fa5R 5 by decide)
        have d2 : D 2 = true := S.anc 5 d5 2 (show 2 ∈ fa5R 5 by decide)
        have d3 : D 3 = true := S.anc 5 d5 3 (show 3 ∈ fa5R 5 by decide)
        have d4 : D 4 = true := S.anc 5 d5 4 (show 4 ∈ fa5R 5 by decide)
        obtain ⟨E, P, M⟩ := S.get [5] (by decide) (by intro j hj; simp only [List.mem_cons, List.not_mem_nil, or_false] at hj; subst hj <;> assumption)
        obtain ⟨vr, er5, e5, E5⟩ : ∃ vr, g 4 = .tuple #[vr, .int .i64 (faCode n t xs ys)] ∧ g 5 = .tuple #[vr, .int .i64 (faCode n t xs ys)] ∧ E 5 = [] := P 5 (by decide)
        simp only [List.flatMap_cons, List.flatMap_nil, List.append_nil, E5, List.cons_append, List.nil_append] at M
        clear P
        refine ⟨⟨#[undef, undef, undef, undef, undef, undef, undef, undef, undef, undef, undef, undef, undef, undef, undef, undef, undef, undef, undef, undef, undef, .tuple #[vr, .int .i64 (faCode n t xs ys)], undef, undef, undef, undef, undef, undef, undef, undef], []⟩, ?_, ?_⟩
        · intro t ht
          have ht' : t ∈ ([21] : List Nat) := ht
          simp only [List.mem_cons, List.not_mem_nil, or_false] at ht'
          subst ht'
          exact e5.symm
        · have HR : ∀ j ∈ fa5R 7, D j = true := (by intro j hj; have hj' : j ∈ ([0, 1, 2, 3, 4, 5] : List Nat) := hj; simp only [List.mem_cons, List.not_mem_nil, or_false] at hj'; rcases hj' with rfl | rfl | rfl | rfl | rfl | rfl <;> assumption)
          have HW : ∀ j, D j = true → 7 ∉ (fun _ => [] : Nat → List Nat) j := fun _ _ h => by cases h
          have hst := fa5S n t xs ys p1 p2 c1 c2 w.heap.size
          have C := M.ruleAll; simp only [Go.Proofs.Ytpmemoabkbmljaa.ruleAll] at C
          refine yield_walk (ops := #[]) rfl rfl (show 28 < 30 by decide) ?_
          go_wp2
          exact S.val (i := 7) hst (by decide) hi0 HR HW (Below.refl _ _) ⟨updG_at .., rfl⟩
      · simp only [List.getElem?_cons_succ, List.getElem?_cons_zero, Option.some.injEq] at hi
        subst hi
        have d6 : D 6 = true := hpre _ (Array.mem_of_getElem? (i := 0) rfl) rfl
        have d4 : D 4 = true := hpre _ (Array.mem_of_getElem? (i := 1) rfl) rfl
        have d0 : D 0 = true := hpre _ (Array.mem_of_getElem? (i := 2) rfl) rfl
        have d1 : D 1 = true := hpre _ (Array.mem_of_getElem? (i := 3) rfl) rfl
        have d2 : D 2 = true := hpre _ (Array.mem_of_getElem? (i := 4) rfl) rfl
        have d3 : D 3 = true := hpre _ (Array.mem_of_getElem? (i := 5) rfl) rfl
        have d5 : D 5 = true := hpre _ (Array.mem_of_getElem? (i := 7) rfl) rfl
        obtain ⟨E, P, M⟩ := S.get [6] (by decide) (by intro j hj; simp only [List.mem_cons, List.not_mem_nil, or_false] at hj; subst hj <;> assumption)
        obtain ⟨vr, er6, e6, E6⟩ : ∃ vr, g 4 = .tuple #[vr, .int .i64 (faCode n t xs ys)] ∧ g 6 = vr ∧ E 6 = [] := P 6 (by decide)
        simp only [List.flatMap_cons, List.flatMap_nil, List.append_nil, E6, List.cons_append, List.nil_append] at M
        clear P
        refine ⟨⟨#[undef, undef, undef, undef, undef, undef, undef, undef, undef, undef, undef, undef, undef, undef, undef, undef, undef, undef, undef, undef, undef, undef, undef, undef, undef, undef, undef, vr, undef, undef], []⟩, ?_, ?_⟩
        · intro t ht
          have ht' : t ∈ ([27] : List Nat) := ht
          simp only [List.mem_cons, List.not_mem_nil, or_false] at ht'
          subst ht'
          exact e6.symm
        · have HR : ∀ j ∈ fa5R 8, D j = true := (by intro j hj; have hj' : j ∈ ([0, 1, 2, 3, 4, 5, 6] : List Nat) := hj; simp only [List.mem_cons, List.not_mem_nil, or_false] at hj'; rcases hj' with rfl | rfl | rfl | rfl | rfl | rfl | rfl <;> assumption)
          have HW : ∀ j, D j = true → 8 ∉ (fun _ => [] : Nat → List Nat) j := fun _ _ h => by cases h
          have hst := fa5S n t xs ys p1 p2 c1 c2 w.heap.size
          have C := M.ruleAll; simp only [Go.Proofs.Ytpmemoabkbmljaa.ruleAll] at C
          refine yield_walk (ops := #[]) rfl rfl (show 6 < 30 by decide) ?_
          go_wp2
          exact S.val (i := 8) hst (by decide) hi0 HR HW (Below.refl _ _) ⟨vr, (updG_ne (by decide)).trans er6, updG_at .., rfl⟩
      · simp only [List.getElem?_cons_succ, List.getElem?_cons_zero, Option.some.injEq] at hi
        subst hi
        have d7 : D 7 = true := hpre _ (Array.mem_of_getElem? (i := 0) rfl) rfl
        have d8 : D 8 = true := hpre _ (Array.mem_of_getElem? (i := 1) rfl) rfl
        have d0 : D 0 = true := hpre _ (Array.mem_of_getElem? (i := 2) rfl) rfl
        have d1 : D 1 = true := hpre _ (Array.mem_of_getElem? (i := 3) rfl) rfl
        have d2 : D 2 = true := hpre _ (Array.mem_of_getElem? (i := 4) rfl) rfl
        have d3 : D 3 = true := hpre _ (Array.mem_of_getElem? (i := 5) rfl) rfl
        have d4 : D 4 = true := hpre _ (Array.mem_of_getElem? (i := 6) rfl) rfl
        have d5 : D 5 = true := hpre _ (Array.mem_of_getElem? (i := 7) rfl) rfl
        have d6 : D 6 = true := hpre _ (Array.mem_of_getElem? (i := 8) rfl) rfl
        obtain ⟨E, P, M⟩ := S.get [7] (by decide) (by intro j hj; simp only [List.mem_cons, List.not_mem_nil, or_false] at hj; subst hj <;> assumption)
        obtain ⟨e7, E7⟩ : g 7 = .int .i64 (faCode n t xs ys) ∧ E 7 = [] := P 7 (by decide)
        simp only [List.flatMap_cons, List.flatMap_nil, List.append_nil, E7, List.cons_append, List.nil_append] at M
        clear P
        refine ⟨⟨#[undef, undef, undef, undef, undef, undef, undef, undef, undef, undef, undef, undef, undef, undef, undef, undef, undef, undef, undef, undef, undef, undef, undef, undef, undef, undef, undef, undef, .int .i64 (faCode n t xs ys), undef], []⟩, ?_, ?_⟩
        · intro t ht
          have ht' : t ∈ ([28] : List Nat) := ht
          simp only [List.mem_cons, List.not_mem_nil, or_false] at ht'
          subst ht'
          exact e7.symm
        · have HR : ∀ j ∈ fa5R 9, D j = true := (by intro j hj; have hj' : j ∈ ([0, 1, 2, 3, 4, 5, 6, 7, 8] : List Nat) := hj; simp only [List.mem_cons, List.not_mem_nil, or_false] at hj'; rcases hj' with rfl | rfl | rfl | rfl | rfl | rfl | rfl | rfl | rfl <;> assumption)
          have HW : ∀ j, D j = true → 9 ∉ (fun _ => [] : Nat → List Nat) j := fun _ _ h => by cases h
          have hst := fa5S n t xs ys p1 p2 c1 c2 w.heap.size
          have C := M.ruleAll; simp only [Go.Proofs.Ytpmemoabkbmljaa.ruleAll] at C
          refine yield_walk (ops := #[]) rfl rfl (show 7 < 30 by decide) ?_
          go_wp2
          exact S.val (i := 9) hst (by decide) hi0 HR HW (Below.refl _ _) ⟨updG_at .., rfl⟩
    case hQ_fa5 =>
      clear M
      try clear C
      intro D g w2 hall S
      obtain ⟨E, P, M⟩ := S.get [4] (by decide) (fun k hk => hall k (by simp only [List.mem_cons, List.not_mem_nil, or_false] at hk; show k < 10; omega))
      obtain ⟨vr, B, e4, hB, E4⟩ : ∃ vr B, g 4 = .tuple #[vr, .int .i64 (faCode n t xs ys)] ∧ w.heap.size ≤ B ∧ E 4 = [.row B vr (faOut n t xs ys).length (i64s (faOut n t xs ys)) 2 1] := P 4 (by decide)
      simp only [List.flatMap_cons, List.flatMap_nil, List.append_nil, E4, List.cons_append, List.nil_append] at M
      clear P
      obtain ⟨E', P, _⟩ := S.get [0, 1, 2, 3, 4, 5, 6, 7, 8, 9] (by decide) (fun k hk => hall k (by simp only [List.mem_cons, List.not_mem_nil, or_false] at hk; show k < 10; omega))
      have e0 : g 0 = .agg (sqs n t) := (P 0 (by decide)).1
      have e1 : g 1 = .agg (sqs n t) := (P 1 (by decide)).1
      have e2 : g 2 = .agg (idV p1 c1 p2 c2 xs.length ys.length) := (P 2 (by decide)).1
      obtain ⟨i1, i2, cs1, cs2, e3, -⟩ : ∃ i1 i2 cs1 cs2, g 3 = .agg (idV (some ⟨i1, 0, none⟩) xs.length (some ⟨i2, 0, none⟩) ys.length xs.length ys.length) ∧ w.heap.size ≤ i1 ∧ w.heap.size ≤ i2 ∧ bytC xs cs1 ∧ bytC ys cs2 ∧ E' 3 = [.box i1 cs1 5, .box i2 cs2 5] := P 3 (by decide)
      obtain ⟨z5_vr, er5, e5, -⟩ : ∃ vr, g 4 = .tuple #[vr, .int .i64 (faCode n t xs ys)] ∧ g 5 = .tuple #[vr, .int .i64 (faCode n t xs ys)] ∧ E' 5 = [] := P 5 (by decide)
      have hq5 := e4.symm.trans er5
      simp only [Value.tuple.injEq, Array.mk.injEq, List.cons.injEq, and_true, Value.agg.injEq] at hq5
      obtain rfl := hq5
      obtain ⟨z6_vr, er6, e6, -⟩ : ∃ vr, g 4 = .tuple #[vr, .int .i64 (faCode n t xs ys)] ∧ g 6 = vr ∧ E' 6 = [] := P 6 (by decide)
      have hq6 := e4.symm.trans er6
      simp only [Value.tuple.injEq, Array.mk.injEq, List.cons.injEq, and_true, Value.agg.injEq] at hq6
      obtain rfl := hq6
      have e7 : g 7 = .int .i64 (faCode n t xs ys) := (P 7 (by decide)).1
      obtain ⟨z8_vr, er8, e8, -⟩ : ∃ vr, g 4 = .tuple #[vr, .int .i64 (faCode n t xs ys)] ∧ g 8 = vr ∧ E' 8 = [] := P 8 (by decide)
      have hq8 := e4.symm.trans er8
      simp only [Value.tuple.injEq, Array.mk.injEq, List.cons.injEq, and_true, Value.agg.injEq] at hq8
      obtain rfl := hq8
      have e9 : g 9 = .int .i64 (faCode n t xs ys) := (P 9 (by decide)).1
      simp only [fullAct, e0, e1, e2, e3, e4, e5, e6, e7, e8, e9, Act.put, List.setIfInBounds_toArray, List.set_cons_succ, List.set_cons_zero]
      clear P S hall e0 e1 e2 e3 e4 e5 e6 e7 e8 e9
      try clear E'
      try clear E
      obtain ⟨pw, cw, rfl, -⟩ := fa_read (M.row 0 rfl)
      have HBW := Hid2.mk hB
      clear hB
      generalize vrBw : B = Bw at M HBW
      clear vrBw
      have C := M.ruleAll; simp only [Go.Proofs.Ytpmemoabkbmljaa.ruleAll] at C
      go_wp2_with (first | ((with_reducible apply wpM_lda' M 2 28 0 (idV p1 c1 p2 c2 xs.length ys.length)); rfl; rfl; rfl; exact ⟨rfl, inf_id0.trans (congrArg some (idv_size ..).symm), _, und_id0, rfl⟩; exact whole_of rfl) | (go_at_call 8; fail))
      refine (HTI.out _ M.below).mono ?_
      rintro e w1 ⟨v, rfl, x1, x2, cx1, cx2, rfl, hx1, hx2, hc1, hc2, M'⟩
      have M9 := M.join2 M' (new_box2 hx1 hx2)
      have HX := Hid2.mk (And.intro (Nat.le_trans M.size hx1) (Nat.le_trans M.size hx2))
      have HC := Hid2.mk (And.intro hc1 hc2)
      clear M; (try clear C)
      have M := M9
      clear M9 M' hx1 hx2 hc1 hc2
      have C := M.ruleAll; simp only [Go.Proofs.Ytpmemoabkbmljaa.ruleAll] at C
      go_wp2_with (first | ((with_reducible apply wpM_alloc' M 37 (idV none 0 none 0 0 0)); rfl; exact ⟨rfl, _, zero_idn _, rfl⟩; clear M; (try clear C); intro bx w9 h_bx M; have C := M.ruleAll; simp only [Go.Proofs.Ytpmemoabkbmljaa.ruleAll] at C) | ((with_reducible apply wpM_sta' M 0 37 (idV (some ⟨x1, 0, none⟩) xs.length (some ⟨x2, 0, none⟩) ys.length xs.length ys.length)); rfl; rfl; rfl; rfl; (first | exact .inl (by assumption) | exact .inr rfl | exact .inr (by assumption)); exact ⟨rfl, inf_idn.trans (congrArg some (idv_size ..).symm), flat_idv _ _ _ _ _ _⟩; (simp only [entCells, List.getElem?_cons_zero, List.getElem?_cons_succ, idv_size, idv_size]); clear M; (try clear C); intro w9 M; simp only [List.set_cons_zero, List.set_cons_succ, entBlk, entT, List.getElem?_cons_zero, List.getElem?_cons_succ] at M; have C := M.ruleAll; simp only [Go.Proofs.Ytpmemoabkbmljaa.ruleAll] at C))
      refine wp_region_own (GrS 9 (fa7P n t xs ys p1 p2 c1 c2 w.heap.size x1 x2) fa7R w [.box bq (sqs n t) 25, .box bx (idV (some ⟨x1, 0, none⟩) xs.length (some ⟨x2, 0, none⟩) ys.length xs.length ys.length) 37, .box x1 cx1 5, .box x2 cx2 5, .row Bw (.slice pw (faOut n t xs ys).length cw) (faOut n t xs ys).length (i64s (faOut n t xs ys)) 2 1, .box bi (idV p1 c1 p2 c2 xs.length ys.length) 28]) (by kernel_rfl) (by kernel_rfl) (fun _ => undef) (GrS.start (M.sub [4, 0, 1, 2, 3, 5] (by decide)) _) ?hs_fa7 ?hQ_fa7
      case hs_fa7 =>
        clear M
        try clear C
        intro i o hi D g w2 hi0 hpre S
        have hlt : i < 9 := by have := (List.getElem?_eq_some_iff.1 hi).1; simpa using this
        obtain rfl | rfl | rfl | rfl | rfl | rfl | rfl | rfl | rfl : i = 0 ∨ i = 1 ∨ i = 2 ∨ i = 3 ∨ i = 4 ∨ i = 5 ∨ i = 6 ∨ i = 7 ∨ i = 8 := by omega
        · simp only [List.getElem?_cons_succ, List.getElem?_cons_zero, Option.some.injEq] at hi
          subst hi
          have M := S.base
          refine ⟨⟨#[undef, undef, .pointer (some ⟨bq, 0, none⟩), undef, undef, undef, undef, undef, undef, undef, undef, undef, undef, undef, undef, undef, undef, undef, undef, undef, undef, undef, undef, undef, undef, undef, undef, undef, undef, undef, undef, undef, undef, undef, undef, undef, undef, undef, undef, undef], []⟩, ?_, ?_⟩
          · intro t ht
            have ht' : t ∈ ([2] : List Nat) := ht
            simp only [List.mem_cons, List.not_mem_nil, or_false] at ht'
            subst ht'
            exact rfl
          · have HR : ∀ j ∈ fa7R 0, D j = true := (fun _ h => by cases h)
            have HW : ∀ j, D j = true → 0 ∉ (fun _ => [] : Nat → List Nat) j := fun _ _ h => by cases h
            have hst := fa7S n t xs ys p1 p2 c1 c2 w.heap.size x1 x2
            have C := M.ruleAll; simp only [Go.Proofs.Ytpmemoabkbmljaa.ruleAll] at C
            refine yield_walk (ops := #[]) rfl rfl (show 32 < 40 by decide) ?_
            go_wp2_with (first | ((with_reducible apply wpM_lda' M 0 25 0 (sqs n t)); rfl; rfl; rfl; exact ⟨rfl, inf_sq0.trans (congrArg some (sqs_size ..).symm), _, und_sq0, rfl⟩; exact whole_of rfl))
            exact S.val (i := 0) hst (by decide) hi0 HR HW (Below.refl _ _) ⟨updG_at .., rfl⟩
        · simp only [List.getElem?_cons_succ, List.getElem?_cons_zero, Option.some.injEq] at hi
          subst hi
          have d0 : D 0 = true := hpre _ (Array.mem_of_getElem? (i := 0) rfl) rfl
          obtain ⟨E, P, M⟩ := S.get [0] (by decide) (by intro j hj; simp only [List.mem_cons, List.not_mem_nil, or_false] at hj; subst hj <;> assumption)
          obtain ⟨e0, E0⟩ : g 0 = .agg (sqs n t) ∧ E 0 = [] := P 0 (by decide)
          simp only [List.flatMap_cons, List.flatMap_nil, List.append_nil, E0, List.cons_append, List.nil_append] at M
          clear P
          refine ⟨⟨#[undef, undef, undef, undef, undef, undef, undef, undef, undef, undef, undef, undef, undef, undef, undef, undef, undef, undef, undef, undef, undef, undef, undef, undef, undef, undef, undef, undef, undef, undef, undef, undef, .agg (sqs n t), undef, undef, undef, undef, undef, undef, undef], []⟩, ?_, ?_⟩
          · intro t ht
            have ht' : t ∈ ([32] : List Nat) := ht
            simp only [List.mem_cons, List.not_mem_nil, or_false] at ht'
            subst ht'
            exact e0.symm
          · have HR : ∀ j ∈ fa7R 1, D j = true := (by intro j hj; have hj' : j ∈ ([0] : List Nat) := hj; simp only [List.mem_cons, List.not_mem_nil, or_false] at hj'; subst hj' <;> assumption)
            have HW : ∀ j, D j = true → 1 ∉ (fun _ => [] : Nat → List Nat) j := fun _ _ h => by cases h
            have hst := fa7S n t xs ys p1 p2 c1 c2 w.heap.size x1 x2
            have C := M.ruleAll; simp only [Go.Proofs.Ytpmemoabkbmljaa.ruleAll] at C
            refine yield_walk (ops := #[]) rfl rfl (show 33 < 40 by decide) ?_
            go_wp2_with (first | (go_at_call 7; fail))
            refine (HTQ.out _).mono ?_
            rintro e w1 ⟨rfl, hb⟩
            go_wp2
            exact S.val (i := 1) hst (by decide) hi0 HR HW hb ⟨updG_at .., rfl⟩
        · simp only [List.getElem?_cons_succ, List.getElem?_cons_zero, Option.some.injEq] at hi
          subst hi
          have M := S.base
          refine ⟨⟨#[undef, undef, undef, undef, undef, undef, undef, undef, .pointer (some ⟨bx, 0, none⟩), undef, undef, undef, undef, undef, undef, undef, undef, undef, undef, undef, undef, undef, undef, undef, undef, undef, undef, undef, undef, undef, undef, undef, undef, undef, undef, undef, undef, undef, undef, undef], []⟩, ?_, ?_⟩
          · intro t ht
            have ht' : t ∈ ([8] : List Nat) := ht
            simp only [List.mem_cons, List.not_mem_nil, or_false] at ht'
            subst ht'
            exact rfl
          · have HR : ∀ j ∈ fa7R 2, D j = true := (fun _ h => by cases h)
            have HW : ∀ j, D j = true → 2 ∉ (fun _ => [] : Nat → List Nat) j := fun _ _ h => by cases h
            have hst := fa7S n t xs ys p1 p2 c1 c2 w.heap.size x1 x2
            have C := M.ruleAll; simp only [Go.Proofs.Ytpmemoabkbmljaa.ruleAll] at C
            refine yield_walk (ops := #[]) rfl rfl (show 34 < 40 by decide) ?_
            go_wp2_with (first | ((with_reducible apply wpM_lda' M 1 37 0 (idV (some ⟨x1, 0, none⟩) xs.length (some ⟨x2, 0, none⟩) ys.length xs.length ys.length)); rfl; rfl; rfl; exact ⟨rfl, inf_idn.trans (congrArg some (idv_size ..).symm), _, und_idn, rfl⟩; exact whole_of rfl))
            exact S.val (i := 2) hst (by decide) hi0 HR HW (Below.refl _ _) ⟨updG_at .., rfl⟩
        · simp only [List.getElem?_cons_succ, List.getElem?_cons_zero, Option.some.injEq] at hi
          subst hi
          have d1 : D 1 = true := hpre _ (Array.mem_of_getElem? (i := 0) rfl) rfl
          have d2 : D 2 = true := hpre _ (Array.mem_of_getElem? (i := 1) rfl) rfl
          have d0 : D 0 = true := S.anc 1 d1 0 (show 0 ∈ fa7R 1 by decide)
          obtain ⟨E, P, M⟩ := S.get [1, 2] (by decide) (by intro j hj; simp only [List.mem_cons, List.not_mem_nil, or_false] at hj; rcases hj with rfl | rfl <;> assumption)
          obtain ⟨e1, E1⟩ : g 1 = .agg (sqs n t) ∧ E 1 = [] := P 1 (by decide)
          obtain ⟨e2, E2⟩ : g 2 = .agg (idV (some ⟨x1, 0, none⟩) xs.length (some ⟨x2, 0, none⟩) ys.length xs.length ys.length) ∧ E 2 = [] := P 2 (by decide)
          simp only [List.flatMap_cons, List.flatMap_nil, List.append_nil, E1, E2, List.cons_append, List.nil_append] at M
          clear P
          refine ⟨⟨#[undef, undef, undef, undef, undef, undef, undef, undef, undef, undef, undef, undef, undef, undef, undef, undef, undef, undef, undef, undef, undef, undef, undef, undef, undef, undef, undef, undef, undef, undef, undef, undef, undef, .agg (sqs n t), .agg (idV (some ⟨x1, 0, none⟩) xs.length (some ⟨x2, 0, none⟩) ys.length xs.length ys.length), undef, undef, undef, undef, undef], []⟩, ?_, ?_⟩
          · intro t ht
            have ht' : t ∈ ([33, 34] : List Nat) := ht
            simp only [List.mem_cons, List.not_mem_nil, or_false] at ht'
            rcases ht' with rfl | rfl
            · exact e1.symm
            · exact e2.symm
          · have HR : ∀ j ∈ fa7R 3, D j = true := (by intro j hj; have hj' : j ∈ ([0, 1, 2] : List Nat) := hj; simp only [List.mem_cons, List.not_mem_nil, or_false] at hj'; rcases hj' with rfl | rfl | rfl <;> assumption)
            have HW : ∀ j, D j = true → 3 ∉ (fun _ => [] : Nat → List Nat) j := fun _ _ h => by cases h
            have hst := fa7S n t xs ys p1 p2 c1 c2 w.heap.size x1 x2
            have C := M.ruleAll; simp only [Go.Proofs.Ytpmemoabkbmljaa.ruleAll] at C
            refine yield_walk (ops := #[]) rfl rfl (show 35 < 40 by decide) ?_
            go_wp2_with (first | (go_at_call 9; fail))
            refine (HIM.out _ _ _ _ _ ((M.box 2 rfl).rds HC.out.1.2).rdq ((M.box 3 rfl).rds HC.out.2.2).rdq).mono ?_
            rintro e w1 ⟨vr, rfl, M'⟩
            go_wp2
            exact S.add (i := 3) hst (by decide) hi0 HR HW M' (new_row M') ⟨vr, _, updG_at .., S.base.size, rfl⟩
        · simp only [List.getElem?_cons_succ, List.getElem?_cons_zero, Option.some.injEq] at hi
          subst hi
          have d3 : D 3 = true := hpre _ (Array.mem_of_getElem? (i := 0) rfl) rfl
          have d0 : D 0 = true := S.anc 3 d3 0 (show 0 ∈ fa7R 3 by decide)
          have d1 : D 1 = true := S.anc 3 d3 1 (show 1 ∈ fa7R 3 by decide)
          have d2 : D 2 = true := S.anc 3 d3 2 (show 2 ∈ fa7R 3 by decide)
          obtain ⟨E, P, M⟩ := S.get [3] (by decide) (by intro j hj; simp only [List.mem_cons, List.not_mem_nil, or_false] at hj; subst hj <;> assumption)
          obtain ⟨vr, B, e3, hB, E3⟩ : ∃ vr B, g 3 = .tuple #[vr, .int .i64 (faCode n t xs ys)] ∧ w.heap.size ≤ B ∧ E 3 = [.row B vr (faOut n t xs ys).length (i64s (faOut n t xs ys)) 2 1] := P 3 (by decide)
          simp only [List.flatMap_cons, List.flatMap_nil, List.append_nil, E3, List.cons_append, List.nil_append] at M
          clear P
          refine ⟨⟨#[undef, undef, undef, undef, undef, undef, undef, undef, undef, undef, undef, undef, undef, undef, undef, undef, undef, undef, undef, undef, undef, undef, undef, undef, undef, undef, undef, undef, undef, undef, undef, undef, undef, undef, undef, .tuple #[vr, .int .i64 (faCode n t xs ys)], undef, undef, undef, undef], []⟩, ?_, ?_⟩
          · intro t ht
            have ht' : t ∈ ([35] : List Nat) := ht
            simp only [List.mem_cons, List.not_mem_nil, or_false] at ht'
            subst ht'
            exact e3.symm
          · have HR : ∀ j ∈ fa7R 4, D j = true := (by intro j hj; have hj' : j ∈ ([0, 1, 2, 3] : List Nat) := hj; simp only [List.mem_cons, List.not_mem_nil, or_false] at hj'; rcases hj' with rfl | rfl | rfl | rfl <;> assumption)
            have HW : ∀ j, D j = true → 4 ∉ (fun _ => [] : Nat → List Nat) j := fun _ _ h => by cases h
            have hst := fa7S n t xs ys p1 p2 c1 c2 w.heap.size x1 x2
            have C := M.ruleAll; simp only [Go.Proofs.Ytpmemoabkbmljaa.ruleAll] at C
            refine yield_walk (ops := #[]) rfl rfl (show 31 < 40 by decide) ?_
            go_wp2
            exact S.val (i := 4) hst (by decide) hi0 HR HW (Below.refl _ _) ⟨vr, (updG_ne (by decide)).trans e3, updG_at .., rfl⟩
        · simp only [List.getElem?_cons_succ, List.getElem?_cons_zero, Option.some.injEq] at hi
          subst hi
          have d4 : D 4 = true := hpre _ (Array.mem_of_getElem? (i := 0) rfl) rfl
          have d0 : D 0 = true := S.anc 4 d4 0 (show 0 ∈ fa7R 4 by decide)
          have d1 : D 1 = true := S.anc 4 d4 1 (show 1 ∈ fa7R 4 by decide)
          have d2 : D 2 = true := S.anc 4 d4 2 (show 2 ∈ fa7R 4 by decide)
          have d3 : D 3 = true := S.anc 4 d4 3 (show 3 ∈ fa7R 4 by decide)
          obtain ⟨E, P, M⟩ := S.get [4] (by decide) (by intro j hj; simp only [List.mem_cons, List.not_mem_nil, or_false] at hj; subst hj <;> assumption)
          obtain ⟨vr, er4, e4, E4⟩ : ∃ vr, g 3 = .tuple #[vr, .int .i64 (faCode n t xs ys)] ∧ g 4 = .tuple #[vr, .int .i64 (faCode n t xs ys)] ∧ E 4 = [] := P 4 (by decide)
          simp only [List.flatMap_cons, List.flatMap_nil, List.append_nil, E4, List.cons_append, List.nil_append] at M
          clear P
          refine ⟨⟨#[undef, undef, undef, undef, undef, undef, undef, undef, undef, undef, undef, undef, undef, undef, undef, undef, undef, undef, undef, undef, undef, undef, undef, undef, undef, undef, undef, undef, undef, undef, undef, .tuple #[vr, .int .i64 (faCode n t xs ys)], undef, undef, undef, undef, undef, undef, undef, undef], []⟩, ?_, ?_⟩
          · intro t ht
            have ht' : t ∈ ([31] : List Nat) := ht
            simp only [List.mem_cons, List.not_mem_nil, or_false] at ht'
            subst ht'
            exact e4.symm
          · have HR : ∀ j ∈ fa7R 5, D j = true := (by intro j hj; have hj' : j ∈ ([0, 1, 2, 3, 4] : List Nat) := hj; simp only [List.mem_cons, List.not_mem_nil, or_false] at hj'; rcases hj' with rfl | rfl | rfl | rfl | rfl <;> assumption)
            have HW : ∀ j, D j = true → 5 ∉ (fun _ => [] : Nat → List Nat) j := fun _ _ h => by cases h
            have hst := fa7S n t xs ys p1 p2 c1 c2 w.heap.size x1 x2
            have C := M.ruleAll; simp only [Go.Proofs.Ytpmemoabkbmljaa.ruleAll] at C
            refine yield_walk (ops := #[]) rfl rfl (show 36 < 40 by decide) ?_
            go_wp2
            exact S.val (i := 5) hst (by decide) hi0 HR HW (Below.refl _ _) ⟨vr, (updG_ne (by decide)).trans er4, updG_at .., rfl⟩
        · simp only [List.getElem?_cons_succ, List.getElem?_cons_zero, Option.some.injEq] at hi
          subst hi
          have d4 : D 4 = true := hpre _ (Array.mem_of_getElem? (i := 0) rfl) rfl
          have d0 : D 0 = true := S.anc 4 d4 0 (show 0 ∈ fa7R 4 by decide)
          have d1 : D 1 = true := S.anc 4 d4 1 (show 1 ∈ fa7R 4 by decide)
          have d2 : D 2 = true := S.anc 4 d4 2 (show 2 ∈ fa7R 4 by decide)
          have d3 : D 3 = true := S.anc 4 d4 3 (show 3 ∈ fa7R 4 by decide)
          obtain ⟨E, P, M⟩ := S.get [4] (by decide) (by intro j hj; simp only [List.mem_cons, List.not_mem_nil, or_false] at hj; subst hj <;> assumption)
          obtain ⟨vr, er4, e4, E4⟩ : ∃ vr, g 3 = .tuple #[vr, .int .i64 (faCode n t xs ys)] ∧ g 4 = .tuple #[vr, .int .i64 (faCode n t xs ys)] ∧ E 4 = [] := P 4 (by decide)
          simp only [List.flatMap_cons, List.flatMap_nil, List.append_nil, E4, List.cons_append, List.nil_append] at M
          clear P
          refine ⟨⟨#[undef, undef, undef, undef, undef, undef, undef, undef, undef, undef, undef, undef, undef, undef, undef, undef, undef, undef, undef, undef, undef, undef, undef, undef, undef, undef, undef, undef, undef, undef, undef, .tuple #[vr, .int .i64 (faCode n t xs ys)], undef, undef, undef, undef, undef, undef, undef, undef], []⟩, ?_, ?_⟩
          · intro t ht
            have ht' : t ∈ ([31] : List Nat) := ht
            simp only [List.mem_cons, List.not_mem_nil, or_false] at ht'
            subst ht'
            exact e4.symm
          · have HR : ∀ j ∈ fa7R 6, D j = true := (by intro j hj; have hj' : j ∈ ([0, 1, 2, 3, 4] : List Nat) := hj; simp only [List.mem_cons, List.not_mem_nil, or_false] at hj'; rcases hj' with rfl | rfl | rfl | rfl | rfl <;> assumption)
            have HW : ∀ j, D j = true → 6 ∉ (fun _ => [] : Nat → List Nat) j := fun _ _ h => by cases h
            have hst := fa7S n t xs ys p1 p2 c1 c2 w.heap.size x1 x2
            have C := M.ruleAll; simp only [Go.Proofs.Ytpmemoabkbmljaa.ruleAll] at C
            refine yield_walk (ops := #[]) rfl rfl (show 37 < 40 by decide) ?_
            go_wp2
            exact S.val (i := 6) hst (by decide) hi0 HR HW (Below.refl _ _) ⟨updG_at .., rfl⟩
        · simp only [List.getElem?_cons_succ, List.getElem?_cons_zero, Option.some.injEq] at hi
          subst hi
          have d5 : D 5 = true := hpre _ (Array.mem_of_getElem? (i := 0) rfl) rfl
          have d3 : D 3 = true := hpre _ (Array.mem_of_getElem? (i := 1) rfl) rfl
          have d0 : D 0 = true := hpre _ (Array.mem_of_getElem? (i := 2) rfl) rfl
          have d1 : D 1 = true := hpre _ (Array.mem_of_getElem? (i := 3) rfl) rfl
          have d2 : D 2 = true := hpre _ (Array.mem_of_getElem? (i := 4) rfl) rfl
          have d4 : D 4 = true := hpre _ (Array.mem_of_getElem? (i := 6) rfl) rfl
          obtain ⟨E, P, M⟩ := S.get [5] (by decide) (by intro j hj; simp only [List.mem_cons, List.not_mem_nil, or_false] at hj; subst hj <;> assumption)
          obtain ⟨vr, er5, e5, E5⟩ : ∃ vr, g 3 = .tuple #[vr, .int .i64 (faCode n t xs ys)] ∧ g 5 = vr ∧ E 5 = [] := P 5 (by decide)
          simp only [List.flatMap_cons, List.flatMap_nil, List.append_nil, E5, List.cons_append, List.nil_append] at M
          clear P
          refine ⟨⟨#[undef, undef, undef, undef, undef, undef, undef, undef, undef, undef, undef, undef, undef, undef, undef, undef, undef, undef, undef, undef, undef, undef, undef, undef, undef, undef, undef, undef, undef, undef, undef, undef, undef, undef, undef, undef, vr, undef, undef, undef], []⟩, ?_, ?_⟩
          · intro t ht
            have ht' : t ∈ ([36] : List Nat) := ht
            simp only [List.mem_cons, List.not_mem_nil, or_false] at ht'
            subst ht'
            exact e5.symm
          · have HR : ∀ j ∈ fa7R 7, D j = true := (by intro j hj; have hj' : j ∈ ([0, 1, 2, 3, 4, 5] : List Nat) := hj; simp only [List.mem_cons, List.not_mem_nil, or_false] at hj'; rcases hj' with rfl | rfl | rfl | rfl | rfl | rfl <;> assumption)
            have HW : ∀ j, D j = true → 7 ∉ (fun _ => [] : Nat → List Nat) j := fun _ _ h => by cases h
            have hst := fa7S n t xs ys p1 p2 c1 c2 w.heap.size x1 x2
            have C := M.ruleAll; simp only [Go.Proofs.Ytpmemoabkbmljaa.ruleAll] at C
            refine yield_walk (ops := #[]) rfl rfl (show 9 < 40 by decide) ?_
            go_wp2
            exact S.val (i := 7) hst (by decide) hi0 HR HW (Below.refl _ _) ⟨vr, (updG_ne (by decide)).trans er5, updG_at .., rfl⟩
        · simp only [List.getElem?_cons_succ, List.getElem?_cons_zero, Option.some.injEq] at hi
          subst hi
          have d6 : D 6 = true := hpre _ (Array.mem_of_getElem? (i := 0) rfl) rfl
          have d7 : D 7 = true := hpre _ (Array.mem_of_getElem? (i := 1) rfl) rfl
          have d0 : D 0 = true := hpre _ (Array.mem_of_getElem? (i := 2) rfl) rfl
          have d1 : D 1 = true := hpre _ (Array.mem_of_getElem? (i := 3) rfl) rfl
          have d2 : D 2 = true := hpre _ (Array.mem_of_getElem? (i := 4) rfl) rfl
          have d3 : D 3 = true := hpre _ (Array.mem_of_getElem? (i := 5) rfl) rfl
          have d4 : D 4 = true := hpre _ (Array.mem_of_getElem? (i := 6) rfl) rfl
          have d5 : D 5 = true := hpre _ (Array.mem_of_getElem? (i := 7) rfl) rfl
          obtain ⟨E, P, M⟩ := S.get [6] (by decide) (by intro j hj; simp only [List.mem_cons, List.not_mem_nil, or_false] at hj; subst hj <;> assumption)
          obtain ⟨e6, E6⟩ : g 6 = .int .i64 (faCode n t xs ys) ∧ E 6 = [] := P 6 (by decide)
          simp only [List.flatMap_cons, List.flatMap_nil, List.append_nil, E6, List.cons_append, List.nil_append] at M
          clear P
          refine ⟨⟨#[undef, undef, undef, undef, undef, undef, undef, undef, undef, undef, undef, undef, undef, undef, undef, undef, undef, undef, undef, undef, undef, undef, undef, undef, undef, undef, undef, undef, undef, undef, undef, undef, undef, undef, undef, undef, undef, .int .i64 (faCode n t xs ys), undef, undef], []⟩, ?_, ?_⟩
          · intro t ht
            have ht' : t ∈ ([37] : List Nat) := ht
            simp only [List.mem_cons, List.not_mem_nil, or_false] at ht'
            subst ht'
            exact e6.symm
          · have HR : ∀ j ∈ fa7R 8, D j = true := (by intro j hj; have hj' : j ∈ ([0, 1, 2, 3, 4, 5, 6, 7] : List Nat) := hj; simp only [List.mem_cons, List.not_mem_nil, or_false] at hj'; rcases hj' with rfl | rfl | rfl | rfl | rfl | rfl | rfl | rfl <;> assumption)
            have HW : ∀ j, D j = true → 8 ∉ (fun _ => [] : Nat → List Nat) j := fun _ _ h => by cases h
            have hst := fa7S n t xs ys p1 p2 c1 c2 w.heap.size x1 x2
            have C := M.ruleAll; simp only [Go.Proofs.Ytpmemoabkbmljaa.ruleAll] at C
            refine yield_walk (ops := #[]) rfl rfl (show 10 < 40 by decide) ?_
            go_wp2
            exact S.val (i := 8) hst (by decide) hi0 HR HW (Below.refl _ _) ⟨updG_at .., rfl⟩
      case hQ_fa7 =>
        clear M
        try clear C
        intro D g w2 hall S
        obtain ⟨E, P, M⟩ := S.get [3] (by decide) (fun k hk => hall k (by simp only [List.mem_cons, List.not_mem_nil, or_false] at hk; show k < 9; omega))
        obtain ⟨vr, B, e3, hB, E3⟩ : ∃ vr B, g 3 = .tuple #[vr, .int .i64 (faCode n t xs ys)] ∧ w.heap.size ≤ B ∧ E 3 = [.row B vr (faOut n t xs ys).length (i64s (faOut n t xs ys)) 2 1] := P 3 (by decide)
        simp only [List.flatMap_cons, List.flatMap_nil, List.append_nil, E3, List.cons_append, List.nil_append] at M
        clear P
        obtain ⟨E', P, _⟩ := S.get [0, 1, 2, 3, 4, 5, 6, 7, 8] (by decide) (fun k hk => hall k (by simp only [List.mem_cons, List.not_mem_nil, or_false] at hk; show k < 9; omega))
        have e0 : g 0 = .agg (sqs n t) := (P 0 (by decide)).1
        have e1 : g 1 = .agg (sqs n t) := (P 1 (by decide)).1
        have e2 : g 2 = .agg (idV (some ⟨x1, 0, none⟩) xs.length (some ⟨x2, 0, none⟩) ys.length xs.length ys.length) := (P 2 (by decide)).1
        obtain ⟨z4_vr, er4, e4, -⟩ : ∃ vr, g 3 = .tuple #[vr, .int .i64 (faCode n t xs ys)] ∧ g 4 = .tuple #[vr, .int .i64 (faCode n t xs ys)] ∧ E' 4 = [] := P 4 (by decide)
        have hq4 := e3.symm.trans er4
        simp only [Value.tuple.injEq, Array.mk.injEq, List.cons.injEq, and_true, Value.agg.injEq] at hq4
        obtain rfl := hq4
        obtain ⟨z5_vr, er5, e5, -⟩ : ∃ vr, g 3 = .tuple #[vr, .int .i64 (faCode n t xs ys)] ∧ g 5 = vr ∧ E' 5 = [] := P 5 (by decide)
        have hq5 := e3.symm.trans er5
        simp only [Value.tuple.injEq, Array.mk.injEq, List.cons.injEq, and_true, Value.agg.injEq] at hq5
        obtain rfl := hq5
        have e6 : g 6 = .int .i64 (faCode n t xs ys) := (P 6 (by decide)).1
        obtain ⟨z7_vr, er7, e7, -⟩ : ∃ vr, g 3 = .tuple #[vr, .int .i64 (faCode n t xs ys)] ∧ g 7 = vr ∧ E' 7 = [] := P 7 (by decide)
        have hq7 := e3.symm.trans er7
        simp only [Value.tuple.injEq, Array.mk.injEq, List.cons.injEq, and_true, Value.agg.injEq] at hq7
        obtain rfl := hq7
        have e8 : g 8 = .int .i64 (faCode n t xs ys) := (P 8 (by decide)).1
        simp only [fullAct, e0, e1, e2, e3, e4, e5, e6, e7, e8, Act.put, List.setIfInBounds_toArray, List.set_cons_succ, List.set_cons_zero]
        clear P S hall e0 e1 e2 e3 e4 e5 e6 e7 e8
        try clear E'
        try clear E
        obtain ⟨pg, cg, rfl, -⟩ := fa_read (M.row 0 rfl)
        have HBG := Hid2.mk hB
        clear hB
        generalize vrBw : B = Bg at M HBG
        clear vrBw
        have C := M.ruleAll; simp only [Go.Proofs.Ytpmemoabkbmljaa.ruleAll] at C
        have hcc : (faCode n t xs ys == faCode n t xs ys) = true := by simp
        have hcn : (faCode n t xs ys != faCode n t xs ys) = false := by simp
        have HEQ := Hid2.mk (fun w1 a1 a2 d1 d2 => eqInt64S_any (faOut n t xs ys) (Nat.le_trans (fa_len n t xs ys) (by decide)) w1 a1 a2 d1 d2)
        go_wp2_with (first | (go_at_call 10; fail))
        refine (HEQ.out _ _ _ _ _ (fa_rdq rfl (M.row 0 rfl)) (fa_rdq rfl (M.row 5 rfl))).mono ?_
        rintro e w1 ⟨rfl, hb⟩
        have M9 := M.later hb
        clear M; (try clear C)
        have M := M9
        clear M9 hb
        have C := M.ruleAll; simp only [Go.Proofs.Ytpmemoabkbmljaa.ruleAll] at C

        go_wp2
        apply wp_region_mmf1 M [0, 1] 2 3 _ (StId xs ys) (by kernel_rfl) (by kernel_rfl) rfl rfl rfl
        case ht => (repeat (first | exact wpTextG_nil | (apply wpTextG_cons; (intro g9 w2 hG; obtain ⟨Lg9, hSt9, G⟩ := hG; have M := G.suffix; have C := M.ruleAll; simp only [Go.Proofs.Ytpmemoabkbmljaa.ruleAll] at C; go_wp2_with (first | ((with_reducible apply wpM_lda' M 2 37 0 (idV (some ⟨x1, 0, none⟩) xs.length (some ⟨x2, 0, none⟩) ys.length xs.length ys.length)); rfl; rfl; rfl; exact ⟨rfl, inf_idn.trans (congrArg some (idv_size ..).symm), _, und_idn, rfl⟩; exact whole_of rfl) | ((with_reducible apply wpM_lda' M 6 28 0 (idV p1 c1 p2 c2 xs.length ys.length)); rfl; rfl; rfl; exact ⟨rfl, inf_id0.trans (congrArg some (idv_size ..).symm), _, und_id0, rfl⟩; exact whole_of rfl)); exact ⟨rfl, rfl, Lg9, hSt9, G⟩); rfl)))
        case hA =>
          intro Lg w2 h M
          obtain rfl : Lg = [] := h
          refine yield_walk (ops := #[]) rfl rfl (by simp [Act.put]) ?_
          simp only [List.nil_append] at M
          go_wp2_with (first | (go_at_call 8; fail))
          refine (HTI.out _ M.below).mono ?_
          rintro e w1 ⟨v, rfl, i1, i2, cs1, cs2, rfl, hi1, hi2, hs1, hs2, M'⟩
          have M9 := M.join2 M' (new_box2 hi1 hi2)
          go_wp2
          exact ⟨_, ⟨i1, i2, cs1, cs2, rfl, hs1, hs2, rfl⟩, M9⟩
        clear M; (try clear C)
        intro v Lg w2 h M
        obtain ⟨i1, i2, cs1, cs2, rfl, hs1, hs2, rfl⟩ := h
        simp only [List.drop_succ_cons, List.drop_zero, List.cons_append, List.nil_append] at M ⊢
        go_wp2_with (first | (go_at_call 11; fail))
        refine (eqIdentity_any xs ys (by have := HL.out; omega) (by have := HL.out; omega) _ _ _ _ _ _ _ _ _ ((M.box 5 rfl).rds HC.out.1.2).rdq ((M.box 6 rfl).rds HC.out.2.2).rdq ((M.box 0 rfl).rds hs1.2).rdq ((M.box 1 rfl).rds hs2.2).rdq).mono ?_
        rintro e w1 ⟨rfl, hb⟩
        have M9 := (M.later hb).sub [5, 6, 2, 3, 4, 7, 8] (by decide)
        simp only [List.filterMap_cons, List.filterMap_nil, List.getElem?_cons_succ, List.getElem?_cons_zero] at M9
        clear M; (try clear C)
        have M := M9
        clear M9 hb hs1 hs2
        have C := M.ruleAll; simp only [Go.Proofs.Ytpmemoabkbmljaa.ruleAll] at C
        -- the argument is marked
        go_wp2_with (first | ((with_reducible apply wpM_lda' M 4 37 0 (idV (some ⟨x1, 0, none⟩) xs.length (some ⟨x2, 0, none⟩) ys.length xs.length ys.length)); rfl; rfl; rfl; exact ⟨rfl, inf_idn.trans (congrArg some (idv_size ..).symm), _, und_idn, rfl⟩; exact whole_of rfl) | (go_at_call 12; fail))
        refine (markIdentity_any xs.length ys.length x1 x2 _ _ HC.out.1.1 HC.out.2.1 (by have := HL.out; omega) (by have := HL.out; omega) _ _ 1 (by omega) (by omega) _ ((M.sub [0, 1] (by decide)).anew)).mono ?_
        rintro e w1 ⟨rfl, cs1, cs2, M'⟩
        have M9 := M.lose2 HX.out.1 HX.out.2 M'.kept
        clear M; (try clear C)
        have M := M9
        clear M9 M'
        have C := M.ruleAll; simp only [Go.Proofs.Ytpmemoabkbmljaa.ruleAll] at C
        have hk0 : ¬ ((1 : Int) + (xs.length : Int) + (ys.length : Int) < 0) := by omega
        go_wp2_with (first | (go_at_call 10; fail))
        refine (HEQ.out _ _ _ _ _ (fa_rdq rfl (M.row 0 rfl)) (fa_rdq rfl (M.row 3 rfl))).mono ?_
        rintro e w1 ⟨rfl, hb⟩
        have M9 := M.later hb
        clear M; (try clear C)
        have M := M9
        clear M9 hb
        have C := M.ruleAll; simp only [Go.Proofs.Ytpmemoabkbmljaa.ruleAll] at C

        -- what was handed back is marked
        go_wp2_with (first | (go_at_call 13; fail))
        refine (markInt64S_any Bg _ _ _ 1 (by omega) (by have := fa_len n t xs ys; omega) _ (M.row 0 rfl)).mono ?_
        rintro e w1 ⟨rfl, hk, hown⟩
        have M9 := M.rowmark 0 rfl HBG.out hk hown
        simp only [List.set_cons_zero] at M9
        clear M; (try clear C)
        have M := M9
        clear M9 hk hown
        have C := M.ruleAll; simp only [Go.Proofs.Ytpmemoabkbmljaa.ruleAll] at C
        have HHD := Hid2.mk (fun w1 p c => heldInt64S_any p (faOut n t xs ys).length c 1 (by omega) (by have := fa_len n t xs ys; omega) w1)
        have hq0 : ¬ ((1 : Int) + ((faOut n t xs ys).length : Int) < 0) := by omega
        have hqq : ((1 : Int) + ((faOut n t xs ys).length : Int) == 1 + ((faOut n t xs ys).length : Int)) = true := by simp
        have hqn : ((1 : Int) + ((faOut n t xs ys).length : Int) != 1 + ((faOut n t xs ys).length : Int)) = false := by simp
        go_wp2_with (first | (go_at_call 14; fail))
        refine (HHD.out _ _ _ (mk_rdq (M.row 0 rfl))).mono ?_
        rintro e w1 ⟨rfl, hb⟩
        have M9 := M.later hb
        clear M; (try clear C)
        have M := M9
        clear M9 hb
        have C := M.ruleAll; simp only [Go.Proofs.Ytpmemoabkbmljaa.ruleAll] at C

        go_wp2
        refine wp_region_own (GrS 10 (fa24P n t xs ys p1 p2 c1 c2 w.heap.size) fa24R w [.box bq (sqs n t) 25, .box bi (idV p1 c1 p2 c2 xs.length ys.length) 28, .row Bg (.slice pg (faOut n t xs ys).length cg) (faOut n t xs ys).length (mkV 1 (faOut n t xs ys).length) 2 1, .row Bw (.slice pw (faOut n t xs ys).length cw) (faOut n t xs ys).length (i64s (faOut n t xs ys)) 2 1]) (by kernel_rfl) (by kernel_rfl) (fun _ => undef) (GrS.start (M.sub [1, 4, 0, 3] (by decide)) _) ?hs_fa24 ?hQ_fa24
        case hs_fa24 =>
          clear M
          try clear C
          intro i o hi D g w2 hi0 hpre S
          have hlt : i < 10 := by have := (List.getElem?_eq_some_iff.1 hi).1; simpa using this
          obtain rfl | rfl | rfl | rfl | rfl | rfl | rfl | rfl | rfl | rfl : i = 0 ∨ i = 1 ∨ i = 2 ∨ i = 3 ∨ i = 4 ∨ i = 5 ∨ i = 6 ∨ i = 7 ∨ i = 8 ∨ i = 9 := by omega
          · simp only [List.getElem?_cons_succ, List.getElem?_cons_zero, Option.some.injEq] at hi
            subst hi
            have M := S.base
            refine ⟨⟨#[undef, undef, .pointer (some ⟨bq, 0, none⟩), undef, undef, undef, undef, undef, undef, undef, undef, undef, undef, undef, undef, undef, undef, undef, undef, undef, undef, undef, undef, undef, undef, undef, undef, undef, undef, undef, undef, undef, undef, undef, undef, undef, undef, undef, undef, undef, undef, undef, undef, undef, undef, undef, undef, undef, undef, undef, undef, undef, undef, undef, undef, undef, undef, undef, undef, undef, undef, undef, undef, undef, undef, undef, undef, undef, undef, undef, undef, undef, undef, undef, undef, undef, undef, undef, undef, undef, undef, undef, undef, undef, undef, undef, undef, undef, undef, undef], []⟩, ?_, ?_⟩
            · intro t ht
              have ht' : t ∈ ([2] : List Nat) := ht
              simp only [List.mem_cons, List.not_mem_nil, or_false] at ht'
              subst ht'
              exact rfl
            · have HR : ∀ j ∈ fa24R 0, D j = true := (fun _ h => by cases h)
              have HW : ∀ j, D j = true → 0 ∉ (fun _ => [] : Nat → List Nat) j := fun _ _ h => by cases h
              have hst := fa24S n t xs ys p1 p2 c1 c2 w.heap.size
              have C := M.ruleAll; simp only [Go.Proofs.Ytpmemoabkbmljaa.ruleAll] at C
              refine yield_walk (ops := #[]) rfl rfl (show 80 < 90 by decide) ?_
              go_wp2_with (first | ((with_reducible apply wpM_lda' M 0 25 0 (sqs n t)); rfl; rfl; rfl; exact ⟨rfl, inf_sq0.trans (congrArg some (sqs_size ..).symm), _, und_sq0, rfl⟩; exact whole_of rfl))
              exact S.val (i := 0) hst (by decide) hi0 HR HW (Below.refl _ _) ⟨updG_at .., rfl⟩
          · simp only [List.getElem?_cons_succ, List.getElem?_cons_zero, Option.some.injEq] at hi
            subst hi
            have d0 : D 0 = true := hpre _ (Array.mem_of_getElem? (i := 0) rfl) rfl
            obtain ⟨E, P, M⟩ := S.get [0] (by decide) (by intro j hj; simp only [List.mem_cons, List.not_mem_nil, or_false] at hj; subst hj <;> assumption)
            obtain ⟨e0, E0⟩ : g 0 = .agg (sqs n t) ∧ E 0 = [] := P 0 (by decide)
            simp only [List.flatMap_cons, List.flatMap_nil, List.append_nil, E0, List.cons_append, List.nil_append] at M
            clear P
            refine ⟨⟨#[undef, undef, undef, undef, undef, undef, undef, undef, undef, undef, undef, undef, undef, undef, undef, undef, undef, undef, undef, undef, undef, undef, undef, undef, undef, undef, undef, undef, undef, undef, undef, undef, undef, undef, undef, undef, undef, undef, undef, undef, undef, undef, undef, undef, undef, undef, undef, undef, undef, undef, undef, undef, undef, undef, undef, undef, undef, undef, undef, undef, undef, undef, undef, undef, undef, undef, undef, undef, undef, undef, undef, undef, undef, undef, undef, undef, undef, undef, undef, undef, .agg (sqs n t), undef, undef, undef, undef, undef, undef, undef, undef, undef], []⟩, ?_, ?_⟩
            · intro t ht
              have ht' : t ∈ ([80] : List Nat) := ht
              simp only [List.mem_cons, List.not_mem_nil, or_false] at ht'
              subst ht'
              exact e0.symm
            · have HR : ∀ j ∈ fa24R 1, D j = true := (by intro j hj; have hj' : j ∈ ([0] : List Nat) := hj; simp only [List.mem_cons, List.not_mem_nil, or_false] at hj'; subst hj' <;> assumption)
              have HW : ∀ j, D j = true → 1 ∉ (fun _ => [] : Nat → List Nat) j := fun _ _ h => by cases h
              have hst := fa24S n t xs ys p1 p2 c1 c2 w.heap.size
              have C := M.ruleAll; simp only [Go.Proofs.Ytpmemoabkbmljaa.ruleAll] at C
              refine yield_walk (ops := #[]) rfl rfl (show 81 < 90 by decide) ?_
              go_wp2_with (first | (go_at_call 7; fail))
              refine (HTQ.out _).mono ?_
              rintro e w1 ⟨rfl, hb⟩
              go_wp2
              exact S.val (i := 1) hst (by decide) hi0 HR HW hb ⟨updG_at .., rfl⟩
          · simp only [List.getElem?_cons_succ, List.getElem?_cons_zero, Option.some.injEq] at hi
            subst hi
            have M := S.base
            refine ⟨⟨#[undef, undef, undef, .pointer (some ⟨bi, 0, none⟩), undef, undef, undef, undef, undef, undef, undef, undef, undef, undef, undef, undef, undef, undef, undef, undef, undef, undef, undef, undef, undef, undef, undef, undef, undef, undef, undef, undef, undef, undef, undef, undef, undef, undef, undef, undef, undef, undef, undef, undef, undef, undef, undef, undef, undef, undef, undef, undef, undef, undef, undef, undef, undef, undef, undef, undef, undef, undef, undef, undef, undef, undef, undef, undef, undef, undef, undef, undef, undef, undef, undef, undef, undef, undef, undef, undef, undef, undef, undef, undef, undef, undef, undef, undef, undef, undef], []⟩, ?_, ?_⟩
            · intro t ht
              have ht' : t ∈ ([3] : List Nat) := ht
              simp only [List.mem_cons, List.not_mem_nil, or_false] at ht'
              subst ht'
              exact rfl
            · have HR : ∀ j ∈ fa24R 2, D j = true := (fun _ h => by cases h)
              have HW : ∀ j, D j = true → 2 ∉ (fun _ => [] : Nat → List Nat) j := fun _ _ h => by cases h
              have hst := fa24S n t xs ys p1 p2 c1 c2 w.heap.size
              have C := M.ruleAll; simp only [Go.Proofs.Ytpmemoabkbmljaa.ruleAll] at C
              refine yield_walk (ops := #[]) rfl rfl (show 82 < 90 by decide) ?_
              go_wp2_with (first | ((with_reducible apply wpM_lda' M 1 28 0 (idV p1 c1 p2 c2 xs.length ys.length)); rfl; rfl; rfl; exact ⟨rfl, inf_id0.trans (congrArg some (idv_size ..).symm), _, und_id0, rfl⟩; exact whole_of rfl))
              exact S.val (i := 2) hst (by decide) hi0 HR HW (Below.refl _ _) ⟨updG_at .., rfl⟩
          · simp only [List.getElem?_cons_succ, List.getElem?_cons_zero, Option.some.injEq] at hi
            subst hi
            have d2 : D 2 = true := hpre _ (Array.mem_of_getElem? (i := 0) rfl) rfl
            have d1 : D 1 = true := hpre _ (Array.mem_of_getElem? (i := 1) rfl) rfl
            have d0 : D 0 = true := S.anc 1 d1 0 (show 0 ∈ fa24R 1 by decide)
            obtain ⟨E, P, M⟩ := S.get [2] (by decide) (by intro j hj; simp only [List.mem_cons, List.not_mem_nil, or_false] at hj; subst hj <;> assumption)
            obtain ⟨e2, E2⟩ : g 2 = .agg (idV p1 c1 p2 c2 xs.length ys.length) ∧ E 2 = [] := P 2 (by decide)
            simp only [List.flatMap_cons, List.flatMap_nil, List.append_nil, E2, List.cons_append, List.nil_append] at M
            clear P
            refine ⟨⟨#[undef, undef, undef, undef, undef, undef, undef, undef, undef, undef, undef, undef, undef, undef, undef, undef, undef, undef, undef, undef, undef, undef, undef, undef, undef, undef, undef, undef, undef, undef, undef, undef, undef, undef, undef, undef, undef, undef, undef, undef, undef, undef, undef, undef, undef, undef, undef, undef, undef, undef, undef, undef, undef, undef, undef, undef, undef, undef, undef, undef, undef, undef, undef, undef, undef, undef, undef, undef, undef, undef, undef, undef, undef, undef, undef, undef, undef, undef, undef, undef, undef, undef, .agg (idV p1 c1 p2 c2 xs.length ys.length), undef, undef, undef, undef, undef, undef, undef], []⟩, ?_, ?_⟩
            · intro t ht
              have ht' : t ∈ ([82] : List Nat) := ht
              simp only [List.mem_cons, List.not_mem_nil, or_false] at ht'
              subst ht'
              exact e2.symm
            · have HR : ∀ j ∈ fa24R 3, D j = true := (by intro j hj; have hj' : j ∈ ([0, 1, 2] : List Nat) := hj; simp only [List.mem_cons, List.not_mem_nil, or_false] at hj'; rcases hj' with rfl | rfl | rfl <;> assumption)
              have HW : ∀ j, D j = true → 3 ∉ (fun _ => [] : Nat → List Nat) j := fun _ _ h => by cases h
              have hst := fa24S n t xs ys p1 p2 c1 c2 w.heap.size
              have C := M.ruleAll; simp only [Go.Proofs.Ytpmemoabkbmljaa.ruleAll] at C
              refine yield_walk (ops := #[]) rfl rfl (show 83 < 90 by decide) ?_
              go_wp2_with (first | (go_at_call 8; fail))
              refine (HTI.out _ M.below).mono ?_
              rintro e w1 ⟨v, rfl, i1, i2, cs1, cs2, rfl, hi1, hi2, hs1, hs2, M'⟩
              go_wp2
              exact S.add (i := 3) hst (by decide) hi0 HR HW M' (new_box2 hi1 hi2) ⟨i1, i2, cs1, cs2, updG_at .., Nat.le_trans S.base.size hi1, Nat.le_trans S.base.size hi2, hs1, hs2, rfl⟩
          · simp only [List.getElem?_cons_succ, List.getElem?_cons_zero, Option.some.injEq] at hi
            subst hi
            have d1 : D 1 = true := hpre _ (Array.mem_of_getElem? (i := 0) rfl) rfl
            have d3 : D 3 = true := hpre _ (Array.mem_of_getElem? (i := 1) rfl) rfl
            have d0 : D 0 = true := S.anc 3 d3 0 (show 0 ∈ fa24R 3 by decide)
            have d2 : D 2 = true := S.anc 3 d3 2 (show 2 ∈ fa24R 3 by decide)
            obtain ⟨E, P, M⟩ := S.get [1, 3] (by decide) (by intro j hj; simp only [List.mem_cons, List.not_mem_nil, or_false] at hj; rcases hj with rfl | rfl <;> assumption)
            obtain ⟨e1, E1⟩ : g 1 = .agg (sqs n t) ∧ E 1 = [] := P 1 (by decide)
            obtain ⟨i1, i2, cs1, cs2, e3, hi1, hi2, hs1, hs2, E3⟩ : ∃ i1 i2 cs1 cs2, g 3 = .agg (idV (some ⟨i1, 0, none⟩) xs.length (some ⟨i2, 0, none⟩) ys.length xs.length ys.length) ∧ w.heap.size ≤ i1 ∧ w.heap.size ≤ i2 ∧ bytC xs cs1 ∧ bytC ys cs2 ∧ E 3 = [.box i1 cs1 5, .box i2 cs2 5] := P 3 (by decide)
            simp only [List.flatMap_cons, List.flatMap_nil, List.append_nil, E1, E3, List.cons_append, List.nil_append] at M
            clear P
            refine ⟨⟨#[undef, undef, undef, undef, undef, undef, undef, undef, undef, undef, undef, undef, undef, undef, undef, undef, undef, undef, undef, undef, undef, undef, undef, undef, undef, undef, undef, undef, undef, undef, undef, undef, undef, undef, undef, undef, undef, undef, undef, undef, undef, undef, undef, undef, undef, undef, undef, undef, undef, undef, undef, undef, undef, undef, undef, undef, undef, undef, undef, undef, undef, undef, undef, undef, undef, undef, undef, undef, undef, undef, undef, undef, undef, undef, undef, undef, undef, undef, undef, undef, undef, .agg (sqs n t), undef, .agg (idV (some ⟨i1, 0, none⟩) xs.length (some ⟨i2, 0, none⟩) ys.length xs.length ys.length), undef, undef, undef, undef, undef, undef], []⟩, ?_, ?_⟩
            · intro t ht
              have ht' : t ∈ ([81, 83] : List Nat) := ht
              simp only [List.mem_cons, List.not_mem_nil, or_false] at ht'
              rcases ht' with rfl | rfl
              · exact e1.symm
              · exact e3.symm
            · have HR : ∀ j ∈ fa24R 4, D j = true := (by intro j hj; have hj' : j ∈ ([0, 1, 2, 3] : List Nat) := hj; simp only [List.mem_cons, List.not_mem_nil, or_false] at hj'; rcases hj' with rfl | rfl | rfl | rfl <;> assumption)
              have HW : ∀ j, D j = true → 4 ∉ (fun _ => [] : Nat → List Nat) j := fun _ _ h => by cases h
              have hst := fa24S n t xs ys p1 p2 c1 c2 w.heap.size
              have C := M.ruleAll; simp only [Go.Proofs.Ytpmemoabkbmljaa.ruleAll] at C
              refine yield_walk (ops := #[]) rfl rfl (show 84 < 90 by decide) ?_
              go_wp2_with (first | (go_at_call 9; fail))
              refine (HIM.out _ _ _ _ _ ((M.box 0 rfl).rds hs1.2).rdq ((M.box 1 rfl).rds hs2.2).rdq).mono ?_
              rintro e w1 ⟨vr, rfl, M'⟩
              go_wp2
              exact S.add (i := 4) hst (by decide) hi0 HR HW M' (new_row M') ⟨vr, _, updG_at .., S.base.size, rfl⟩
          · simp only [List.getElem?_cons_succ, List.getElem?_cons_zero, Option.some.injEq] at hi
            subst hi
            have d4 : D 4 = true := hpre _ (Array.mem_of_getElem? (i := 0) rfl) rfl
            have d0 : D 0 = true := S.anc 4 d4 0 (show 0 ∈ fa24R 4 by decide)
            have d1 : D 1 = true := S.anc 4 d4 1 (show 1 ∈ fa24R 4 by decide)
            have d2 : D 2 = true := S.anc 4 d4 2 (show 2 ∈ fa24R 4 by decide)
            have d3 : D 3 = true := S.anc 4 d4 3 (show 3 ∈ fa24R 4 by decide)
            obtain ⟨E, P, M⟩ := S.get [4] (by decide) (by intro j hj; simp only [List.mem_cons, List.not_mem_nil, or_false] at hj; subst hj <;> assumption)
            obtain ⟨vr, B, e4, hB, E4⟩ : ∃ vr B, g 4 = .tuple #[vr, .int .i64 (faCode n t xs ys)] ∧ w.heap.size ≤ B ∧ E 4 = [.row B vr (faOut n t xs ys).length (i64s (faOut n t xs ys)) 2 1] := P 4 (by decide)
            simp only [List.flatMap_cons, List.flatMap_nil, List.append_nil, E4, List.cons_append, List.nil_append] at M
            clear P
            refine ⟨⟨#[undef, undef, undef, undef, undef, undef, undef, undef, undef, undef, undef, undef, undef, undef, undef, undef, undef, undef, undef, undef, undef, undef, undef, undef, undef, undef, undef, undef, undef, undef, undef, undef, undef, undef, undef, undef, undef, undef, undef, undef, undef, undef, undef, undef, undef, undef, undef, undef, undef, undef, undef, undef, undef, undef, undef, undef, undef, undef, undef, undef, undef, undef, undef, undef, undef, undef, undef, undef, undef, undef, undef, undef, undef, undef, undef, undef, undef, undef, undef, undef, undef, undef, undef, undef, .tuple #[vr, .int .i64 (faCode n t xs ys)], undef, undef, undef, undef, undef], []⟩, ?_, ?_⟩
            · intro t ht
              have ht' : t ∈ ([84] : List Nat) := ht
              simp only [List.mem_cons, List.not_mem_nil, or_false] at ht'
              subst ht'
              exact e4.symm
            · have HR : ∀ j ∈ fa24R 5, D j = true := (by intro j hj; have hj' : j ∈ ([0, 1, 2, 3, 4] : List Nat) := hj; simp only [List.mem_cons, List.not_mem_nil, or_false] at hj'; rcases hj' with rfl | rfl | rfl | rfl | rfl <;> assumption)
              have HW : ∀ j, D j = true → 5 ∉ (fun _ => [] : Nat → List Nat) j := fun _ _ h => by cases h
              have hst := fa24S n t xs ys p1 p2 c1 c2 w.heap.size
              have C := M.ruleAll; simp only [Go.Proofs.Ytpmemoabkbmljaa.ruleAll] at C
              refine yield_walk (ops := #[]) rfl rfl (show 79 < 90 by decide) ?_
              go_wp2
              exact S.val (i := 5) hst (by decide) hi0 HR HW (Below.refl _ _) ⟨vr, (updG_ne (by decide)).trans e4, updG_at .., rfl⟩
          · simp only [List.getElem?_cons_succ, List.getElem?_cons_zero, Option.some.injEq] at hi
            subst hi
            have d5 : D 5 = true := hpre _ (Array.mem_of_getElem? (i := 0) rfl) rfl
            have d0 : D 0 = true := S.anc 5 d5 0 (show 0 ∈ fa24R 5 by decide)
            have d1 : D 1 = true := S.anc 5 d5 1 (show 1 ∈ fa24R 5 by decide)
            have d2 : D 2 = true := S.anc 5 d5 2 (show 2 ∈ fa24R 5 by decide)
            have d3 : D 3 = true := S.anc 5 d5 3 (show 3 ∈ fa24R 5 by decide)
            have d4 : D 4 = true := S.anc 5 d5 4 (show 4 ∈ fa24R 5 by decide)
            obtain ⟨E, P, M⟩ := S.get [5] (by decide) (by intro j hj; simp only [List.mem_cons, List.not_mem_nil, or_false] at hj; subst hj <;> assumption)
            obtain ⟨vr, er5, e5, E5⟩ : ∃ vr, g 4 = .tuple #[vr, .int .i64 (faCode n t xs ys)] ∧ g 5 = .tuple #[vr, .int .i64 (faCode n t xs ys)] ∧ E 5 = [] := P 5 (by decide)
            simp only [List.flatMap_cons, List.flatMap_nil, List.append_nil, E5, List.cons_append, List.nil_append] at M
            clear P
            refine ⟨⟨#[undef, undef, undef, undef, undef, undef, undef, undef, undef, undef, undef, undef, undef, undef, undef, undef, undef, undef, undef, undef, undef, undef, undef, undef, undef, undef, undef, undef, undef, undef, undef, undef, undef, undef, undef, undef, undef, undef, undef, undef, undef, undef, undef, undef, undef, undef, undef, undef, undef, undef, undef, undef, undef, undef, undef, undef, undef, undef, undef, undef, undef, undef, undef, undef, undef, undef, undef, undef, undef, undef, undef, undef, undef, undef, undef, undef, undef, undef, undef, .tuple #[vr, .int .i64 (faCode n t xs ys)], undef, undef, undef, undef, undef, undef, undef, undef, undef, undef], []⟩, ?_, ?_⟩
            · intro t ht
              have ht' : t ∈ ([79] : List Nat) := ht
              simp only [List.mem_cons, List.not_mem_nil, or_false] at ht'
              subst ht'
              exact e5.symm
            · have HR : ∀ j ∈ fa24R 6, D j = true := (by intro j hj; have hj' : j ∈ ([0, 1, 2, 3, 4, 5] : List Nat) := hj; simp only [List.mem_cons, List.not_mem_nil, or_false] at hj'; rcases hj' with rfl | rfl | rfl | rfl | rfl | rfl <;> assumption)
              have HW : ∀ j, D j = true → 6 ∉ (fun _ => [] : Nat → List Nat) j := fun _ _ h => by cases h
              have hst := fa24S n t xs ys p1 p2 c1 c2 w.heap.size
              have C := M.ruleAll; simp only [Go.Proofs.Ytpmemoabkbmljaa.ruleAll] at C
              refine yield_walk (ops := #[]) rfl rfl (show 85 < 90 by decide) ?_
              go_wp2
              exact S.val (i := 6) hst (by decide) hi0 HR HW (Below.refl _ _) ⟨vr, (updG_ne (by decide)).trans er5, updG_at .., rfl⟩
          · simp only [List.getElem?_cons_succ, List.getElem?_cons_zero, Option.some.injEq] at hi
            subst hi
            have d5 : D 5 = true := hpre _ (Array.mem_of_getElem? (i := 0) rfl) rfl
            have d0 : D 0 = true := S.anc 5 d5 0 (show 0 ∈ fa24R 5 by decide)
            have d1 : D 1 = true := S.anc 5 d5 1 (show 1 ∈ fa24R 5 by decide)
            have d2 : D 2 = true := S.anc 5 d5 2 (show 2 ∈ fa24R 5 by decide)
            have d3 : D 3 = true := S.anc 5 d5 3 (show 3 ∈ fa24R 5 by decide)
            have d4 : D 4 = true := S.anc 5 d5 4 (show 4 ∈ fa24R 5 by decide)
            obtain ⟨E, P, M⟩ := S.get [5] (by decide) (by intro j hj; simp only [List.mem_cons, List.not_mem_nil, or_false] at hj; subst hj <;> assumption)
            obtain ⟨vr, er5, e5, E5⟩ : ∃ vr, g 4 = .tuple #[vr, .int .i64 (faCode n t xs ys)] ∧ g 5 = .tuple #[vr, .int .i64 (faCode n t xs ys)] ∧ E 5 = [] := P 5 (by decide)
            simp only [List.flatMap_cons, List.flatMap_nil, List.append_nil, E5, List.cons_append, List.nil_append] at M
            clear P
            refine ⟨⟨#[undef, undef, undef, undef, undef, undef, undef, undef, undef, undef, undef, undef, undef, undef, undef, undef, undef, undef, undef, undef, undef, undef, undef, undef, undef, undef, undef, undef, undef, undef, undef, undef, undef, undef, undef, undef, undef, undef, undef, undef, undef, undef, undef, undef, undef, undef, undef, undef, undef, undef, undef, undef, undef, undef, undef, undef, undef, undef, undef, undef, undef, undef, undef, undef, undef, undef, undef, undef, undef, undef, undef, undef, undef, undef, undef, undef, undef, undef, undef, .tuple #[vr, .int .i64 (faCode n t xs ys)], undef, undef, undef, undef, undef, undef, undef, undef, undef, undef], []⟩, ?_, ?_⟩
            · intro t ht
              have ht' : t ∈ ([79] : List Nat) := ht
              simp only [List.mem_cons, List.not_mem_nil, or_false] at ht'
              subst ht'
              exact e5.symm
            · have HR : ∀ j ∈ fa24R 7, D j = true := (by intro j hj; have hj' : j ∈ ([0, 1, 2, 3, 4, 5] : List Nat) := hj; simp only [List.mem_cons, List.not_mem_nil, or_false] at hj'; rcases hj' with rfl | rfl | rfl | rfl | rfl | rfl <;> assumption)
              have HW : ∀ j, D j = true → 7 ∉ (fun _ => [] : Nat → List Nat) j := fun _ _ h => by cases h
              have hst := fa24S n t xs ys p1 p2 c1 c2 w.heap.size
              have C := M.ruleAll; simp only [Go.Proofs.Ytpmemoabkbmljaa.ruleAll] at C
              refine yield_walk (ops := #[]) rfl rfl (show 86 < 90 by decide) ?_
              go_wp2
              exact S.val (i := 7) hst (by decide) hi0 HR HW (Below.refl _ _) ⟨updG_at .., rfl⟩
          · simp only [List.getElem?_cons_succ, List.getElem?_cons_zero, Option.some.injEq] at hi
            subst hi
            have d6 : D 6 = true := hpre _ (Array.mem_of_getElem? (i := 0) rfl) rfl
            have d4 : D 4 = true := hpre _ (Array.mem_of_getElem? (i := 1) rfl) rfl
            have d0 : D 0 = true := hpre _ (Array.mem_of_getElem? (i := 2) rfl) rfl
            have d1 : D 1 = true := hpre _ (Array.mem_of_getElem? (i := 3) rfl) rfl
            have d2 : D 2 = true := hpre _ (Array.mem_of_getElem? (i := 4) rfl) rfl
            have d3 : D 3 = true := hpre _ (Array.mem_of_getElem? (i := 5) rfl) rfl
            have d5 : D 5 = true := hpre _ (Array.mem_of_getElem? (i := 7) rfl) rfl
            obtain ⟨E, P, M⟩ := S.get [6] (by decide) (by intro j hj; simp only [List.mem_cons, List.not_mem_nil, or_false] at hj; subst hj <;> assumption)
            obtain ⟨vr, er6, e6, E6⟩ : ∃ vr, g 4 = .tuple #[vr, .int .i64 (faCode n t xs ys)] ∧ g 6 = vr ∧ E 6 = [] := P 6 (by decide)
            simp only [List.flatMap_cons, List.flatMap_nil, List.append_nil, E6, List.cons_append, List.nil_append] at M
            clear P
            refine ⟨⟨#[undef, undef, undef, undef, undef, undef, undef, undef, undef, undef, undef, undef, undef, undef, undef, undef, undef, undef, undef, undef, undef, undef, undef, undef, undef, undef, undef, undef, undef, undef, undef, undef, undef, undef, undef, undef, undef, undef, undef, undef, undef, undef, undef, undef, undef, undef, undef, undef, undef, undef, undef, undef, undef, undef, undef, undef, undef, undef, undef, undef, undef, undef, undef, undef, undef, undef, undef, undef, undef, undef, undef, undef, undef, undef, undef, undef, undef, undef, undef, undef, undef, undef, undef, undef, undef, vr, undef, undef, undef, undef], []⟩, ?_, ?_⟩
            · intro t ht
              have ht' : t ∈ ([85] : List Nat) := ht
              simp only [List.mem_cons, List.not_mem_nil, or_false] at ht'
              subst ht'
              exact e6.symm
            · have HR : ∀ j ∈ fa24R 8, D j = true := (by intro j hj; have hj' : j ∈ ([0, 1, 2, 3, 4, 5, 6] : List Nat) := hj; simp only [List.mem_cons, List.not_mem_nil, or_false] at hj'; rcases hj' with rfl | rfl | rfl | rfl | rfl | rfl | rfl <;> assumption)
              have HW : ∀ j, D j = true → 8 ∉ (fun _ => [] : Nat → List Nat) j := fun _ _ h => by cases h
              have hst := fa24S n t xs ys p1 p2 c1 c2 w.heap.size
              have C := M.ruleAll; simp only [Go.Proofs.Ytpmemoabkbmljaa.ruleAll] at C
              refine yield_walk (ops := #[]) rfl rfl (show 14 < 90 by decide) ?_
              go_wp2
              exact S.val (i := 8) hst (by decide) hi0 HR HW (Below.refl _ _) ⟨vr, (updG_ne (by decide)).trans er6, updG_at .., rfl⟩
          · simp only [List.getElem?_cons_succ, List.getElem?_cons_zero, Option.some.injEq] at hi
            subst hi
            have d7 : D 7 = true := hpre _ (Array.mem_of_getElem? (i := 0) rfl) rfl
            have d8 : D 8 = true := hpre _ (Array.mem_of_getElem? (i := 1) rfl) rfl
            have d0 : D 0 = true := hpre _ (Array.mem_of_getElem? (i := 2) rfl) rfl
            have d1 : D 1 = true := hpre _ (Array.mem_of_getElem? (i := 3) rfl) rfl
            have d2 : D 2 = true := hpre _ (Array.mem_of_getElem? (i := 4) rfl) rfl
            have d3 : D 3 = true := hpre _ (Array.mem_of_getElem? (i := 5) rfl) rfl
            have d4 : D 4 = true := hpre _ (Array.mem_of_getElem? (i := 6) rfl) rfl
            have d5 : D 5 = true := hpre _ (Array.mem_of_getElem? (i := 7) rfl) rfl
            have d6 : D 6 = true := hpre _ (Array.mem_of_getElem? (i := 8) rfl) rfl
            obtain ⟨E, P, M⟩ := S.get [7] (by decide) (by intro j hj; simp only [List.mem_cons, List.not_mem_nil, or_false] at hj; subst hj <;> assumption)
            obtain ⟨e7, E7⟩ : g 7 = .int .i64 (faCode n t xs ys) ∧ E 7 = [] := P 7 (by decide)
            simp only [List.flatMap_cons, List.flatMap_nil, List.append_nil, E7, List.cons_append, List.nil_append] at M
            clear P
            refine ⟨⟨#[undef, undef, undef, undef, undef, undef, undef, undef, undef, undef, undef, undef, undef, undef, undef, undef, undef, undef, undef, undef, undef, undef, undef, undef, undef, undef, undef, undef, undef, undef, undef, undef, undef, undef, undef, undef, undef, undef, undef, undef, undef, undef, undef, undef, undef, undef, undef, undef, undef, undef, undef, undef, undef, undef, undef, undef, undef, undef, undef, undef, undef, undef, undef, undef, undef, undef, undef, undef, undef, undef, undef, undef, undef, undef, undef, undef, undef, undef, undef, undef, undef, undef, undef, undef, undef, undef, .int .i64 (faCode n t xs ys), undef, undef, undef], []⟩, ?_, ?_⟩
            · intro t ht
              have ht' : t ∈ ([86] : List Nat) := ht
              simp only [List.mem_cons, List.not_mem_nil, or_false] at ht'
              subst ht'
              exact e7.symm
            · have HR : ∀ j ∈ fa24R 9, D j = true := (by intro j hj; have hj' : j ∈ ([0, 1, 2, 3, 4, 5, 6, 7, 8] : List Nat) := hj; simp only [List.mem_cons, List.not_mem_nil, or_false] at hj'; rcases hj' with rfl | rfl | rfl | rfl | rfl | rfl | rfl | rfl | rfl <;> assumption)
              have HW : ∀ j, D j = true → 9 ∉ (fun _ => [] : Nat → List Nat) j := fun _ _ h => by cases h
              have hst := fa24S n t xs ys p1 p2 c1 c2 w.heap.size
              have C := M.ruleAll; simp only [Go.Proofs.Ytpmemoabkbmljaa.ruleAll] at C
              refine yield_walk (ops := #[]) rfl rfl (show 15 < 90 by decide) ?_
              go_wp2
              exact S.val (i := 9) hst (by decide) hi0 HR HW (Below.refl _ _) ⟨updG_at .., rfl⟩
        case hQ_fa24 =>
          clear M
          try clear C
          intro D g w2 hall S
          obtain ⟨E, P, M⟩ := S.get [4] (by decide) (fun k hk => hall k (by simp only [List.mem_cons, List.not_mem_nil, or_false] at hk; show k < 10; omega))
          obtain ⟨vr, B, e4, hB, E4⟩ : ∃ vr B, g 4 = .tuple #[vr, .int .i64 (faCode n t xs ys)] ∧ w.heap.size ≤ B ∧ E 4 = [.row B vr (faOut n t xs ys).length (i64s (faOut n t xs ys)) 2 1] := P 4 (by decide)
          simp only [List.flatMap_cons, List.flatMap_nil, List.append_nil, E4, List.cons_append, List.nil_append] at M
          clear P
          obtain ⟨E', P, _⟩ := S.get [0, 1, 2, 3, 4, 5, 6, 7, 8, 9] (by decide) (fun k hk => hall k (by simp only [List.mem_cons, List.not_mem_nil, or_false] at hk; show k < 10; omega))
          have e0 : g 0 = .agg (sqs n t) := (P 0 (by decide)).1
          have e1 : g 1 = .agg (sqs n t) := (P 1 (by decide)).1
          have e2 : g 2 = .agg (idV p1 c1 p2 c2 xs.length ys.length) := (P 2 (by decide)).1
          obtain ⟨i1, i2, cs1, cs2, e3, -⟩ : ∃ i1 i2 cs1 cs2, g 3 = .agg (idV (some ⟨i1, 0, none⟩) xs.length (some ⟨i2, 0, none⟩) ys.length xs.length ys.length) ∧ w.heap.size ≤ i1 ∧ w.heap.size ≤ i2 ∧ bytC xs cs1 ∧ bytC ys cs2 ∧ E' 3 = [.box i1 cs1 5, .box i2 cs2 5] := P 3 (by decide)
          obtain ⟨z5_vr, er5, e5, -⟩ : ∃ vr, g 4 = .tuple #[vr, .int .i64 (faCode n t xs ys)] ∧ g 5 = .tuple #[vr, .int .i64 (faCode n t xs ys)] ∧ E' 5 = [] := P 5 (by decide)
          have hq5 := e4.symm.trans er5
          simp only [Value.tuple.injEq, Array.mk.injEq, List.cons.injEq, and_true, Value.agg.injEq] at hq5
          obtain rfl := hq5
          obtain ⟨z6_vr, er6, e6, -⟩ : ∃ vr, g 4 = .tuple #[vr, .int .i64 (faCode n t xs ys)] ∧ g 6 = vr ∧ E' 6 = [] := P 6 (by decide)
          have hq6 := e4.symm.trans er6
          simp only [Value.tuple.injEq, Array.mk.injEq, List.cons.injEq, and_true, Value.agg.injEq] at hq6
          obtain rfl := hq6
          have e7 : g 7 = .int .i64 (faCode n t xs ys) := (P 7 (by decide)).1
          obtain ⟨z8_vr, er8, e8, -⟩ : ∃ vr, g 4 = .tuple #[vr, .int .i64 (faCode n t xs ys)] ∧ g 8 = vr ∧ E' 8 = [] := P 8 (by decide)
          have hq8 := e4.symm.trans er8
          simp only [Value.tuple.injEq, Array.mk.injEq, List.cons.injEq, and_true, Value.agg.injEq] at hq8
          obtain rfl := hq8
          have e9 : g 9 = .int .i64 (faCode n t xs ys) := (P 9 (by decide)).1
          simp only [fullAct, e0, e1, e2, e3, e4, e5, e6, e7, e8, e9, Act.put, List.setIfInBounds_toArray, List.set_cons_succ, List.set_cons_zero]
          clear P S hall e0 e1 e2 e3 e4 e5 e6 e7 e8 e9
          try clear E'
          try clear E
          obtain ⟨ph, ch, rfl, -⟩ := fa_read (M.row 0 rfl)
          have C := M.ruleAll; simp only [Go.Proofs.Ytpmemoabkbmljaa.ruleAll] at C
          go_wp2_with (first | (go_at_call 10; fail))
          refine (HEQ.out _ _ _ _ _ (fa_rdq rfl (M.row 0 rfl)) (fa_rdq rfl (M.row 4 rfl))).mono ?_
          rintro e w1 ⟨rfl, hb⟩
          have M9 := M.later hb
          clear M; (try clear C)
          have M := M9
          clear M9 hb
          have C := M.ruleAll; simp only [Go.Proofs.Ytpmemoabkbmljaa.ruleAll] at C

          go_wp2_with (first | (go_at_call 14; fail))
          refine (HHD.out _ _ _ (mk_rdq (M.row 3 rfl))).mono ?_
          rintro e w1 ⟨rfl, hb⟩
          have M9 := M.later hb
          clear M; (try clear C)
          have M := M9
          clear M9 hb
          have C := M.ruleAll; simp only [Go.Proofs.Ytpmemoabkbmljaa.ruleAll] at C

          go_wp2
          go_ret
          exact ⟨rfl, M.below⟩

end Go.Proofs.Ytpmemoabkbmljaa
