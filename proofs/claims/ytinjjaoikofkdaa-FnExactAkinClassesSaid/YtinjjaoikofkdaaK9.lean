/- Drawn regions with operations that float, over what is known of memory. -/
import Derived.Test.YtinjjaoikofkdaaK8
import Derived.Test.YtinjjaoikofkdaaRT
namespace Go.Proofs.Ytinjjaoikofkdaa
set_option linter.unusedSimpArgs false
set_option linter.unusedVariables false
open Go Go.RowKit

section
variable {P : Program} {D : Nat → Prop} {w0 w : World} {L : List Ent} {ops : Array Oper} {o : Oper} {a af : Act} {Q : Exit → Act → World → Prop}

theorem Mm.suffix : ∀ {Lg : List Ent}, Mm D w0 w (Lg ++ L) → Mm D w0 w L
  | [], M => M
  | _ :: _, M => Mm.suffix (Lg := _) (M.drop 0)

/-- What an operation gives, by a walk. -/
theorem yield_walk (hg : o.guard = none) {d : Nat} (hd : o.dst = some d) (hlt : d < a.tmps.size) {R : Value → World → Prop} (h : wpList P ops (fun e a' w' => e = .normal ∧ a'.defers = a.defers ∧ R (a'.tmps.getD d undef) w') [o] a w) : yield P o a w R := by
  unfold wpList at h
  rw [if_pos (by simp [Region.wanted, hg])] at h
  have hput : ∀ u, (a.put o.dst u).tmps.getD d undef = u := fun u => by simp [Act.put, hd, hlt]
  rcases h with h | ⟨_, a', w', he, _⟩
  case inr => cases he
  unfold Oper.wp at h
  unfold yield
  generalize (execOp a.eval o).run P w = r at *
  cases r with
  | ok n w' =>
    cases n <;> simp only [Oper.upon, wpList] at h <;> simp only [yieldR]
    case value u => obtain ⟨_, _, h⟩ := h; rwa [hput] at h
    case skip => obtain ⟨_, _, h⟩ := h; rwa [hput] at h
    case defer x =>
      obtain ⟨_, h, _⟩ := h
      simp [Act.put, hd] at h
    case enter f args =>
      refine h.mono fun e w'' he => ?_
      cases e with
      | returned u => obtain ⟨_, _, he⟩ := he; rw [hput] at he; exact ⟨u, rfl, he⟩
      | panicked c => cases he.1
      | outgrown => obtain ⟨_, _, h, _⟩ := he; cases h
    case row row args => exact Rows.mono h fun u w'' he => by obtain ⟨_, _, he⟩ := he; rwa [hput] at he
  | halt x w' => cases x <;> simp [Oper.upon] at h

/-- What is known when some floating operations have been done. -/
def Stg (St : List Value → List Ent → Prop) (D : Nat → Prop) (w0 : World) (L : List Ent) (g : List Value) (w : World) : Prop := ∃ Lg, St g Lg ∧ Mm D w0 w (Lg ++ L)
/-- ONE OPERATION FLOATS. -/
theorem wp_region_mmf1 {id : Nat} {l : List Oper} (M : Mm D w0 w L) (I : List Nat) (s1 n : Nat) (o1 : Oper) (St : List Value → List Ent → Prop) (hm : P.follows .mixedOrders = true) (hB : newI l.toArray I [s1] n = true) (h1 : l[s1]? = some o1) (hg1 : o1.guard = none) (h0 : St [] [])
    (ht : wpTextG P (Stg St D w0 L) l.toArray (I.filterMap fun i => l[i]?) a af) (hA : ∀ Lg w, St [] Lg → Mm D w0 w (Lg ++ L) → yield P o1 af w fun u w' => Stg St D w0 L [u] w')
    (hQ : ∀ v Lg w', St [v] Lg → Mm D w0 w' (Lg ++ L) → wpList P l.toArray Q (l.drop n) (af.put o1.dst v) w') : (Code.region id l.toArray true).wp P Q a w :=
  wp_region_float1 I s1 n o1 (Stg St D w0 L) hm hB h1 hg1 (fun w ⟨Lg, h, M⟩ => hA Lg w h M) ⟨[], h0, M.drew⟩ ht fun v w' ⟨Lg, h, M⟩ => hQ v Lg w' h M
/-- TWO OPERATIONS FLOAT. -/
theorem wp_region_mmf2 {id : Nat} {l : List Oper} (M : Mm D w0 w L) (I : List Nat) (s1 s2 n : Nat) (o1 o2 : Oper) (St : List Value → List Ent → Prop) (hm : P.follows .mixedOrders = true) (hB : newI l.toArray I [s1, s2] n = true) (h1 : l[s1]? = some o1) (hg1 : o1.guard = none) (h2 : l[s2]? = some o2) (hg2 : o2.guard = none) (h0 : St [] [])
    (ht : wpTextG P (Stg St D w0 L) l.toArray (I.filterMap fun i => l[i]?) a af) (hA : ∀ Lg w, St [] Lg → Mm D w0 w (Lg ++ L) → yield P o1 af w fun u w' => Stg St D w0 L [u] w')
    (hA2 : ∀ v Lg w, St [v] Lg → Mm D w0 w (Lg ++ L) → yield P o2 (af.put o1.dst v) w fun u w' => Stg St D w0 L [v, u] w')
    (hQ : ∀ v u Lg w', St [v, u] Lg → Mm D w0 w' (Lg ++ L) → wpList P l.toArray Q (l.drop n) ((af.put o1.dst v).put o2.dst u) w') : (Code.region id l.toArray true).wp P Q a w :=
  wp_region_float2 I s1 s2 n o1 o2 (Stg St D w0 L) hm hB h1 hg1 h2 hg2 (fun w ⟨Lg, h, M⟩ => hA Lg w h M) (fun v w ⟨Lg, h, M⟩ => hA2 v Lg w h M) ⟨[], h0, M.drew⟩ ht fun v u w' ⟨Lg, h, M⟩ => hQ v u Lg w' h M
/-- THREE OPERATIONS FLOAT. -/
theorem wp_region_mmf3 {id : Nat} {l : List Oper} (M : Mm D w0 w L) (I : List Nat) (s1 s2 s3 n : Nat) (o1 o2 o3 : Oper) (St : List Value → List Ent → Prop) (hm : P.follows .mixedOrders = true) (hB : newI l.toArray I [s1, s2, s3] n = true) (h1 : l[s1]? = some o1) (hg1 : o1.guard = none) (h2 : l[s2]? = some o2) (hg2 : o2.guard = none) (h3 : l[s3]? = some o3) (hg3 : o3.guard = none) (h0 : St [] [])
    (ht : wpTextG P (Stg St D w0 L) l.toArray (I.filterMap fun i => l[i]?) a af) (hA : ∀ Lg w, St [] Lg → Mm D w0 w (Lg ++ L) → yield P o1 af w fun u w' => Stg St D w0 L [u] w')
    (hA2 : ∀ v Lg w, St [v] Lg → Mm D w0 w (Lg ++ L) → yield P o2 (af.put o1.dst v) w fun u w' => Stg St D w0 L [v, u] w')
    (hA3 : ∀ v u Lg w, St [v, u] Lg → Mm D w0 w (Lg ++ L) → yield P o3 ((af.put o1.dst v).put o2.dst u) w fun x w' => Stg St D w0 L [v, u, x] w')
    (hQ : ∀ v u x Lg w', St [v, u, x] Lg → Mm D w0 w' (Lg ++ L) → wpList P l.toArray Q (l.drop n) (((af.put o1.dst v).put o2.dst u).put o3.dst x) w') : (Code.region id l.toArray true).wp P Q a w :=
  wp_region_float3 I s1 s2 s3 n o1 o2 o3 (Stg St D w0 L) hm hB h1 hg1 h2 hg2 h3 hg3 (fun w ⟨Lg, h, M⟩ => hA Lg w h M) (fun v w ⟨Lg, h, M⟩ => hA2 v Lg w h M) (fun v u w ⟨Lg, h, M⟩ => hA3 v u Lg w h M) ⟨[], h0, M.drew⟩ ht fun v u x w' ⟨Lg, h, M⟩ => hQ v u x Lg w' h M
/-- A new variable among them. -/
def StA (w0 : World) (cs : Array Value) (ty : Nat) : List Value → List Ent → Prop
  | [], Lg => Lg = []
  | v :: _, Lg => ∃ b, v = .pointer (some ⟨b, 0, none⟩) ∧ w0.heap.size ≤ b ∧ Lg = [.box b cs ty]
theorem yield_allocM (M : Mm D w0 w L) {ty : Nat} {cs : Array Value} (ho : isAlloc o.op ty = true) {z : Value} (hz : ∀ w, (zeroValue ty).run P w = .ok z w) (hc : z.cells = cs) : yield P o a w fun u w' => Stg (StA w0 cs ty) D w0 L [u] w' := by
  have h := isAlloc_spec ho
  subst hc
  unfold yield
  have e : (Instr.alloc ty true (.tuple #[])).run P w = .ok (.pointer (some ⟨w.heap.size, 0, none⟩)) (w.alloc (.cells z.cells ty)) := by
    simp [Instr.alloc, newVar, Sem.run_bind, hz]
    first | done | rfl
  simp only [execOp, h, Sem.run_bind, e, Result.andThen_ok, Sem.run_pure, yieldR]
  exact ⟨_, ⟨_, rfl, M.size, rfl⟩, M.alloc _ _⟩
theorem wp_region_mma {id : Nat} {l : List Oper} (M : Mm D w0 w L) (I : List Nat) (s1 n : Nat) (o1 : Oper) (ty : Nat) (cs : Array Value) (hm : P.follows .mixedOrders = true) (hB : newI l.toArray I [s1] n = true) (h1 : l[s1]? = some o1) (hg1 : o1.guard = none)
    (ho : isAlloc o1.op ty = true) {z : Value} (hz : ∀ w, (zeroValue ty).run P w = .ok z w) (hc : z.cells = cs)
    (ht : wpTextG P (Stg (StA w0 cs ty) D w0 L) l.toArray (I.filterMap fun i => l[i]?) a af)
    (hQ : ∀ b w', w0.heap.size ≤ b → Mm D w0 w' (.box b cs ty :: L) → wpList P l.toArray Q (l.drop n) (af.put o1.dst (.pointer (some ⟨b, 0, none⟩))) w') : (Code.region id l.toArray true).wp P Q a w :=
  wp_region_mmf1 M I s1 n o1 (StA w0 cs ty) hm hB h1 hg1 rfl ht (fun Lg w h M => by
    have h' : Lg = [] := h
    subst h'
    exact yield_allocM M ho hz hc) fun v Lg w' h M => by
    obtain ⟨b, rfl, hb, rfl⟩ := h
    exact hQ b w' hb M
/-- A new slice of given parts among them. -/
def StB (w0 : World) (cs : Array Value) (e len : Nat) : List Value → List Ent → Prop
  | [], Lg => Lg = []
  | v :: _, Lg => ∃ b, v = .slice (some ⟨b, 0, none⟩) len len ∧ w0.heap.size ≤ b ∧ Lg = [.box b cs e]
theorem wp_region_mmb {id : Nat} {l : List Oper} (M : Mm D w0 w L) (I : List Nat) (s1 n : Nat) (o1 : Oper) (ty len e : Nat) (vals : List (Nat × Value)) (cs : Array Value) (hm : P.follows .mixedOrders = true) (hB : newI l.toArray I [s1] n = true) (h1 : l[s1]? = some o1) (hg1 : o1.guard = none)
    (ho : isBsl o1.op ty len = true)
    (ht : wpTextG P (Stg (StB w0 cs e len) D w0 L) l.toArray (I.filterMap fun i => l[i]?) a af)
    (hv : (bslParts o1.op).map (fun p => (p.1, af.eval p.2)) = vals) (hb : ∀ w : World, (Instr.buildSlice ty len vals.toArray).run P w = .ok (.slice (some ⟨w.heap.size, 0, none⟩) len len) (w.alloc (.cells cs e)))
    (hQ : ∀ b w', w0.heap.size ≤ b → Mm D w0 w' (.box b cs e :: L) → wpList P l.toArray Q (l.drop n) (af.put o1.dst (.slice (some ⟨b, 0, none⟩) len len)) w') : (Code.region id l.toArray true).wp P Q a w :=
  wp_region_mmf1 M I s1 n o1 (StB w0 cs e len) hm hB h1 hg1 rfl ht (fun Lg w h M => by
    have h' : Lg = [] := h
    subst h'
    subst hv
    unfold yield
    have hs := isBsl_spec ho
    rw [show execOp af.eval o1 = (do pure (.value (← Instr.buildSlice ty len ((bslParts o1.op).map (fun p => (p.1, af.eval p.2))).toArray))) by unfold execOp; rw [hs]; simp [bslParts]]
    simp only [Sem.run_bind, hb, Result.andThen_ok, Sem.run_pure, yieldR]
    exact ⟨_, ⟨_, rfl, M.size, rfl⟩, M.alloc _ _⟩) fun v Lg w' h M => by
    obtain ⟨b, rfl, hb, rfl⟩ := h
    exact hQ b w' hb M
end
end Go.Proofs.Ytinjjaoikofkdaa
