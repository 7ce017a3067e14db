/- A queue: a slice that may begin within its row. -/
import Derived.Test.YtinjjaoikofkdaaK2
import Derived.ArgAppend
namespace Go.Proofs.Ytinjjaoikofkdaa
set_option linter.unusedSimpArgs false
set_option linter.unusedVariables false
open Go Go.RowKit

/-- A slice of n elements of size cells each whose row is its own from where it begins. -/
structure Que (w : World) (base e size : Nat) (v : Value) (n : Nat) (xs : List Value) : Prop where
  out : ∃ g off cap cur, v = .slice (some ⟨g, off, none⟩) n cap ∧ base ≤ g ∧ blk w g cur e ∧ n ≤ cap ∧ off + cap * size ≤ cur.size ∧ xs.length = n * size ∧ ∀ j, j < n * size → cur[off + j]? = xs[j]?

theorem Que.new {w : World} {base e size b n : Nat} {cs : Array Value} (hb : blk w b cs e) (hbase : base ≤ b) (hs : cs.size = n * size) : Que w base e size (.slice (some ⟨b, 0, none⟩) n n) n cs.toList :=
  ⟨b, 0, n, cs, rfl, hbase, hb, Nat.le_refl _, by omega, by simpa using hs, fun j hj => by simp⟩
theorem Que.of_own {w : World} {base e size n : Nat} {v : Value} {xs : List Value} (h : w.ownsRow base e size v n xs) (hn : 0 < n) : Que w base e size v n xs := by
  rcases h.2 with ⟨_, h0⟩ | ⟨g, cap, cur, rfl, hb, hg, h1, h2, h3, h4⟩
  · omega
  · refine ⟨g, 0, cap, cur, rfl, hb, ⟨hg⟩, h1, by omega, h.1, fun j hj => ?_⟩
    rw [← h4, List.getElem?_take, if_pos hj, Nat.zero_add, Array.getElem?_toList]
theorem Que.mono {w : World} {base base' e size n : Nat} {v : Value} {xs : List Value} (h : Que w base e size v n xs) (hb : base' ≤ base) : Que w base' e size v n xs := by
  obtain ⟨g, off, cap, cur, h1, h2, h3⟩ := h.out
  exact ⟨g, off, cap, cur, h1, by omega, h3⟩
theorem Que.lt {w : World} {base e size n : Nat} {v : Value} {xs : List Value} (h : Que w base e size v n xs) : ∀ k, v.ownBlock = some k → base ≤ k ∧ k < w.heap.size := fun k hk => by
  obtain ⟨g, off, cap, cur, rfl, h2, h3, _⟩ := h.out
  cases hk; exact ⟨h2, h3.lt⟩
theorem Que.kept {w w' : World} {base e size n : Nat} {v : Value} {xs : List Value} {row : Option Nat} (h : Que w base e size v n xs) (hg : w.grownBy w' row) (hne : v.ownBlock ≠ row) : Que w' base e size v n xs := by
  obtain ⟨g, off, cap, cur, rfl, h2, h3, h4⟩ := h.out
  exact ⟨g, off, cap, cur, rfl, h2, h3.grown hg hne, h4⟩
theorem Que.later {w w' : World} {base e size n : Nat} {v : Value} {xs : List Value} (h : Que w base e size v n xs) (hb : Below w.heap.size w w') : Que w' base e size v n xs := by
  obtain ⟨g, off, cap, cur, rfl, h2, h3, h4⟩ := h.out
  exact ⟨g, off, cap, cur, rfl, h2, h3.later hb, h4⟩
theorem Que.drew {w : World} {base e size n : Nat} {v : Value} {xs : List Value} (h : Que w base e size v n xs) : Que w.drew base e size v n xs := by
  obtain ⟨g, off, cap, cur, rfl, h2, h3, h4⟩ := h.out
  exact ⟨g, off, cap, cur, rfl, h2, h3.drew, h4⟩
theorem Que.form {w : World} {base e size n : Nat} {v : Value} {xs : List Value} (h : Que w base e size v n xs) : ∃ g off cap, v = .slice (some ⟨g, off, none⟩) n cap ∧ n ≤ cap := by
  obtain ⟨g, off, cap, cur, rfl, h2, h3, h4, _⟩ := h.out
  exact ⟨g, off, cap, rfl, h4⟩
theorem Que.cell {w : World} {base e size n g off cap : Nat} {xs : List Value} (h : Que w base e size (.slice (some ⟨g, off, none⟩) n cap) n xs) (j : Nat) (u : Value) (hj : xs[j]? = some u) : w.cell? ⟨g, off + j, none⟩ = some u := by
  obtain ⟨g', off', cap', cur, h1, h2, h3, h4, h5, h6, h7⟩ := h.out
  cases h1
  have hjl : j < n * size := by rw [← h6]; exact (List.getElem?_eq_some_iff.1 hj).1
  exact h3.cell _ _ (by rw [h7 j hjl, hj])
/-- Without its first element. -/
theorem Que.tail {w : World} {base e size n g off cap : Nat} {xs : List Value} (h : Que w base e size (.slice (some ⟨g, off, none⟩) (n + 1) cap) (n + 1) xs) :
    Que w base e size (.slice (if cap = 1 then some ⟨g, off, none⟩ else some ⟨g, off + size, none⟩) n (cap - 1)) n (xs.drop size) := by
  obtain ⟨g', off', cap', cur, h1, h2, h3, h4, h5, h6, h7⟩ := h.out
  cases h1
  rw [Nat.add_mul, Nat.one_mul] at h6 h7
  by_cases hc : cap = 1
  · subst hc
    rw [if_pos rfl]
    obtain rfl : n = 0 := by omega
    exact ⟨g, off, 0, cur, rfl, h2, h3, Nat.le_refl _, by omega, by simp [h6], fun j hj => by omega⟩
  · rw [if_neg hc]
    refine ⟨g, off + size, cap - 1, cur, rfl, h2, h3, by omega, ?_, by rw [List.length_drop, h6]; omega, fun j hj => ?_⟩
    · have : (cap - 1) * size + size = cap * size := by rw [← Nat.succ_mul]; congr 1; omega
      omega
    · rw [Nat.add_assoc, h7 (size + j) (by omega), List.getElem?_drop]

section
variable {P : Program}
/-- append of m elements to a queue. -/
theorem wpList_qapp {ops : Array Oper} {rest : List Oper} {o : Oper} {a : Act} {w : World} {Q : Exit → Act → World → Prop} (hgd : o.guard = none) (s x : Operand) (t : TypeId)
    (ho : o.op = .call { callee := .builtin .append, args := #[s, x], argTypes := #[t, t] })
    (base : Nat) (e : TypeId) (z : Value) (size bytes : Nat) (ht : P.underlying t = some (.slice e)) (hinfo : (P.info? e).map (fun i => (i.zero, i.size, i.bytes)) = some (some z, size, bytes))
    (hzs : z.cells.size = size) (hsz : 0 < size) (hby : 0 < bytes) (v : Value) (n : Nat) (xs : List Value) (hs : a.eval s = v) (hq : Que w base e size v n xs)
    (b m : Nat) (hx : a.eval x = .slice (some ⟨b, 0, none⟩) m m) (ys : Array Value) (hy : blk w b ys e) (hys : ys.size = m * size) (h1 : flat ys) (hm : 0 < m)
    (hbytes : (n + m) * bytes ≤ 140737488355328) (hbase : base ≤ w.heap.size)
    (h : ∀ v' w', Que w' base e size v' (n + m) (xs ++ ys.toList) → w.grownBy w' v.ownBlock → (v'.ownBlock = v.ownBlock ∨ ∃ g, v'.ownBlock = some g ∧ w.heap.size ≤ g) → wpList P ops Q rest (a.put o.dst v') w') :
    wpList P ops Q (o :: rest) a w := by
  obtain ⟨i0, hi, hzz⟩ := Option.map_eq_some_iff.1 hinfo
  simp only [Prod.mk.injEq] at hzz
  obtain ⟨hz0, hz1, hz2⟩ := hzz
  have hnews : ∀ j u, ys.toList[j]? = some u → w.cell? ((⟨b, 0, none⟩ : Addr).add j) = some u := fun j u hu => by
    rw [add_none, Nat.zero_add]; exact hy.cell j u (by simpa using hu)
  have key : ∃ v' w', (Builtin.append_ #[t, t] o.type #[v, .slice (some ⟨b, 0, none⟩) m m]).run P w = .ok v' w' ∧ Que w' base e size v' (n + m) (xs ++ ys.toList) ∧ w.grownBy w' v.ownBlock ∧ (v'.ownBlock = v.ownBlock ∨ ∃ g, v'.ownBlock = some g ∧ w.heap.size ≤ g) := by
    obtain ⟨g, off, cap, cur, rfl, q2, q3, q4, q5, q6, q7⟩ := hq.out
    have hlen : (xs ++ ys.toList).length = (n + m) * size := by rw [List.length_append, q6, Array.length_toList, hys, Nat.add_mul]
    by_cases hroom : n + m ≤ cap
    · have hfit : n * size + m * size ≤ cap * size := by rw [← Nat.add_mul]; exact Nat.mul_le_mul_right _ hroom
      have hyl : ys.toList.length = m * size := by rw [Array.length_toList, hys]
      have hr := run_append_room_cells (P := P) w t o.type e i0 ht hi g off n cap ⟨b, 0, none⟩ m m ys.toList (by rw [hz1]; exact hyl) hnews (flat_one h1) hroom
        (fun j hj => by rw [q3.cell _ (cur[off + n * i0.size + j]'(by rw [hz1]; omega)) (Array.getElem?_eq_getElem _)]; rfl) (fun j hj => q3.free _)
      rw [hz1] at hr
      have e1 := run_storeCells_cells (P := P) g (off + n * size) ys.toList 0 w (fun j hj => by rw [q3.cell _ (cur[off + n * size + 0 + j]'(by omega)) (Array.getElem?_eq_getElem _)]; rfl) (fun j hj => q3.free _) (flat_one h1)
      have e2 := run_storeCells_blk (P := P) e g (off + n * size) ys.toList h1 w cur 0 q3 (by omega)
      rw [e2] at e1
      simp only [Nat.add_zero, Result.ok.injEq, true_and] at e1
      rw [← e1] at hr
      refine ⟨_, _, hr, ⟨g, off, cap, _, rfl, q2, blk_put q3 e, hroom, by rw [splice_size 0]; exact q5, hlen, fun j hj => ?_⟩, ⟨rfl, rfl, rfl, by simp [World.put], fun k _ hk => by simp only [World.put]; rw [Array.getElem?_setIfInBounds, if_neg (fun e => hk (by rw [← e]; rfl))]⟩, .inl rfl⟩
      rw [Nat.add_mul] at hj
      rw [splice_get _ _ _ _ (by omega)]
      by_cases hjn : j < n * size
      · rw [if_neg (by omega), q7 j hjn, List.getElem?_append_left (by omega)]
      · rw [if_pos (by omega), List.getElem?_append_right (by omega), q6]
        congr 1; omega
    · obtain ⟨v', w', hr, hO, hG⟩ := run_append_arg_grows (P := P) w t o.type e i0 z size bytes ht hi hz0 hz1 hz2 hzs hsz ⟨g, off, none⟩ n cap xs q6 (fun j u hu => by rw [add_none]; exact hq.cell j u hu)
        ⟨b, 0, none⟩ m m ys.toList (by rw [Array.length_toList, hys]) hnews (by omega) (by
          have : n + m ≤ (n + m) * bytes := Nat.le_mul_of_pos_right _ hby
          simp only [maxLen]; omega) hbytes
      refine ⟨v', w', hr, (Que.of_own hO (by omega)).mono hbase, ⟨hG.os, hG.tape, hG.output, hG.size, fun k hk _ => hG.block k hk (by simp)⟩, ?_⟩
      obtain ⟨g', off', cap', hv', _⟩ := (Que.of_own hO (by omega)).form
      exact .inr ⟨g', by rw [hv']; rfl, (hO.lt g' (by rw [hv']; rfl)).1⟩
  obtain ⟨v', w', hr, k1, k2, k3⟩ := key
  refine wpList_plain hgd fun K hK => ?_
  unfold Oper.wp execOp
  simp only [ho, resolve, invoke, builtin, Sem.run_bind, Sem.run_pure, Result.andThen_ok, List.map_toArray, List.map_cons, List.map_nil, hs, hx, hr]
  exact hK _ _ (h v' w' k1 k2 k3)
end
end Go.Proofs.Ytinjjaoikofkdaa
