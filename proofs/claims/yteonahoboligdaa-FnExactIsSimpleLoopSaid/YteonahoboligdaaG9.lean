/- All subloops, for the program: the sort, and a contract. -/
import Derived.Test.YteonahoboligdaaG8
import Derived.Shelf.SlGeneric
import Derived.Shelf.SlSortCmp.Whole1
import Derived.Ground.SlsfProg
namespace Go.Proofs
open Go.RowKit Go.Sort Go.Shelf
shelf_lay_g SlLaysF.n6 Slsf 6 at Try 75 as Try.sortF
end Go.Proofs

namespace Go.Proofs.Yteonahoboligdaa
set_option linter.unusedSimpArgs false
set_option linter.unusedVariables false
open Go Go.RowKit Go.Sort

theorem bsl_st0 (w : World) : (Instr.buildSlice 53 0 [].toArray).run Try.prog w = .ok (.slice (some ⟨w.heap.size, 0, none⟩) 0 0) (w.alloc (.cells #[] 73)) := by kernel_rfl
theorem bsl_st1 (x : Int) (w : World) : (Instr.buildSlice 53 1 [(0, Value.int .i64 x)].toArray).run Try.prog w = .ok (.slice (some ⟨w.heap.size, 0, none⟩) 1 1) (w.alloc (.cells #[.int .i64 x] 73)) := by kernel_rfl
theorem inf_elst : (Try.prog.info? 73).map (fun i => (i.zero, i.size, i.bytes)) = some (some (.int .i64 0), 1, 8) := by kernel_rfl
/-! ### A row in a sort, elements of any kind of one cell -/
section
variable {α : Type} [Inhabited α] {enc : α → Value}
theorem holds_enc {w : World} {g : Nat} {cur : Array Value} {e : TypeId} {d : List α} (hb : w.heap[g]? = some (.cells cur e (0, 0))) (ht : cur.toList.take d.length = d.map enc) : Holds enc w g 0 d.toArray := fun j hj => by
  have hj' : j < d.length := by simpa using hj
  refine ⟨?_, by simp [World.frozen?, hb]⟩
  have h1 : cur.toList[j]? = (d.map enc)[j]? := by rw [← ht, List.getElem?_take, if_pos hj']
  rw [Array.getElem?_toList] at h1
  simp only [World.cell?, hb, Nat.zero_add, Option.isSome_none, Bool.false_eq_true, if_false]
  rw [h1]
  simp [hj']
theorem sorted_enc {w : World} {base g cap n : Nat} {e : TypeId} {os : Array Obj} {cur : Array Value} {ts : List α} {k : Nat} (hl : ts.length = k) (hbase : base ≤ g) (hb : w.heap[g]? = some (.cells cur e (0, 0))) (h1 : k ≤ cap) (h2 : cap ≤ maxLen) (h3 : cur.size = cap * 1) :
    (sortWorld enc w g 0 n ts.toArray os).ownsRow base e 1 (.slice (some ⟨g, 0, none⟩) k cap) k (ts.map enc) ∧ w.grownBy (sortWorld enc w g 0 n ts.toArray os) (some g) := by
  subst hl
  have hg : g < w.heap.size := (Array.getElem?_eq_some_iff.1 hb).1
  have hheap : (sortWorld enc w g 0 n ts.toArray os).heap[g]? = some (.cells (putCells enc 0 ts.toArray cur) e (0, 0)) := by
    unfold sortWorld
    rw [heap_grow_old _ _ (by simpa using hg)]
    simp [putRow, mapBlock, Sort.ahead, Array.getElem?_modify, hb, onCells]
  refine ⟨⟨by simp, .inr ⟨g, cap, _, rfl, hbase, hheap, h1, h2, by simp [putCells, h3], ?_⟩⟩, rfl, rfl, rfl, by simp [sortWorld], fun k hk hne => ?_⟩
  · rw [Nat.mul_one]
    apply List.ext_getElem?
    intro j
    by_cases hj : j < ts.length
    · rw [List.getElem?_take_of_lt hj, Array.getElem?_toList]
      simp [putCells, hj, show j < cur.size by omega]
    · rw [List.getElem?_take_eq_none (by omega), List.getElem?_eq_none (by simp; omega)]
  · unfold sortWorld
    rw [heap_grow_old _ _ (by simpa using hk)]
    have : g ≠ k := fun e => hne (by rw [e])
    simp [putRow, mapBlock, Sort.ahead, Array.getElem?_modify, this]
end

/-- A set as an element of the row that is sorted. -/
def encF (x : Fin 1024) : Value := .int .i64 (x.val : Nat)
def cfF (x y : Fin 1024) : Int := cfS x.val y.val
theorem cfS_bef (a b : Nat) : decide (cfS a b < 0) = befL (mL a) (mL b) := by
  unfold cfS befL
  split
  · rfl
  · rw [Bool.eq_iff_iff, decide_eq_true_eq, decide_eq_true_eq]; omega
theorem ltF (x y : Fin 1024) : ltOf cfF x y = befL (mL x.val) (mL y.val) := cfS_bef _ _
theorem swoF : SWO (ltOf cfF) where
  irrefl x := by rw [ltF, befL_irr]
  trans x y z h1 h2 := by rw [ltF] at *; exact befL_trans h1 h2
  ntrans x y z h1 h2 := by
    rw [ltF] at *
    cases h : befL (mL x.val) (mL z.val) with
    | false => rfl
    | true =>
      by_cases e : mL x.val = mL y.val
      · rw [e, h2] at h; cases h
      · rcases befL_tot e with h3 | h3
        · rw [h1] at h3; cases h3
        · rw [befL_trans h3 h] at h2; cases h2
theorem lays_F (blk off size : Nat) (w : World) : CmpLays1 Try.prog 76 #[] encF cfF blk off size w := fun m os dk _ x y =>
  (compareSets_any x.val y.val x.isLt y.isLt (sortWorld encF w blk off m dk os)).mono fun _ _ ⟨he, hb, hd⟩ => ⟨he, grow_of_below hb hd⟩
theorem sortF_row (l : List (Fin 1024)) (hl : 1 ≤ l.length) (hl2 : l.length ≤ 2000) (B : Nat) (v : Value) (w : World) (h : w.ownsRow B 73 1 v l.length (l.map encF)) :
    Calls Try.prog 75 #[v, .func (.func 76) #[] #[]] w fun e w' => e = .returned (.tuple #[]) ∧ Below B w w' ∧ ∃ l' : List (Fin 1024), l'.Perm l ∧ l'.Pairwise (fun x y => ltOf cfF y x = false) ∧ w'.ownsRow B 73 1 v l.length (l'.map encF) := by
  rcases h.2 with ⟨h0, _⟩ | ⟨g, cap, cur, rfl, hb, hh, h1, h2, h3, h4⟩
  · omega
  · rw [Nat.mul_one] at h4
    have hH : Holds encF w g 0 l.toArray := holds_enc hh h4
    have hg : g < w.heap.size := (Array.getElem?_eq_some_iff.1 hh).1
    have hsz : l.toArray.size = l.length := by simp
    have eg : ∀ args w, (callFunc 76 args).run Try.prog w = .ok (.enter 76 args) w := enters_of (P := Try.prog) (f := 76) (by exact Try.func76) (by kernel_rfl) rfl
    have hS := Any.slices_SortFunc Try.sortF encF (fun _ => rfl) cfF swoF 76 #[] g 0 cap l.toArray w eg (lays_F g 0 l.toArray.size w) hH hg (by rw [hsz]; omega)
    rw [hsz] at hS
    refine Calls.mono (show Calls Try.prog 75 _ _ _ from hS) ?_
    rintro e w' ⟨rfl, d', n, os, ⟨hp1, _, hp3⟩, hso, rfl⟩
    have hd' : d'.size = l.length := by rw [hp1, hsz]
    have hperm : d'.toList.Perm l := by
      have e1 : (d'.extract 0 l.length).toList = d'.toList := by
        rw [← hd']; simp
      have e2 : (l.toArray.extract 0 l.length).toList = l := by simp
      rw [e1, e2] at hp3; exact hp3
    have hs := sorted_enc (enc := encF) (base := B) (ts := d'.toList) (n := n) (os := os) (by rw [Array.length_toList, hd']) hb hh h1 h2 h3
    rw [show d'.toList.toArray = d' from by simp] at hs
    obtain ⟨hs1, a1, a2, a3, a4, a5⟩ := hs
    refine ⟨rfl, ⟨a1, a2, a3, a4, fun k hk => a5 k (by omega) fun e => by cases e; omega⟩, d'.toList, hperm, ?_, hs1⟩
    rw [List.pairwise_iff_getElem]
    intro i j hi hj hij
    rw [Array.length_toList] at hi hj
    have := hso i j (Nat.zero_le _) hij (by omega)
    rw [getElem!_pos d' i hi, getElem!_pos d' j hj] at this
    exact this

/-! ### The sets that are subloops -/
open Classical in
/-- The subloops among the first k odd numbers. -/
noncomputable def sbL (t : Nat → Nat → Nat) : Nat → List Nat
  | 0 => []
  | k + 1 => if genM t (2 * k + 1) = 2 * k + 1 then sbL t k ++ [2 * k + 1] else sbL t k
theorem sbL_mem {t : Nat → Nat → Nat} {m : Nat} : ∀ {k : Nat}, m ∈ sbL t k ↔ ∃ j, j < k ∧ m = 2 * j + 1 ∧ genM t m = m
  | 0 => by simp [sbL]
  | k + 1 => by
    classical
    rw [sbL]
    split
    · rename_i h
      rw [List.mem_append, sbL_mem, List.mem_singleton]
      constructor
      · rintro (⟨j, h1, h2⟩ | rfl)
        · exact ⟨j, by omega, h2⟩
        · exact ⟨k, by omega, rfl, h⟩
      · rintro ⟨j, h1, h2, h3⟩
        by_cases e : j = k
        · subst e; exact .inr h2
        · exact .inl ⟨j, by omega, h2, h3⟩
    · rename_i h
      rw [sbL_mem]
      constructor
      · rintro ⟨j, h1, h2⟩; exact ⟨j, by omega, h2⟩
      · rintro ⟨j, h1, h2, h3⟩
        by_cases e : j = k
        · subst e; subst h2; exact absurd h3 h
        · exact ⟨j, by omega, h2, h3⟩
theorem sbL_len (t : Nat → Nat → Nat) : ∀ k, (sbL t k).length ≤ k
  | 0 => by simp [sbL]
  | k + 1 => by
    classical
    rw [sbL]
    have := sbL_len t k
    split
    · rw [List.length_append, List.length_singleton]; omega
    · omega
theorem sbL_nodup (t : Nat → Nat → Nat) : ∀ k, (sbL t k).Pairwise (· ≠ ·)
  | 0 => by simp [sbL]
  | k + 1 => by
    classical
    rw [sbL]
    split
    · refine List.pairwise_append.2 ⟨sbL_nodup t k, by simp, fun a ha b hb => ?_⟩
      obtain ⟨j, h1, rfl, _⟩ := sbL_mem.1 ha
      rw [List.mem_singleton.1 hb]; omega
    · exact sbL_nodup t k
theorem bits_of_lt {m n : Nat} (h : m < 2 ^ n) : ∀ i, m.testBit i = true → i < n := fun i hi => by
  rcases Nat.lt_or_ge i n with h1 | h1
  · exact h1
  · rw [Nat.testBit_lt_two_pow (Nat.lt_of_lt_of_le h (Nat.pow_le_pow_right (n := 2) (by omega) h1))] at hi; cases hi
theorem lt_of_bits {m n : Nat} (h : ∀ i, m.testBit i = true → i < n) : m < 2 ^ n := Nat.lt_pow_two_of_testBit m fun i hi => by
  cases hb : m.testBit i with
  | false => rfl
  | true => have := h i hb; omega
theorem sbL_subs {n : Nat} {t : Nat → Nat → Nat} (hs : IsSq (n : Int) t) {k : Nat} (h1 : 2 * k ≤ 2 ^ n) (h2 : 2 ^ n ≤ 2 * k + 1) {m : Nat} : m ∈ sbL t k ↔ SubL n t m := by
  have hn : n ≤ 10 := by have := hs.hi; omega
  have h10 : (2 : Nat) ^ n ≤ 2 ^ 10 := Nat.pow_le_pow_right (by omega) hn
  rw [sbL_mem]
  constructor
  · rintro ⟨j, hj, rfl, hg⟩
    have hb := bits_of_lt (show 2 * j + 1 < 2 ^ n by omega)
    exact ⟨by omega, (genM_self hs hb).1 hg, hb⟩
  · rintro ⟨hm, hc, hb⟩
    have hlt := lt_of_bits hb
    have h0 : m.testBit 0 = true := hc.zero
    rw [Nat.testBit_zero, decide_eq_true_eq] at h0
    exact ⟨m / 2, by omega, by omega, (genM_self hs hb).2 hc⟩
/-- Bits as elements. -/
def toFin (l : List Nat) : List (Fin 1024) := l.map fun m => if h : m < 1024 then ⟨m, h⟩ else 0
theorem toFin_enc {l : List Nat} (h : ∀ m ∈ l, m < 1024) : (toFin l).map encF = i64N l := by
  unfold toFin i64N
  rw [List.map_map]
  refine List.map_congr_left fun m hm => ?_
  simp only [Function.comp, dif_pos (h m hm), encF]
theorem sorted_subs {n : Nat} {t : Nat → Nat → Nat} {l : List Nat} (hl : l.Pairwise (· ≠ ·)) (hm : ∀ m, m ∈ l ↔ SubL n t m) {l' : List (Fin 1024)} (hp : l'.Perm (toFin l)) (hs : l'.Pairwise fun x y => ltOf cfF y x = false) : l'.map encF = i64N (subs n t) := by
  have hlt : ∀ m ∈ l, m < 1024 := fun m h => ((hm m).1 h).1
  have hmem : ∀ x : Fin 1024, x ∈ l' ↔ SubL n t x.val := fun x => by
    rw [hp.mem_iff]
    unfold toFin
    rw [List.mem_map]
    constructor
    · rintro ⟨m, h1, rfl⟩
      rw [dif_pos (hlt m h1)]
      exact (hm m).1 h1
    · exact fun h => ⟨x.val, (hm _).2 h, by rw [dif_pos x.isLt]⟩
  have hnd : l'.Pairwise (· ≠ ·) := by
    have h1 : (toFin l).Pairwise (· ≠ ·) := by
      unfold toFin
      refine List.pairwise_map.2 (List.Pairwise.imp_of_mem (fun {a b} ha hb h e => ?_) hl)
      rw [dif_pos (hlt a ha), dif_pos (hlt b hb)] at e
      exact h (congrArg Fin.val e)
    exact hp.symm.pairwise h1 fun h e => h e.symm
  have hsrt : Srt (l'.map fun x => mL x.val) := by
    refine List.pairwise_map.2 ((hs.and hnd).imp fun {x y} h => ?_)
    obtain ⟨h1, h2⟩ := h
    rw [ltF] at h1
    rcases befL_tot (a := mL x.val) (b := mL y.val) (fun e => h2 (Fin.ext (mL_inj x.isLt y.isLt e))) with h3 | h3
    · exact h3
    · rw [h1] at h3; cases h3
  have hall : (l'.map fun x => mL x.val) = allL n t := allL_eq hsrt fun z => by
    rw [List.mem_map]
    exact ⟨fun ⟨x, hx, e⟩ => ⟨x.val, (hmem x).1 hx, e.symm⟩, fun ⟨m, h, e⟩ => ⟨⟨m, h.1⟩, (hmem _).2 h, e.symm⟩⟩
  have hsub : l'.map Fin.val = subs n t := by
    unfold subs
    rw [← hall, List.map_map]
    exact List.map_congr_left fun x _ => (lM_mL x.isLt).symm
  rw [← hsub]
  unfold i64N
  rw [List.map_map]
  rfl

set_option maxRecDepth 100000 in
set_option maxHeartbeats 1000000 in
theorem all_any (n : Nat) (t : Nat → Nat → Nat) (h1 : 1 ≤ n) (h2 : n ≤ 10) (w : World) : Calls Try.prog 73 #[.agg (sqs (n : Int) t)] w fun e w' => e = .returned (.int .i64 ((2 ^ n - 1 : Nat) : Int)) ∧ Below w.heap.size w w' := by
  have M := Mm.start no w
  have so := sqs_order (n : Int) t
  have hw : wrap64 (wrap64 (2 ^ n) - 1) = ((2 ^ n - 1 : Nat) : Int) := by
    obtain rfl | rfl | rfl | rfl | rfl | rfl | rfl | rfl | rfl | rfl : n = 1 ∨ n = 2 ∨ n = 3 ∨ n = 4 ∨ n = 5 ∨ n = 6 ∨ n = 7 ∨ n = 8 ∨ n = 9 ∨ n = 10 := by omega
    all_goals (unfold wrap64; omega)
  have h1' : (1 : Int) ≤ n := by omega
  have h2' : (n : Int) ≤ 10 := by omega
  go_enter Try.func73, Try.ntmps73
  go_wp2_with (first | ((with_reducible apply wpM_box' M 30 (sqs (n : Int) t)); rfl; exact ⟨rfl, rfl⟩; clear M; (try clear C); intro bq w9 h_bq M; have C := M.ruleAll; simp only [Go.Proofs.Yteonahoboligdaa.ruleAll] at C))
  go_ret
  exact ⟨by first | rfl | (rw [← hw]; rfl), M.below⟩

set_option maxRecDepth 100000 in
set_option maxHeartbeats 2000000 in
theorem subloops_any (n : Nat) (t : Nat → Nat → Nat) (hs : IsSq (n : Int) t) (w : World) :
    Calls Try.prog 43 #[.agg (sqs (n : Int) t)] w fun e w' => ∃ v, e = .returned v ∧ Mm no w w' [.row w.heap.size v (subs n t).length (i64N (subs n t)) 73 1] := by
  have M := Mm.start no w
  have hn : n ≤ 10 := by have := hs.hi; omega
  have h1n : 1 ≤ n := by have := hs.lo; omega
  have HA := Hid2.mk (fun w1 => all_any n t h1n hn w1)
  have h10 : (2 : Nat) ^ n ≤ 2 ^ 10 := Nat.pow_le_pow_right (by omega) hn
  have h01 : (2 : Nat) ^ 1 ≤ 2 ^ n := Nat.pow_le_pow_right (by omega) h1n
  have hev : (2 : Nat) ^ n % 2 = 0 := by
    obtain ⟨j, rfl⟩ : ∃ j, n = j + 1 := ⟨n - 1, by omega⟩
    rw [Nat.pow_succ]; omega
  have HSB := Hid2.mk (fun m (hm : m < 2 ^ n) w1 => isSubloop_any n t hs m (by omega) (bits_of_lt hm) w1)
  have HSUB := Hid2.mk (fun k (h1 : 2 * k ≤ 2 ^ n) (h2 : 2 ^ n ≤ 2 * k + 1) m => sbL_subs hs h1 h2 (m := m))
  have HLEN := Hid2.mk (fun k => sbL_len t k)
  have HNO := Hid2.mk (fun k => sbL_nodup t k)
  have HT := Hid2.mk (fun k (h : genM t (2 * k + 1) = 2 * k + 1) => show sbL t (k + 1) = sbL t k ++ [2 * k + 1] from if_pos h)
  have HF := Hid2.mk (fun k (h : genM t (2 * k + 1) ≠ 2 * k + 1) => show sbL t (k + 1) = sbL t k from if_neg h)
  have HSN := Hid2.mk (fun l (hl : l.Pairwise (· ≠ ·)) (hm : ∀ m, m ∈ l ↔ SubL n t m) (l' : List (Fin 1024)) (hp : l'.Perm (toFin l)) (hs : l'.Pairwise fun x y => ltOf cfF y x = false) => sorted_subs hl hm hp hs)
  have HONE : Hid2 (SubL n t (genM t 0)) := ⟨genM_subL hs (zero_bits n)⟩
  generalize hpn : (2 : Nat) ^ n = P at *
  clear hs hpn
  have hP1 : P ≤ 1024 := h10
  have hP0 : 2 ≤ P := h01
  clear h10 h01
  go_enter Try.func43, Try.ntmps43
  go_wp2_with (first | ((with_reducible apply wpM_box' M 30 (sqs (n : Int) t)); rfl; exact ⟨rfl, rfl⟩; clear M; (try clear C); intro bq w9 h_bq M; have C := M.ruleAll; simp only [Go.Proofs.Yteonahoboligdaa.ruleAll] at C) | ((with_reducible apply wpM_bsl' M 53 0 73 ([]) (#[])); rfl; rfl; rfl; exact bsl_st0; clear M; (try clear C); intro bo w9 h_bo M; have C := M.ruleAll; simp only [Go.Proofs.Yteonahoboligdaa.ruleAll] at C))
  have M9 := M.asRow 0 rfl w.heap.size 0 1 h_bo rfl (Nat.zero_le _)
  simp only [List.set_cons_zero, List.set_cons_succ] at M9
  clear M; (try clear C)
  go_loopw [3, 4] (fun o s wr => ∃ (k : Nat) (v : Value), 2 * k ≤ P ∧ s = .int .i64 (2 * (k : Int) + 1) ∧ o = v ∧ Mm no w wr [.row w.heap.size v (sbL t k).length (i64N (sbL t k)) 73 1, .box bq (sqs (n : Int) t) 30]) (fun _ s _ => 2000 - (intOf s).toNat)
  case atStart => exact ⟨0, _, by omega, rfl, rfl, M9⟩
  case round =>
    clear M9
    obtain ⟨k, v, hk, rfl, rfl, M9⟩ := hrel
    obtain ⟨pp, cc, rfl⟩ := own_form (M9.row 0 rfl)
    have M := M9
    clear M9
    have C := M.ruleAll; simp only [Go.Proofs.Yteonahoboligdaa.ruleAll] at C
    have hkI : 2 * (k : Int) + 1 ≤ 1025 := by omega
    by_cases hlt : 2 * k + 1 ≤ P - 1
    · have hle : 2 * (k : Int) + 1 ≤ ((P - 1 : Nat) : Int) := by omega
      have hlen := HLEN.out k
      have HS1 : Hid2 (∀ w1, Calls Try.prog 74 #[.agg (sqs (n : Int) t), .int .i64 (2 * (k : Int) + 1)] w1 fun e w' => e = .returned (.bool (genM t (2 * k + 1) == 2 * k + 1)) ∧ Below w1.heap.size w1 w') := ⟨fun w1 => by
        have := HSB.out (2 * k + 1) (by omega) w1
        rwa [show (((2 * k + 1 : Nat) : Int)) = 2 * (k : Int) + 1 by omega] at this⟩
      generalize hout : sbL t k = out at *
      by_cases hg : genM t (2 * k + 1) = 2 * k + 1
      · have HN := Hid2.mk (HT.out k hg)
        have hge : (genM t (2 * k + 1) == 2 * k + 1) = true := beq_iff_eq.2 hg
        rw [hge] at HS1
        rw [hout] at HN
        clear hg hge hout
        go_wp2_with (first | ((with_reducible apply wpM_lda' M 1 30 0 (sqs (n : Int) t)); rfl; rfl; rfl; exact ⟨rfl, inf_sqs.trans (congrArg some (sqs_size ..).symm), _, und_sqs, rfl⟩; exact whole_of rfl) | (go_at_call 73; ((with_reducible refine (HA.out _).mono ?_); rintro e w1 ⟨rfl, hb⟩; have hsz := M.size; (try (have G9 := G.later hb; clear G; have G := G9; clear G9)); have M9 := M.later hb; clear M; (try clear C); have M := M9; clear M9; have C := M.ruleAll; simp only [Go.Proofs.Yteonahoboligdaa.ruleAll] at C)) | (go_at_call 74; ((with_reducible refine (HS1.out _).mono ?_); rintro e w1 ⟨rfl, hb⟩; have hsz := M.size; (try (have G9 := G.later hb; clear G; have G := G9; clear G9)); have M9 := M.later hb; clear M; (try clear C); have M := M9; clear M9; have C := M.ruleAll; simp only [Go.Proofs.Yteonahoboligdaa.ruleAll] at C)) | ((with_reducible apply wpM_bsl' M 53 1 73 ([(0, .int .i64 (2 * (k : Int) + 1))]) (#[.int .i64 (2 * (k : Int) + 1)])); rfl; rfl; rfl; exact bsl_st1 _; clear M; (try clear C); intro bb w9 h_bb M; have C := M.ruleAll; simp only [Go.Proofs.Yteonahoboligdaa.ruleAll] at C) | ((with_reducible apply wpM_app' M 53 1 0 (w.heap.size) (.slice pp out.length cc) (out.length) (i64N out) 73 1 8); rfl; rfl; rfl; rfl; rfl; rfl; rfl; (first | exact .inl (Nat.le_refl _) | exact .inl (by assumption) | exact .inr (by assumption) | exact .inr HDv.out); (first | exact M.size | (have hq := M.size; omega)); exact und_slst; exact inf_elst; rfl; decide; decide; rfl; exact rfl; exact flat_n1 _; omega; clear M; (try clear C); intro v2 w9 far_v2 M; simp only [List.set_cons_zero, List.set_cons_succ, entBlk, entT, List.getElem?_cons_zero, List.getElem?_cons_succ] at M; obtain ⟨pp_v2, cap_v2, rfl⟩ := own_form (M.row 1 rfl); have C := M.ruleAll; simp only [Go.Proofs.Yteonahoboligdaa.ruleAll] at C))
        go_roundw
        case rel => exact ⟨k + 1, _, by omega, by go_num, rfl, by rw [HN.out]; exact (M.sub [1, 2] (by decide)).eq (by rw [i64N_app]; simp only [List.length_append, List.length_singleton]; rfl)⟩
        case measure => simp [intOf]; omega
      · have HN := Hid2.mk (HF.out k hg)
        have hge : (genM t (2 * k + 1) == 2 * k + 1) = false := beq_eq_false_iff_ne.2 hg
        rw [hge] at HS1
        rw [hout] at HN
        clear hg hge hout
        go_wp2_with (first | ((with_reducible apply wpM_lda' M 1 30 0 (sqs (n : Int) t)); rfl; rfl; rfl; exact ⟨rfl, inf_sqs.trans (congrArg some (sqs_size ..).symm), _, und_sqs, rfl⟩; exact whole_of rfl) | (go_at_call 73; ((with_reducible refine (HA.out _).mono ?_); rintro e w1 ⟨rfl, hb⟩; have hsz := M.size; (try (have G9 := G.later hb; clear G; have G := G9; clear G9)); have M9 := M.later hb; clear M; (try clear C); have M := M9; clear M9; have C := M.ruleAll; simp only [Go.Proofs.Yteonahoboligdaa.ruleAll] at C)) | (go_at_call 74; ((with_reducible refine (HS1.out _).mono ?_); rintro e w1 ⟨rfl, hb⟩; have hsz := M.size; (try (have G9 := G.later hb; clear G; have G := G9; clear G9)); have M9 := M.later hb; clear M; (try clear C); have M := M9; clear M9; have C := M.ruleAll; simp only [Go.Proofs.Yteonahoboligdaa.ruleAll] at C)))
        go_roundw
        case rel => exact ⟨k + 1, _, by omega, by go_num, rfl, by rw [HN.out]; exact M⟩
        case measure => simp [intOf]; omega
    · have hgt : ¬ (2 * (k : Int) + 1 ≤ ((P - 1 : Nat) : Int)) := by omega
      have hmem := HSUB.out k hk (by omega)
      have hpos : 1 ≤ (sbL t k).length := by
        have := (hmem _).2 HONE.out
        rcases Nat.eq_zero_or_pos (sbL t k).length with h | h
        · rw [List.eq_nil_of_length_eq_zero h] at this; cases this
        · exact h
      have hlen := HLEN.out k
      have hlt1 : ∀ m ∈ sbL t k, m < 1024 := fun m h => ((hmem m).1 h).1
      have HFIN := Hid2.mk (fun l' hp hs => HSN.out (sbL t k) (HNO.out k) hmem l' hp hs)
      have HSO := Hid2.mk (fun w1 v (h : w1.ownsRow w.heap.size 73 1 v (sbL t k).length (i64N (sbL t k))) => sortF_row (toFin (sbL t k)) (by unfold toFin; rw [List.length_map]; exact hpos) (by unfold toFin; rw [List.length_map]; omega) w.heap.size v w1 (by rw [toFin_enc hlt1]; unfold toFin; rw [List.length_map]; exact h))
      have HTL := Hid2.mk (show (toFin (sbL t k)).length = (sbL t k).length from List.length_map ..)
      clear hmem hpos hlt1
      go_wp2_with (first | ((with_reducible apply wpM_lda' M 1 30 0 (sqs (n : Int) t)); rfl; rfl; rfl; exact ⟨rfl, inf_sqs.trans (congrArg some (sqs_size ..).symm), _, und_sqs, rfl⟩; exact whole_of rfl) | (go_at_call 73; ((with_reducible refine (HA.out _).mono ?_); rintro e w1 ⟨rfl, hb⟩; have hsz := M.size; (try (have G9 := G.later hb; clear G; have G := G9; clear G9)); have M9 := M.later hb; clear M; (try clear C); have M := M9; clear M9; have C := M.ruleAll; simp only [Go.Proofs.Yteonahoboligdaa.ruleAll] at C)) | (go_at_call 75; fail))
      refine (HSO.out _ _ (M.row 0 rfl)).mono ?_
      rintro e w5 ⟨rfl, hb, l', hp, hs, hown⟩
      have hE := HFIN.out l' hp hs
      have hll : (subs n t).length = (sbL t k).length := by
        have h1 := congrArg List.length hE
        rw [List.length_map, i64N_len, hp.length_eq, HTL.out] at h1
        exact h1.symm
      rw [hE, HTL.out] at hown
      have HOW := Hid2.mk (show w5.ownsRow w.heap.size 73 1 (.slice pp (sbL t k).length cc) (subs n t).length (i64N (subs n t)) by rw [hll]; exact hown)
      have hB := M.below.trans hb
      clear M; (try clear C)
      clear hE hb hp hs hown HFIN HSO hlen hll
      go_wp2
      go_ret
      exact ⟨_, rfl, (Mm.start no w).gain hB (x := .row w.heap.size _ (subs n t).length (i64N (subs n t)) 73 1) HOW.out fun b hb => place_row HOW.out b hb⟩
end Go.Proofs.Yteonahoboligdaa
