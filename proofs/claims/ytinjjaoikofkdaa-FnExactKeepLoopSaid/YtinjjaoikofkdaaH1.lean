/- The text of a square, on both sides: contracts. -/
import Derived.Test.YtinjjaoikofkdaaS0
import Derived.Test.YtinjjaoikofkdaaC6
import Derived.Test.YtinjjaoikofkdaaK9
import Derived.Test.YtinjjaoikofkdaaK12
import Derived.Test.YtinjjaoikofkdaaC43
import Derived.Lib.Join
import Derived.Shelf.Lay
import Derived.Shelf.Strings.OnBuilder
namespace Go.Proofs.Ytinjjaoikofkdaa
set_option linter.unusedSimpArgs false
set_option linter.unusedVariables false
open Go Go.RowKit

/-- The bytes of a row as far as k; of the first k rows. -/
def rwT (t : Nat → Nat → Nat) (x : Nat) : Nat → List Nat
  | 0 => []
  | k + 1 => rwT t x k ++ [48 + t x k]
def sqT (n : Nat) (t : Nat → Nat → Nat) : Nat → List Nat
  | 0 => []
  | x + 1 => sqT n t x ++ (if x = 0 then [] else [47]) ++ rwT t x n
theorem rwT_len (t : Nat → Nat → Nat) (x : Nat) : ∀ k, (rwT t x k).length = k
  | 0 => rfl
  | k + 1 => by rw [rwT, List.length_append, rwT_len t x k]; rfl
theorem sqT_len (n : Nat) (t : Nat → Nat → Nat) : ∀ x, (sqT n t x).length ≤ x * (n + 1)
  | 0 => Nat.zero_le _
  | x + 1 => by
    have h := sqT_len n t x
    rw [sqT, List.length_append, List.length_append, rwT_len, Nat.add_mul, Nat.one_mul]
    split
    · simp only [List.length_nil]; omega
    · simp only [List.length_singleton]; omega
theorem rwT_byt {n : Nat} {t : Nat → Nat → Nat} (h : ∀ x y, x < n → y < n → t x y < 10) {x : Nat} (hx : x < n) : ∀ k, k ≤ n → Byts (rwT t x k)
  | 0, _ => fun _ h => by cases h
  | k + 1, hk => fun b hb => by
    rw [rwT, List.mem_append, List.mem_singleton] at hb
    rcases hb with hb | rfl
    · exact rwT_byt h hx k (by omega) b hb
    · have := h x k hx (by omega); omega
theorem sqT_byt {n : Nat} {t : Nat → Nat → Nat} (h : ∀ x y, x < n → y < n → t x y < 10) : ∀ k, k ≤ n → Byts (sqT n t k)
  | 0, _ => fun _ h => by cases h
  | k + 1, hk => fun b hb => by
    rw [sqT, List.mem_append, List.mem_append] at hb
    rcases hb with (hb | hb) | hb
    · exact sqT_byt h k (by omega) b hb
    · split at hb
      · cases hb
      · rw [List.mem_singleton.1 hb]; omega
    · exact rwT_byt h (by omega) n (Nat.le_refl n) b hb
theorem sqT_pos {n : Nat} (t : Nat → Nat → Nat) (hn : 0 < n) : 0 < (sqT n t n).length := by
  obtain ⟨m, rfl⟩ : ∃ m, n = m + 1 := ⟨n - 1, by omega⟩
  rw [sqT, List.length_append, rwT_len]; omega
def u8H (l : List Nat) : List Value := l.map fun (b : Nat) => .int .u8 (b : Int)
theorem u8H_app (l : List Nat) (x : Nat) : u8H (l ++ [x]) = u8H l ++ [.int .u8 (x : Int)] := by simp [u8H]
theorem u8H_len (l : List Nat) : (u8H l).length = l.length := by simp [u8H]
theorem und_slH : Try.prog.underlying 103 = some (.slice 5) := by kernel_rfl
theorem inf_elH : (Try.prog.info? 5).map (fun i => (i.zero, i.size, i.bytes)) = some (some (.int .u8 0), 1, 1) := by kernel_rfl
theorem bsl_H0 (w : World) : (Instr.buildSlice 103 0 [].toArray).run Try.prog w = .ok (.slice (some ⟨w.heap.size, 0, none⟩) 0 0) (w.alloc (.cells #[] 5)) := by kernel_rfl
theorem bsl_H1 (x : Int) (w : World) : (Instr.buildSlice 103 1 [(0, Value.int .u8 x)].toArray).run Try.prog w = .ok (.slice (some ⟨w.heap.size, 0, none⟩) 1 1) (w.alloc (.cells #[.int .u8 x] 5)) := by kernel_rfl
theorem flat_H1 (x : Int) : flat #[.int .u8 x] := by intro v hv; simp at hv; subst hv; rfl
/-- A row of bytes as a text. -/
theorem conv_row {w : World} {B g cap : Nat} {l : List Nat} (hb : Byts l) (h : w.ownsRow B 5 1 (.slice (some ⟨g, 0, none⟩) l.length cap) l.length (u8H l)) : (convert 103 9 (.slice (some ⟨g, 0, none⟩) l.length cap)).run Try.prog w = .ok (.string (str l)) w := by
  have h1 := run_convert_bytes_back (P := Try.prog) w 103 9 5 ⟨g, 0, none⟩ cap (l.map UInt8.ofNat) und_slH (by kernel_rfl) und_str fun j hj => by
    rw [List.length_map] at hj
    rw [add_none, Nat.zero_add, World.ownsRow.cellAt h j (by omega)]
    unfold u8H
    rw [List.getElem?_map, List.getElem?_eq_getElem hj, List.getElem_map]
    have := hb _ (List.getElem_mem hj)
    simp
    omega
  rw [List.length_map] at h1
  exact h1
end Go.Proofs.Ytinjjaoikofkdaa

/- The text of a book. Plain Lean. -/
namespace Go.Proofs.Ytinjjaoikofkdaa
set_option linter.unusedSimpArgs false
set_option linter.unusedVariables false
open Go Go.RowKit

/-- The bytes of a name of a book. -/
def nmB (ns : List ByteArray) (k : Nat) : List Nat := (ns.getD k ByteArray.empty).data.toList.map UInt8.toNat
theorem nmB_str (ns : List ByteArray) (k : Nat) : ns.getD k ByteArray.empty = str (nmB ns k) := by
  unfold str nmB
  rw [List.map_map]
  have : (UInt8.ofNat ∘ UInt8.toNat) = id := by funext x; simp
  rw [this, List.map_id]
theorem nmB_len (ns : List ByteArray) (k : Nat) : (nmB ns k).length = (ns.getD k ByteArray.empty).size := by
  unfold nmB
  rw [List.length_map, Array.length_toList]; rfl
/-- The bytes of the part of a book with number k; of the first k parts. -/
def wrdT (ns : List ByteArray) (ls : List Sqr) (k : Nat) : List Nat := nmB ns k ++ [61] ++ sqT (ls.getD k sq00).n.toNat (ls.getD k sq00).t (ls.getD k sq00).n.toNat
def bkT (ns : List ByteArray) (ls : List Sqr) : Nat → List Nat
  | 0 => []
  | k + 1 => bkT ns ls k ++ (if k = 0 then [] else [59]) ++ wrdT ns ls k
theorem joinTail_snoc (sep : List UInt8) (r : List (List UInt8)) (y : List UInt8) : Lib.joinTail sep (r ++ [y]) = Lib.joinTail sep r ++ (sep ++ y) := by
  unfold Lib.joinTail
  simp
theorem bkT_cons (ns : List ByteArray) (ls : List Sqr) : ∀ n, (bkT ns ls (n + 1)).map UInt8.ofNat = (wrdT ns ls 0).map UInt8.ofNat ++ Lib.joinTail [59] ((List.range n).map fun k => (wrdT ns ls (k + 1)).map UInt8.ofNat)
  | 0 => by
    show ([] ++ [] ++ wrdT ns ls 0).map UInt8.ofNat = _
    simp [Lib.joinTail]
  | n + 1 => by
    rw [bkT, List.map_append, List.map_append, bkT_cons ns ls n, if_neg (by omega), List.range_succ, List.map_append, List.map_singleton, List.map_singleton, joinTail_snoc]
    simp only [List.append_assoc]
    rfl
theorem bkT_join (ns : List ByteArray) (ls : List Sqr) (n : Nat) : Lib.join (((List.range n).map fun k => str (wrdT ns ls k)).map (·.data.toList)) [59] = (bkT ns ls n).map UInt8.ofNat := by
  have e : ((List.range n).map fun k => str (wrdT ns ls k)).map (·.data.toList) = (List.range n).map fun k => (wrdT ns ls k).map UInt8.ofNat := by
    rw [List.map_map]
    refine List.map_congr_left fun k _ => ?_
    simp [str]
  rw [e]
  cases n with
  | zero => rfl
  | succ n =>
    rw [List.range_succ_eq_map, List.map_cons, Lib.join_cons, List.map_map, bkT_cons]
    rfl
theorem wrdT_len {ns : List ByteArray} {ls : List Sqr} {k : Nat} (h1 : (ns.getD k ByteArray.empty).size ≤ 12) (h2 : (ls.getD k sq00).n ≤ 10) : (wrdT ns ls k).length ≤ 200 := by
  unfold wrdT
  have h3 := sqT_len (ls.getD k sq00).n.toNat (ls.getD k sq00).t (ls.getD k sq00).n.toNat
  have h4 : (ls.getD k sq00).n.toNat ≤ 10 := by omega
  have h5 := Nat.mul_le_mul h4 (Nat.add_le_add_right h4 1)
  rw [List.length_append, List.length_append, List.length_singleton, nmB_len]
  omega
theorem bkT_len {ns : List ByteArray} {ls : List Sqr} : ∀ {n : Nat}, (∀ k, k < n → (wrdT ns ls k).length ≤ 200) → (bkT ns ls n).length ≤ n * 201
  | 0, _ => Nat.zero_le _
  | n + 1, h => by
    have h1 := bkT_len (n := n) fun k hk => h k (by omega)
    have h2 := h n (by omega)
    rw [bkT, List.length_append, List.length_append]
    split
    · simp only [List.length_nil]; omega
    · simp only [List.length_singleton]; omega
/-- What a valid book has. -/
theorem isBk_get {ns : List ByteArray} {ls : List Sqr} (h : isBk ns ls = true) : ns.length ≤ 20 ∧ ls.length = ns.length ∧ ∀ k, k < ns.length → (ns.getD k ByteArray.empty).size ≤ 12 ∧ (ls.getD k sq00).n ≤ 7 ∧ IsSq (ls.getD k sq00).n (ls.getD k sq00).t := by
  unfold isBk at h
  simp only [Bool.and_eq_true, decide_eq_true_eq, List.all_eq_true, List.mem_range] at h
  obtain ⟨⟨⟨h1, h2⟩, h3⟩, _⟩ := h
  refine ⟨h1, h2, fun k hk => ?_⟩
  have h4 := h3 k hk
  unfold itemB nameB at h4
  simp only [Bool.and_eq_true, decide_eq_true_eq, Bool.not_eq_true', decide_eq_false_iff_not] at h4
  obtain ⟨⟨⟨⟨_, _, h5⟩, _⟩, h6⟩, h7⟩ := h4
  exact ⟨h5, by omega, (isLp_true.1 h6).sq⟩
/-- The text of a book and a code. -/
noncomputable def txtR (ns : List ByteArray) (ls : List Sqr) : ByteArray × Int := if isBk ns ls = true then (str (bkT ns ls ns.length), 0) else (⟨#[]⟩, 1)
end Go.Proofs.Ytinjjaoikofkdaa

/- The texts of a square: contracts. Printed by gen/h3.py. -/
namespace Go.Proofs.Ytinjjaoikofkdaa
set_option linter.unusedSimpArgs false
set_option linter.unusedVariables false
open Go Go.RowKit

set_option maxRecDepth 100000 in
set_option maxHeartbeats 4000000 in
theorem squareText_any (n : Nat) (t : Nat → Nat → Nat) (hn1 : 1 ≤ n) (hn : n ≤ 10) (ht : ∀ x y, x < n → y < n → t x y < 10) (w : World) :
    Calls Try.prog 76 #[.agg (sqs (n : Int) t)] w fun e w' => e = .returned (.string (str (sqT n t n))) ∧ Below w.heap.size w w' := by
  have M := Mm.start no w
  have so := sqs_order (n : Int) t
  have hn' : (n : Int) ≤ 10 := by omega
  have HLEN := Hid2.mk (show ∀ k, k ≤ 10 → (sqT n t k).length ≤ 110 from fun k hk => Nat.le_trans (sqT_len n t k) (Nat.mul_le_mul hk (show n + 1 ≤ 11 by omega)))
  have HBY := Hid2.mk (sqT_byt ht n (Nat.le_refl n))
  have HPOS := Hid2.mk (sqT_pos t hn1)
  have HT := Hid2.mk ht
  have HS := Hid2.mk (show ∀ k, sqT n t (k + 1) = sqT n t k ++ (if k = 0 then [] else [47]) ++ rwT t k n from fun _ => rfl)
  have H0 := Hid2.mk (show sqT n t 0 = [] from rfl)
  have HR := Hid2.mk (show ∀ k l, rwT t k (l + 1) = rwT t k l ++ [48 + t k l] from fun _ _ => rfl)
  have HRL := Hid2.mk (fun k l => rwT_len t k l)
  have HR0 := Hid2.mk (show ∀ k, rwT t k 0 = [] from fun _ => rfl)
  clear ht
  go_enter Try.func76, Try.ntmps76
  go_wp2_with (first | ((with_reducible apply wpM_box' M 43 (sqs (n : Int) t)); rfl; exact ⟨rfl, rfl⟩; clear M; (try clear C); intro bq w9 h_bq M; have C := M.ruleAll; simp only [Go.Proofs.Ytinjjaoikofkdaa.ruleAll] at C) | (((with_reducible apply wpM_bsl' M 103 0 5 ([]) (#[])); rfl; rfl; rfl; exact bsl_H0; clear M; (try clear C); intro bs w9 h_bs M; have C := M.ruleAll; simp only [Go.Proofs.Ytinjjaoikofkdaa.ruleAll] at C); have M9 := M.asRow 0 rfl w.heap.size 0 1 h_bs rfl (Nat.zero_le _); simp only [List.set_cons_zero] at M9; clear M; (try clear C); have M := M9; clear M9; have C := M.ruleAll; simp only [Go.Proofs.Ytinjjaoikofkdaa.ruleAll] at C) | ((with_reducible apply wpM_lda' M 1 43 0 (sqs (n : Int) t)); rfl; rfl; rfl; exact ⟨rfl, inf_sqs.trans (congrArg some (sqs_size ..).symm), _, und_sqs, rfl⟩; exact whole_of rfl) | (go_at_call 88; ((with_reducible refine (elements_any _ _ _ (by omega) (by omega)).mono ?_); rintro e w1 ⟨g1, cap_g1, rfl, hb, hg, hr⟩; have hsz := M.size; have M9 := M.gain hb (x := .rd g1 n (fun j => .int .u8 (j : Int))) hr (fun b h => by cases h; exact hg); clear M; (try clear C); have M := M9; clear M9; (try simp only [List.set_cons_zero, List.set_cons_succ] at M); have C := M.ruleAll; simp only [Go.Proofs.Ytinjjaoikofkdaa.ruleAll] at C; clear hb hg hr)))
  go_loopw [3, 12, 5, 24, 7] (fun o i _ _ _ wr => ∃ (k : Nat) (pp : Option Addr) (cap : Nat), k ≤ n ∧ i = .int .i64 (k : Int) ∧ o = .slice pp (sqT n t k).length cap ∧ Mm no w wr [.rd g1 n (fun j => .int .u8 (j : Int)), .row w.heap.size (.slice pp (sqT n t k).length cap) ((sqT n t k).length) (u8H (sqT n t k)) 5 1, .box bq (sqs (n : Int) t) 43]) (fun _ i _ _ _ _ => n - (intOf i).toNat)
  case atStart => exact ⟨0, some ⟨bs, 0, none⟩, 0, by omega, rfl, by rw [H0.out]; rfl, M.eq (by rw [H0.out]; rfl)⟩
  case round =>
    obtain ⟨k, pp, cap, hk, rfl, rfl, M9⟩ := hrel
    clear M; (try clear C)
    have M := M9
    clear M9
    by_cases hlt : k < n
    · have hlt' : (k : Int) < (n : Int) := by omega
      have hk10 : (k : Int) < 10 := by omega
      have hk10' : k < 10 := by omega
      have dlt : decide ((k : Int) < (n : Int)) = true := decide_eq_true hlt'
      have hlen := HLEN.out k (by omega)
      have HS0 := HS.out k
      generalize sqT n t k = A at *
      by_cases hk0 : k = 0
      · have HS1 := Hid2.mk (show sqT n t (k + 1) = A ++ rwT t k n by rw [HS0, if_pos hk0, List.append_nil])
        have hk0' : ¬ (0 : Int) < (k : Int) := by omega
        have dk0 : decide ((0 : Int) < (k : Int)) = false := decide_eq_false hk0'
        clear HS0 hk0
        have C := M.ruleAll; simp only [Go.Proofs.Ytinjjaoikofkdaa.ruleAll] at C
        go_wp2_with (first | ((with_reducible apply wpM_lda' M 2 43 0 (sqs (n : Int) t)); rfl; rfl; rfl; exact ⟨rfl, inf_sqs.trans (congrArg some (sqs_size ..).symm), _, und_sqs, rfl⟩; exact whole_of rfl) | (go_at_call 88; ((with_reducible refine (elements_any _ _ _ (by omega) (by omega)).mono ?_); rintro e w1 ⟨g2, cap_g2, rfl, hb, hg, hr⟩; have hsz := M.size; have M9 := M.gain hb (x := .rd g2 n (fun j => .int .u8 (j : Int))) hr (fun b h => by cases h; exact hg); clear M; (try clear C); have M := M9; clear M9; (try simp only [List.set_cons_zero, List.set_cons_succ] at M); have C := M.ruleAll; simp only [Go.Proofs.Ytinjjaoikofkdaa.ruleAll] at C; clear hb hg hr)))
        clear dlt dk0
        obtain ⟨Q, HQ⟩ : ∃ Q, Hid2 (Q = A) := ⟨A, Hid2.mk rfl⟩
        have HQL := Hid2.mk (show Q.length = A.length by rw [HQ.out])
        rw [← HQ.out] at HS1
        have hql : Q.length ≤ 112 := by rw [HQL.out]; omega
        go_loopw [3, 24, 7] (fun o i _ wr => ∃ (l : Nat) (pp : Option Addr) (cap : Nat), l ≤ n ∧ i = .int .i64 (l : Int) ∧ o = .slice pp (Q.length + l) cap ∧ Mm no w wr [.rd g2 n (fun j => .int .u8 (j : Int)), .rd g1 n (fun j => .int .u8 (j : Int)), .row w.heap.size (.slice pp (Q.length + l) cap) (Q.length + l) (u8H (Q ++ rwT t k l)) 5 1, .box bq (sqs (n : Int) t) 43]) (fun _ i _ _ => n - (intOf i).toNat)
        case atStart => exact ⟨0, pp, cap, by omega, rfl, by rw [HQL.out] <;> rfl, M.eq (by rw [HQL.out, HQ.out, HR0.out, List.append_nil]; rfl)⟩
        case round =>
          obtain ⟨l, pp, cap, hl, rfl, rfl, M9⟩ := hrel
          clear M; (try clear C)
          have M := M9
          clear M9
          by_cases hlt2 : l < n
          · have hlt2' : (l : Int) < (n : Int) := by omega
            have hl10 : (l : Int) < 10 := by omega
            have hl10' : l < 10 := by omega
            have c1 := sqs_get (n := (n : Int)) (t := t) hk10' hl10'
            have hz := HT.out k l hlt hlt2
            have HR1 := Hid2.mk (HR.out k l)
            generalize t k l = z at c1 hz HR1
            generalize rwT t k l = U at *
            have hz' : (z : Int) < 10 := by omega
            have C := M.ruleAll; simp only [Go.Proofs.Ytinjjaoikofkdaa.ruleAll] at C
            go_wp2_with (first | ((with_reducible apply wpM_bsl' M 103 1 5 ([(0, .int .u8 (48 + (z : Int)))]) (#[.int .u8 (48 + (z : Int))])); rfl; rfl; rfl; exact bsl_H1 _; clear M; (try clear C); intro bi w9 h_bi M; have C := M.ruleAll; simp only [Go.Proofs.Ytinjjaoikofkdaa.ruleAll] at C) | ((with_reducible apply wpM_app' M 103 3 0 (w.heap.size) (.slice pp (Q.length + l) cap) (Q.length + l) (u8H (Q ++ U)) 5 1 1); rfl; rfl; rfl; rfl; rfl; rfl; rfl; (first | exact .inl (Nat.le_refl _) | exact .inl (by assumption) | exact .inr (by assumption) | exact .inr HDv.out); (first | exact M.size | (have hq := M.size; omega)); exact und_slH; exact inf_elH; rfl; decide; decide; rfl; exact rfl; exact flat_H1 _; omega; clear M; (try clear C); intro v2 w9 far_v2 M; simp only [List.set_cons_zero, List.set_cons_succ, entBlk, entT, List.getElem?_cons_zero, List.getElem?_cons_succ] at M; obtain ⟨pp_v2, cap_v2, rfl⟩ := own_form (M.row 3 rfl); have C := M.ruleAll; simp only [Go.Proofs.Ytinjjaoikofkdaa.ruleAll] at C))
            go_roundw
            case rel => exact ⟨l + 1, pp_v2, cap_v2, by omega, by go_num, rfl, (M.drop 0).eq (by rw [HR1.out, ← List.append_assoc, u8H_app, Int.natCast_add]; rfl)⟩
            case measure => simp [intOf]; omega
          · obtain rfl : l = n := by omega
            have hge : ¬ ((l : Int) < (l : Int)) := by omega
            have C := M.ruleAll; simp only [Go.Proofs.Ytinjjaoikofkdaa.ruleAll] at C
            go_wp2
            go_roundw
            case rel => exact ⟨k + 1, pp, cap, by omega, by go_num, by rw [HS1.out, List.length_append, HRL.out], (M.drop 0).eq (by rw [HS1.out, List.length_append, HRL.out] <;> rfl)⟩
            case measure => simp [intOf]; omega

      · have HS1 := Hid2.mk (show sqT n t (k + 1) = (A ++ [47]) ++ rwT t k n by rw [HS0, if_neg hk0])
        have hk0' : (0 : Int) < (k : Int) := by omega
        have dk0 : decide ((0 : Int) < (k : Int)) = true := decide_eq_true hk0'
        clear HS0 hk0
        have C := M.ruleAll; simp only [Go.Proofs.Ytinjjaoikofkdaa.ruleAll] at C
        go_wp2_with (first | ((with_reducible apply wpM_bsl' M 103 1 5 ([(0, .int .u8 47)]) (#[.int .u8 47])); rfl; rfl; rfl; exact bsl_H1 _; clear M; (try clear C); intro bi w9 h_bi M; have C := M.ruleAll; simp only [Go.Proofs.Ytinjjaoikofkdaa.ruleAll] at C) | ((with_reducible apply wpM_app' M 103 2 0 (w.heap.size) (.slice pp A.length cap) (A.length) (u8H A) 5 1 1); rfl; rfl; rfl; rfl; rfl; rfl; rfl; (first | exact .inl (Nat.le_refl _) | exact .inl (by assumption) | exact .inr (by assumption) | exact .inr HDv.out); (first | exact M.size | (have hq := M.size; omega)); exact und_slH; exact inf_elH; rfl; decide; decide; rfl; exact rfl; exact flat_H1 _; omega; clear M; (try clear C); intro v1 w9 far_v1 M; simp only [List.set_cons_zero, List.set_cons_succ, entBlk, entT, List.getElem?_cons_zero, List.getElem?_cons_succ] at M; obtain ⟨pp_v1, cap_v1, rfl⟩ := own_form (M.row 2 rfl); have C := M.ruleAll; simp only [Go.Proofs.Ytinjjaoikofkdaa.ruleAll] at C) | ((with_reducible apply wpM_lda' M 3 43 0 (sqs (n : Int) t)); rfl; rfl; rfl; exact ⟨rfl, inf_sqs.trans (congrArg some (sqs_size ..).symm), _, und_sqs, rfl⟩; exact whole_of rfl) | (go_at_call 88; ((with_reducible refine (elements_any _ _ _ (by omega) (by omega)).mono ?_); rintro e w1 ⟨g2, cap_g2, rfl, hb, hg, hr⟩; have hsz := M.size; have M9 := M.gain hb (x := .rd g2 n (fun j => .int .u8 (j : Int))) hr (fun b h => by cases h; exact hg); clear M; (try clear C); have M := M9; clear M9; (try simp only [List.set_cons_zero, List.set_cons_succ] at M); have C := M.ruleAll; simp only [Go.Proofs.Ytinjjaoikofkdaa.ruleAll] at C; clear hb hg hr)))
        clear dlt dk0
        obtain ⟨Q, HQ⟩ : ∃ Q, Hid2 (Q = A ++ [47]) := ⟨_, Hid2.mk rfl⟩
        have HQL := Hid2.mk (show Q.length = A.length + 1 by rw [HQ.out, List.length_append, List.length_singleton])
        rw [← HQ.out] at HS1
        have hql : Q.length ≤ 112 := by rw [HQL.out]; omega
        go_loopw [3, 24, 7] (fun o i _ wr => ∃ (l : Nat) (pp : Option Addr) (cap : Nat), l ≤ n ∧ i = .int .i64 (l : Int) ∧ o = .slice pp (Q.length + l) cap ∧ Mm no w wr [.rd g2 n (fun j => .int .u8 (j : Int)), .rd g1 n (fun j => .int .u8 (j : Int)), .row w.heap.size (.slice pp (Q.length + l) cap) (Q.length + l) (u8H (Q ++ rwT t k l)) 5 1, .box bq (sqs (n : Int) t) 43]) (fun _ i _ _ => n - (intOf i).toNat)
        case atStart => exact ⟨0, pp_v1, cap_v1, by omega, rfl, by rw [HQL.out] <;> rfl, (M.sub [0, 2, 3, 4] (by decide)).eq (by rw [HQL.out, HQ.out, HR0.out, List.append_nil, u8H_app]; rfl)⟩
        case round =>
          obtain ⟨l, pp, cap, hl, rfl, rfl, M9⟩ := hrel
          clear M; (try clear C)
          have M := M9
          clear M9
          by_cases hlt2 : l < n
          · have hlt2' : (l : Int) < (n : Int) := by omega
            have hl10 : (l : Int) < 10 := by omega
            have hl10' : l < 10 := by omega
            have c1 := sqs_get (n := (n : Int)) (t := t) hk10' hl10'
            have hz := HT.out k l hlt hlt2
            have HR1 := Hid2.mk (HR.out k l)
            generalize t k l = z at c1 hz HR1
            generalize rwT t k l = U at *
            have hz' : (z : Int) < 10 := by omega
            have C := M.ruleAll; simp only [Go.Proofs.Ytinjjaoikofkdaa.ruleAll] at C
            go_wp2_with (first | ((with_reducible apply wpM_bsl' M 103 1 5 ([(0, .int .u8 (48 + (z : Int)))]) (#[.int .u8 (48 + (z : Int))])); rfl; rfl; rfl; exact bsl_H1 _; clear M; (try clear C); intro bi w9 h_bi M; have C := M.ruleAll; simp only [Go.Proofs.Ytinjjaoikofkdaa.ruleAll] at C) | ((with_reducible apply wpM_app' M 103 3 0 (w.heap.size) (.slice pp (Q.length + l) cap) (Q.length + l) (u8H (Q ++ U)) 5 1 1); rfl; rfl; rfl; rfl; rfl; rfl; rfl; (first | exact .inl (Nat.le_refl _) | exact .inl (by assumption) | exact .inr (by assumption) | exact .inr HDv.out); (first | exact M.size | (have hq := M.size; omega)); exact und_slH; exact inf_elH; rfl; decide; decide; rfl; exact rfl; exact flat_H1 _; omega; clear M; (try clear C); intro v2 w9 far_v2 M; simp only [List.set_cons_zero, List.set_cons_succ, entBlk, entT, List.getElem?_cons_zero, List.getElem?_cons_succ] at M; obtain ⟨pp_v2, cap_v2, rfl⟩ := own_form (M.row 3 rfl); have C := M.ruleAll; simp only [Go.Proofs.Ytinjjaoikofkdaa.ruleAll] at C))
            go_roundw
            case rel => exact ⟨l + 1, pp_v2, cap_v2, by omega, by go_num, rfl, (M.drop 0).eq (by rw [HR1.out, ← List.append_assoc, u8H_app, Int.natCast_add]; rfl)⟩
            case measure => simp [intOf]; omega
          · obtain rfl : l = n := by omega
            have hge : ¬ ((l : Int) < (l : Int)) := by omega
            have C := M.ruleAll; simp only [Go.Proofs.Ytinjjaoikofkdaa.ruleAll] at C
            go_wp2
            go_roundw
            case rel => exact ⟨k + 1, pp, cap, by omega, by go_num, by rw [HS1.out, List.length_append, HRL.out], (M.drop 0).eq (by rw [HS1.out, List.length_append, HRL.out] <;> rfl)⟩
            case measure => simp [intOf]; omega

    · obtain rfl : k = n := by omega
      have hge : ¬ ((k : Int) < (k : Int)) := by omega
      obtain ⟨g, cc, e, hB, _, _⟩ := own_rds (M.row 1 rfl) (by have := HPOS.out; omega)
      cases e
      have HV := conv_row HBY.out (M.row 1 rfl)
      obtain ⟨A, hA⟩ : ∃ A, A = sqT k t k := ⟨_, rfl⟩
      rw [← hA] at HV M ⊢
      have HA := Hid2.mk hA
      clear hA
      have C := M.ruleAll; simp only [Go.Proofs.Ytinjjaoikofkdaa.ruleAll] at C
      go_wp2
      go_ret
      exact ⟨by rw [← HA.out]; rfl, M.below⟩

set_option maxRecDepth 100000 in
set_option maxHeartbeats 4000000 in
theorem l01Text_any (n : Nat) (t : Nat → Nat → Nat) (hn1 : 1 ≤ n) (hn : n ≤ 10) (ht : ∀ x y, x < n → y < n → t x y < 10) (w : World) :
    Calls Try.prog 75 #[.agg (sqs (n : Int) t)] w fun e w' => e = .returned (.string (str (sqT n t n))) ∧ Below w.heap.size w w' := by
  have M := Mm.start no w
  have so := sqs_order (n : Int) t
  have hn' : (n : Int) ≤ 10 := by omega
  have HLEN := Hid2.mk (show ∀ k, k ≤ 10 → (sqT n t k).length ≤ 110 from fun k hk => Nat.le_trans (sqT_len n t k) (Nat.mul_le_mul hk (show n + 1 ≤ 11 by omega)))
  have HBY := Hid2.mk (sqT_byt ht n (Nat.le_refl n))
  have HPOS := Hid2.mk (sqT_pos t hn1)
  have HT := Hid2.mk ht
  have HS := Hid2.mk (show ∀ k, sqT n t (k + 1) = sqT n t k ++ (if k = 0 then [] else [47]) ++ rwT t k n from fun _ => rfl)
  have H0 := Hid2.mk (show sqT n t 0 = [] from rfl)
  have HR := Hid2.mk (show ∀ k l, rwT t k (l + 1) = rwT t k l ++ [48 + t k l] from fun _ _ => rfl)
  have HRL := Hid2.mk (fun k l => rwT_len t k l)
  have HR0 := Hid2.mk (show ∀ k, rwT t k 0 = [] from fun _ => rfl)
  clear ht
  go_enter Try.func75, Try.ntmps75
  go_wp2_with (first | ((with_reducible apply wpM_box' M 43 (sqs (n : Int) t)); rfl; exact ⟨rfl, rfl⟩; clear M; (try clear C); intro bq w9 h_bq M; have C := M.ruleAll; simp only [Go.Proofs.Ytinjjaoikofkdaa.ruleAll] at C) | (((with_reducible apply wpM_bsl' M 103 0 5 ([]) (#[])); rfl; rfl; rfl; exact bsl_H0; clear M; (try clear C); intro bs w9 h_bs M; have C := M.ruleAll; simp only [Go.Proofs.Ytinjjaoikofkdaa.ruleAll] at C); have M9 := M.asRow 0 rfl w.heap.size 0 1 h_bs rfl (Nat.zero_le _); simp only [List.set_cons_zero] at M9; clear M; (try clear C); have M := M9; clear M9; have C := M.ruleAll; simp only [Go.Proofs.Ytinjjaoikofkdaa.ruleAll] at C))
  go_loopw [3, 4, 5] (fun o i _ wr => ∃ (k : Nat) (pp : Option Addr) (cap : Nat), k ≤ n ∧ i = .int .i64 (k : Int) ∧ o = .slice pp (sqT n t k).length cap ∧ Mm no w wr [.row w.heap.size (.slice pp (sqT n t k).length cap) ((sqT n t k).length) (u8H (sqT n t k)) 5 1, .box bq (sqs (n : Int) t) 43]) (fun _ i _ _ => n - (intOf i).toNat)
  case atStart => exact ⟨0, some ⟨bs, 0, none⟩, 0, by omega, rfl, by rw [H0.out]; rfl, M.eq (by rw [H0.out]; rfl)⟩
  case round =>
    obtain ⟨k, pp, cap, hk, rfl, rfl, M9⟩ := hrel
    clear M; (try clear C)
    have M := M9
    clear M9
    by_cases hlt : k < n
    · have hlt' : (k : Int) < (n : Int) := by omega
      have hk10 : (k : Int) < 10 := by omega
      have hk10' : k < 10 := by omega
      have dlt : decide ((k : Int) < (n : Int)) = true := decide_eq_true hlt'
      have hlen := HLEN.out k (by omega)
      have HS0 := HS.out k
      generalize sqT n t k = A at *
      by_cases hk0 : k = 0
      · have HS1 := Hid2.mk (show sqT n t (k + 1) = A ++ rwT t k n by rw [HS0, if_pos hk0, List.append_nil])
        have hk0' : ¬ (0 : Int) < (k : Int) := by omega
        have dk0 : decide ((0 : Int) < (k : Int)) = false := decide_eq_false hk0'
        clear HS0 hk0
        have C := M.ruleAll; simp only [Go.Proofs.Ytinjjaoikofkdaa.ruleAll] at C
        go_wp2
        clear dlt dk0
        obtain ⟨Q, HQ⟩ : ∃ Q, Hid2 (Q = A) := ⟨A, Hid2.mk rfl⟩
        have HQL := Hid2.mk (show Q.length = A.length by rw [HQ.out])
        rw [← HQ.out] at HS1
        have hql : Q.length ≤ 112 := by rw [HQL.out]; omega
        go_loopw [3, 5] (fun o i wr => ∃ (l : Nat) (pp : Option Addr) (cap : Nat), l ≤ n ∧ i = .int .i64 (l : Int) ∧ o = .slice pp (Q.length + l) cap ∧ Mm no w wr [.row w.heap.size (.slice pp (Q.length + l) cap) (Q.length + l) (u8H (Q ++ rwT t k l)) 5 1, .box bq (sqs (n : Int) t) 43]) (fun _ i _ => n - (intOf i).toNat)
        case atStart => exact ⟨0, pp, cap, by omega, rfl, by rw [HQL.out] <;> rfl, M.eq (by rw [HQL.out, HQ.out, HR0.out, List.append_nil]; rfl)⟩
        case round =>
          obtain ⟨l, pp, cap, hl, rfl, rfl, M9⟩ := hrel
          clear M; (try clear C)
          have M := M9
          clear M9
          by_cases hlt2 : l < n
          · have hlt2' : (l : Int) < (n : Int) := by omega
            have hl10 : (l : Int) < 10 := by omega
            have hl10' : l < 10 := by omega
            have c1 := sqs_get (n := (n : Int)) (t := t) hk10' hl10'
            have hz := HT.out k l hlt hlt2
            have HR1 := Hid2.mk (HR.out k l)
            generalize t k l = z at c1 hz HR1
            generalize rwT t k l = U at *
            have hz' : (z : Int) < 10 := by omega
            have C := M.ruleAll; simp only [Go.Proofs.Ytinjjaoikofkdaa.ruleAll] at C
            go_wp2_with (first | ((with_reducible apply wpM_bsl' M 103 1 5 ([(0, .int .u8 (48 + (z : Int)))]) (#[.int .u8 (48 + (z : Int))])); rfl; rfl; rfl; exact bsl_H1 _; clear M; (try clear C); intro bi w9 h_bi M; have C := M.ruleAll; simp only [Go.Proofs.Ytinjjaoikofkdaa.ruleAll] at C) | ((with_reducible apply wpM_app' M 103 1 0 (w.heap.size) (.slice pp (Q.length + l) cap) (Q.length + l) (u8H (Q ++ U)) 5 1 1); rfl; rfl; rfl; rfl; rfl; rfl; rfl; (first | exact .inl (Nat.le_refl _) | exact .inl (by assumption) | exact .inr (by assumption) | exact .inr HDv.out); (first | exact M.size | (have hq := M.size; omega)); exact und_slH; exact inf_elH; rfl; decide; decide; rfl; exact rfl; exact flat_H1 _; omega; clear M; (try clear C); intro v2 w9 far_v2 M; simp only [List.set_cons_zero, List.set_cons_succ, entBlk, entT, List.getElem?_cons_zero, List.getElem?_cons_succ] at M; obtain ⟨pp_v2, cap_v2, rfl⟩ := own_form (M.row 1 rfl); have C := M.ruleAll; simp only [Go.Proofs.Ytinjjaoikofkdaa.ruleAll] at C))
            go_roundw
            case rel => exact ⟨l + 1, pp_v2, cap_v2, by omega, by go_num, rfl, (M.drop 0).eq (by rw [HR1.out, ← List.append_assoc, u8H_app, Int.natCast_add]; rfl)⟩
            case measure => simp [intOf]; omega
          · obtain rfl : l = n := by omega
            have hge : ¬ ((l : Int) < (l : Int)) := by omega
            have C := M.ruleAll; simp only [Go.Proofs.Ytinjjaoikofkdaa.ruleAll] at C
            go_wp2
            go_roundw
            case rel => exact ⟨k + 1, pp, cap, by omega, by go_num, by rw [HS1.out, List.length_append, HRL.out], M.eq (by rw [HS1.out, List.length_append, HRL.out] <;> rfl)⟩
            case measure => simp [intOf]; omega

      · have HS1 := Hid2.mk (show sqT n t (k + 1) = (A ++ [47]) ++ rwT t k n by rw [HS0, if_neg hk0])
        have hk0' : (0 : Int) < (k : Int) := by omega
        have dk0 : decide ((0 : Int) < (k : Int)) = true := decide_eq_true hk0'
        clear HS0 hk0
        have C := M.ruleAll; simp only [Go.Proofs.Ytinjjaoikofkdaa.ruleAll] at C
        go_wp2_with (first | ((with_reducible apply wpM_bsl' M 103 1 5 ([(0, .int .u8 47)]) (#[.int .u8 47])); rfl; rfl; rfl; exact bsl_H1 _; clear M; (try clear C); intro bi w9 h_bi M; have C := M.ruleAll; simp only [Go.Proofs.Ytinjjaoikofkdaa.ruleAll] at C) | ((with_reducible apply wpM_app' M 103 1 0 (w.heap.size) (.slice pp A.length cap) (A.length) (u8H A) 5 1 1); rfl; rfl; rfl; rfl; rfl; rfl; rfl; (first | exact .inl (Nat.le_refl _) | exact .inl (by assumption) | exact .inr (by assumption) | exact .inr HDv.out); (first | exact M.size | (have hq := M.size; omega)); exact und_slH; exact inf_elH; rfl; decide; decide; rfl; exact rfl; exact flat_H1 _; omega; clear M; (try clear C); intro v1 w9 far_v1 M; simp only [List.set_cons_zero, List.set_cons_succ, entBlk, entT, List.getElem?_cons_zero, List.getElem?_cons_succ] at M; obtain ⟨pp_v1, cap_v1, rfl⟩ := own_form (M.row 1 rfl); have C := M.ruleAll; simp only [Go.Proofs.Ytinjjaoikofkdaa.ruleAll] at C))
        clear dlt dk0
        obtain ⟨Q, HQ⟩ : ∃ Q, Hid2 (Q = A ++ [47]) := ⟨_, Hid2.mk rfl⟩
        have HQL := Hid2.mk (show Q.length = A.length + 1 by rw [HQ.out, List.length_append, List.length_singleton])
        rw [← HQ.out] at HS1
        have hql : Q.length ≤ 112 := by rw [HQL.out]; omega
        go_loopw [3, 5] (fun o i wr => ∃ (l : Nat) (pp : Option Addr) (cap : Nat), l ≤ n ∧ i = .int .i64 (l : Int) ∧ o = .slice pp (Q.length + l) cap ∧ Mm no w wr [.row w.heap.size (.slice pp (Q.length + l) cap) (Q.length + l) (u8H (Q ++ rwT t k l)) 5 1, .box bq (sqs (n : Int) t) 43]) (fun _ i _ => n - (intOf i).toNat)
        case atStart => exact ⟨0, pp_v1, cap_v1, by omega, rfl, by rw [HQL.out] <;> rfl, (M.sub [1, 2] (by decide)).eq (by rw [HQL.out, HQ.out, HR0.out, List.append_nil, u8H_app]; rfl)⟩
        case round =>
          obtain ⟨l, pp, cap, hl, rfl, rfl, M9⟩ := hrel
          clear M; (try clear C)
          have M := M9
          clear M9
          by_cases hlt2 : l < n
          · have hlt2' : (l : Int) < (n : Int) := by omega
            have hl10 : (l : Int) < 10 := by omega
            have hl10' : l < 10 := by omega
            have c1 := sqs_get (n := (n : Int)) (t := t) hk10' hl10'
            have hz := HT.out k l hlt hlt2
            have HR1 := Hid2.mk (HR.out k l)
            generalize t k l = z at c1 hz HR1
            generalize rwT t k l = U at *
            have hz' : (z : Int) < 10 := by omega
            have C := M.ruleAll; simp only [Go.Proofs.Ytinjjaoikofkdaa.ruleAll] at C
            go_wp2_with (first | ((with_reducible apply wpM_bsl' M 103 1 5 ([(0, .int .u8 (48 + (z : Int)))]) (#[.int .u8 (48 + (z : Int))])); rfl; rfl; rfl; exact bsl_H1 _; clear M; (try clear C); intro bi w9 h_bi M; have C := M.ruleAll; simp only [Go.Proofs.Ytinjjaoikofkdaa.ruleAll] at C) | ((with_reducible apply wpM_app' M 103 1 0 (w.heap.size) (.slice pp (Q.length + l) cap) (Q.length + l) (u8H (Q ++ U)) 5 1 1); rfl; rfl; rfl; rfl; rfl; rfl; rfl; (first | exact .inl (Nat.le_refl _) | exact .inl (by assumption) | exact .inr (by assumption) | exact .inr HDv.out); (first | exact M.size | (have hq := M.size; omega)); exact und_slH; exact inf_elH; rfl; decide; decide; rfl; exact rfl; exact flat_H1 _; omega; clear M; (try clear C); intro v2 w9 far_v2 M; simp only [List.set_cons_zero, List.set_cons_succ, entBlk, entT, List.getElem?_cons_zero, List.getElem?_cons_succ] at M; obtain ⟨pp_v2, cap_v2, rfl⟩ := own_form (M.row 1 rfl); have C := M.ruleAll; simp only [Go.Proofs.Ytinjjaoikofkdaa.ruleAll] at C))
            go_roundw
            case rel => exact ⟨l + 1, pp_v2, cap_v2, by omega, by go_num, rfl, (M.drop 0).eq (by rw [HR1.out, ← List.append_assoc, u8H_app, Int.natCast_add]; rfl)⟩
            case measure => simp [intOf]; omega
          · obtain rfl : l = n := by omega
            have hge : ¬ ((l : Int) < (l : Int)) := by omega
            have C := M.ruleAll; simp only [Go.Proofs.Ytinjjaoikofkdaa.ruleAll] at C
            go_wp2
            go_roundw
            case rel => exact ⟨k + 1, pp, cap, by omega, by go_num, by rw [HS1.out, List.length_append, HRL.out], M.eq (by rw [HS1.out, List.length_append, HRL.out] <;> rfl)⟩
            case measure => simp [intOf]; omega

    · obtain rfl : k = n := by omega
      have hge : ¬ ((k : Int) < (k : Int)) := by omega
      obtain ⟨g, cc, e, hB, _, _⟩ := own_rds (M.row 0 rfl) (by have := HPOS.out; omega)
      cases e
      have HV := conv_row HBY.out (M.row 0 rfl)
      obtain ⟨A, hA⟩ : ∃ A, A = sqT k t k := ⟨_, rfl⟩
      rw [← hA] at HV M ⊢
      have HA := Hid2.mk hA
      clear hA
      have C := M.ruleAll; simp only [Go.Proofs.Ytinjjaoikofkdaa.ruleAll] at C
      go_wp2
      go_ret
      exact ⟨by rw [← HA.out]; rfl, M.below⟩
end Go.Proofs.Ytinjjaoikofkdaa

/- The text of a book: strings.Join out of the shelf, the program's text. Contracts. -/
namespace Go.Proofs
open Go.Shelf
shelf_lay Lays.n156 Nm 156 at Try as Try.join
theorem Try.joinX : Builder.Extra Try.prog Try.join_ren where
  sizeBuilder := by kernel_rfl
  liesBuilder := by kernel_rfl
  t5 := by kernel_rfl
  a5 := fun _ => by kernel_rfl
  z5 := fun _ => by kernel_rfl
  v5 := fun _ => by kernel_rfl
  infoByte := by kernel_rfl
  cellsByte := by kernel_rfl
  sizeByte := by kernel_rfl
  neB5 := by decide
open Go.RowKit in
theorem Try.joinA (bk o c : Nat) (xs : List ByteArray) (sep : ByteArray) (w : World)
    (hcells : ∀ (j : Nat) x, xs[j]? = some x → w.cell? ⟨bk, o + j, none⟩ = some (.string x))
    (hbk : bk < w.heap.size) (hN : xs.length ≤ 140737488355328) (hcap : xs.length ≤ c)
    (hlen : (Lib.join (xs.map (·.data.toList)) sep.data.toList).length ≤ 140737488355328) :
    Calls Try.prog 77 #[.slice (some ⟨bk, o, none⟩) xs.length c, .string sep] w fun e w' => e = .returned (.string ⟨(Lib.join (xs.map (·.data.toList)) sep.data.toList).toArray⟩) ∧ Below w.heap.size w w' :=
  Any.strings_Join Try.join Try.joinX bk o c xs sep w hcells hbk hN hcap hlen
open Go.RowKit in
theorem Try.joinN (a : Option Addr) (c : Nat) (sep : ByteArray) (w : World) :
    Calls Try.prog 77 #[.slice a 0 c, .string sep] w fun e w' => e = .returned (.string ⟨#[]⟩) ∧ w' = w :=
  Any.strings_Join_none Try.join Try.joinX a c sep w
end Go.Proofs

namespace Go.Proofs.Ytinjjaoikofkdaa
set_option linter.unusedSimpArgs false
set_option linter.unusedVariables false
open Go Go.RowKit
theorem und_slJ : Try.prog.underlying 22 = some (.slice 9) := by kernel_rfl
theorem inf_elJ : (Try.prog.info? 9).map (fun i => (i.zero, i.size, i.bytes)) = some (some (.string .empty), 1, 16) := by kernel_rfl
theorem bsl_J0 (w : World) : (Instr.buildSlice 22 0 [].toArray).run Try.prog w = .ok (.slice (some ⟨w.heap.size, 0, none⟩) 0 0) (w.alloc (.cells #[] 9)) := by kernel_rfl
theorem bsl_J1 (s : ByteArray) (w : World) : (Instr.buildSlice 22 1 [(0, Value.string s)].toArray).run Try.prog w = .ok (.slice (some ⟨w.heap.size, 0, none⟩) 1 1) (w.alloc (.cells #[.string s] 9)) := by kernel_rfl
theorem flat_J1 (s : ByteArray) : flat #[.string s] := fun u hu => by
  have : u = .string s := by simpa using hu
  subst this; rfl
/-- The first k of some texts as a row. -/
def txR (W : Nat → List Nat) (k : Nat) : List Value := (List.range k).map fun j => .string (str (W j))
theorem txR_succ (W : Nat → List Nat) (k : Nat) : txR W (k + 1) = txR W k ++ [.string (str (W k))] := by unfold txR; rw [List.range_succ, List.map_append]; rfl
/-- The parts of a book, joined. -/
theorem join_book (ns : List ByteArray) (ls : List Sqr) (n : Nat) (hn : n ≤ 20) (hl : ∀ k, k < n → (wrdT ns ls k).length ≤ 200) (B : Nat) (pp : Option Addr) (cap : Nat) (w : World) (h : w.ownsRow B 9 1 (.slice pp n cap) n (txR (wrdT ns ls) n)) :
    Calls Try.prog 77 #[.slice pp n cap, .string ⟨#[59]⟩] w fun e w' => e = .returned (.string (str (bkT ns ls n))) ∧ Below w.heap.size w w' := by
  rcases Nat.eq_zero_or_pos n with rfl | hp
  · refine (Try.joinN pp cap ⟨#[59]⟩ w).mono ?_
    rintro e w' ⟨rfl, rfl⟩
    exact ⟨rfl, Below.refl _ _⟩
  · obtain ⟨g, c, e, _, _, hr⟩ := own_rds h (by omega)
    obtain ⟨rfl, rfl⟩ : pp = some ⟨g, 0, none⟩ ∧ cap = c := by cases e; exact ⟨rfl, rfl⟩
    have hlen : ((List.range n).map fun k => str (wrdT ns ls k)).length = n := by simp
    have hj := bkT_join ns ls n
    have hbl := bkT_len hl
    have hc : n ≤ cap := by
      obtain ⟨_, h | ⟨g', cap', cur, e1, _, _, hn, hc, _⟩⟩ := h
      · cases h.1
      · cases e1; exact hn
    have := Try.joinA g 0 cap ((List.range n).map fun k => str (wrdT ns ls k)) ⟨#[59]⟩ w (fun j x hx => by
      have hjn : j < n := by have := (List.getElem?_eq_some_iff.1 hx).1; rwa [hlen] at this
      rw [Nat.zero_add, hr.at_ j (by omega)]
      rw [List.getElem?_map, List.getElem?_range hjn] at hx
      cases hx
      unfold txR
      rw [List.getD_eq_getElem?_getD, List.getElem?_map, List.getElem?_range hjn]
      rfl) hr.lt (by rw [hlen]; omega) (by rw [hlen]; omega) (by
      show (Lib.join _ [59]).length ≤ _
      rw [hj, List.length_map]; omega)
    rw [hlen] at this
    refine this.mono ?_
    rintro e w' ⟨rfl, hb⟩
    refine ⟨?_, hb⟩
    show Ending.returned (.string ⟨(Lib.join _ [59]).toArray⟩) = _
    rw [hj]
    rfl
/-- The text of a square of a book. -/
theorem squareTextI (n : Int) (t : Nat → Nat → Nat) (h : IsSq n t) (w : World) : Calls Try.prog 76 #[.agg (sqs n t)] w fun e w' => e = .returned (.string (str (sqT n.toNat t n.toNat))) ∧ Below w.heap.size w w' := by
  have h1 := h.lo
  have h2 := h.hi
  obtain ⟨N, rfl⟩ : ∃ N : Nat, n = (N : Int) := ⟨n.toNat, by omega⟩
  exact squareText_any N t (by omega) (by omega) (fun x y hx hy => by have := (Lat.of_sq h).lt x y hx hy; omega) w
theorem l01TextI (n : Int) (t : Nat → Nat → Nat) (h : IsSq n t) (w : World) : Calls Try.prog 75 #[.agg (sqs n t)] w fun e w' => e = .returned (.string (str (sqT n.toNat t n.toNat))) ∧ Below w.heap.size w w' := by
  have h1 := h.lo
  have h2 := h.hi
  obtain ⟨N, rfl⟩ : ∃ N : Nat, n = (N : Int) := ⟨n.toNat, by omega⟩
  exact l01Text_any N t (by omega) (by omega) (fun x y hx hy => by have := (Lat.of_sq h).lt x y hx hy; omega) w
theorem sqT_len2 {n : Int} (t : Nat → Nat → Nat) (h : n ≤ 10) : (sqT n.toNat t n.toNat).length ≤ 110 := by
  have h3 := sqT_len n.toNat t n.toNat
  have h4 : n.toNat ≤ 10 := by omega
  have h5 := Nat.mul_le_mul h4 (Nat.add_le_add_right h4 1)
  omega

set_option maxRecDepth 100000 in
set_option maxHeartbeats 2000000 in
theorem bookText_any {ns : List ByteArray} {ls : List Sqr} (h : BkIn ns ls) (hv : isBk ns ls = true) (w : World) {g1 g2 : Nat} (h1 : BkHere ns ls w g1 g2) (c1 c2 : Nat) :
    Calls Try.prog 56 #[.agg (bkA g1 c1 g2 c2 ns.length ls.length)] w fun e w' => e = .returned (.string (str (bkT ns ls ns.length))) ∧ Below w.heap.size w w' := by
  have M := Mm.start no w
  have k0 : (bkA g1 c1 g2 c2 ns.length ls.length)[0]? = some (.slice (some ⟨g1, 0, none⟩) ns.length c1) := rfl
  have k1 : (bkA g1 c1 g2 c2 ns.length ls.length)[1]? = some (.slice (some ⟨g2, 0, none⟩) ls.length c2) := rfl
  obtain ⟨hn, hm, hall⟩ := isBk_get hv
  have hn' : (ns.length : Int) ≤ 20 := by omega
  have hm' : (ls.length : Int) = ns.length := by omega
  have HALL := Hid2.mk hall
  have HWL := Hid2.mk (show ∀ k, k < ns.length → (wrdT ns ls k).length ≤ 200 from fun k hk => wrdT_len (hall k hk).1 (by have := (hall k hk).2.1; omega))
  have HM := Hid2.mk hm
  have HH := Hid2.mk (fun w1 (hb : Below w.heap.size w w1) => h1.later hb)
  have hml : (ls.length : Int) ≤ 20 := by omega
  clear h hv h1 hall hm hm'
  go_enter Try.func56, Try.ntmps56
  go_wp2_with (first | ((with_reducible apply wpM_box' M 29 (bkA g1 c1 g2 c2 ns.length ls.length)); rfl; exact ⟨rfl, rfl⟩; clear M; (try clear C); intro bb w9 h_bb M; have C := M.ruleAll; simp only [Go.Proofs.Ytinjjaoikofkdaa.ruleAll] at C) | (((with_reducible apply wpM_bsl' M 22 0 9 ([]) (#[])); rfl; rfl; rfl; exact bsl_J0; clear M; (try clear C); intro bs w9 h_bs M; have C := M.ruleAll; simp only [Go.Proofs.Ytinjjaoikofkdaa.ruleAll] at C); have M9 := M.asRow 0 rfl w.heap.size 0 1 h_bs rfl (Nat.zero_le _); simp only [List.set_cons_zero] at M9; clear M; (try clear C); have M := M9; clear M9; have C := M.ruleAll; simp only [Go.Proofs.Ytinjjaoikofkdaa.ruleAll] at C))
  go_loopw [3, 10, 4, 5] (fun o i _ _ wr => ∃ (k : Nat) (pp : Option Addr) (cap : Nat), k ≤ ns.length ∧ i = .int .i64 (k : Int) ∧ o = .slice pp k cap ∧ Mm no w wr [.row w.heap.size (.slice pp k cap) k (txR (wrdT ns ls) k) 9 1, .box bb (bkA g1 c1 g2 c2 ns.length ls.length) 29]) (fun _ i _ _ _ => ns.length - (intOf i).toNat)
  case atStart => exact ⟨0, some ⟨bs, 0, none⟩, 0, by omega, rfl, rfl, M⟩
  case round =>
    obtain ⟨k, pp, cap, hk, rfl, rfl, M9⟩ := hrel
    clear M; (try clear C)
    have M := M9
    clear M9
    by_cases hlt : k < ns.length
    · have hlt' : (k : Int) < (ns.length : Int) := by omega
      have hltm : k < ls.length := by rw [HM.out]; exact hlt
      have hltm' : (k : Int) < (ls.length : Int) := by omega
      obtain ⟨hs1, hs2, hs3⟩ := HALL.out k hlt
      have HN := fun w1 (hb : Below w.heap.size w w1) => (show w1.cell? ⟨g1, k, none⟩ = some (.string (str (nmB ns k))) from by
        rw [(HH.out w1 hb).r1.at_ k hlt, ← nmB_str]; rfl)
      have HQ : ∀ w1, Below w.heap.size w w1 → ∀ j v, (sqs (ls.getD k sq00).n (ls.getD k sq00).t)[j]? = some v → w1.cell? ⟨g2, k * 101 + j, none⟩ = some v := fun w1 hb => by
        rw [getD_at hltm]
        exact sq_cells (HH.out w1 hb).r2 hltm
      have hnl := nmB_len ns k
      have hql := sqT_len2 (ls.getD k sq00).t (show (ls.getD k sq00).n ≤ 10 by omega)
      have HS := Hid2.mk (fun w1 => squareTextI _ _ hs3 w1)
      have HW := Hid2.mk (txR_succ (wrdT ns ls) k)
      have hw : wrdT ns ls k = nmB ns k ++ [61] ++ sqT (ls.getD k sq00).n.toNat (ls.getD k sq00).t (ls.getD k sq00).n.toNat := rfl
      rw [hw] at HW
      clear hw hs3
      generalize txR (wrdT ns ls) k = R0 at HW M
      generalize hsq : sqT (ls.getD k sq00).n.toNat (ls.getD k sq00).t (ls.getD k sq00).n.toNat = sb at *
      clear hsq
      generalize ls.getD k sq00 = q at *
      generalize nmB ns k = nm at *
      have a1 : ∀ w, (Op.stringOp .add (str nm) (⟨#[61]⟩ : ByteArray)).run Try.prog w = .ok (.string (str (nm ++ [61]))) w := add_str nm [61] (by rw [List.length_singleton]; omega)
      have a2 := add_str (nm ++ [61]) sb (by rw [List.length_append, List.length_singleton]; omega)
      obtain ⟨wd, hwd⟩ : ∃ wd, wd = nm ++ [61] ++ sb := ⟨_, rfl⟩
      rw [← hwd] at a2 HW
      clear hwd
      have hc1 := HN _ M.below
      have HC := Hid2.mk HQ
      have HC1 := Hid2.mk HN
      clear HN HQ hnl hql hs1 hs2
      have C := M.ruleAll; simp only [Go.Proofs.Ytinjjaoikofkdaa.ruleAll] at C
      go_wp2_with (first | (refine wpList_load_part rfl 43 _ rfl (g2) (k * 101) rfl (sqs q.n q.t) _ und_sqs rfl inf_sqs (HC.out _ M.below) ?_) | (go_at_call 76; ((with_reducible refine (HS.out _).mono ?_); rintro e w1 ⟨rfl, hb⟩; have hsz := M.size; (try (have G9 := G.later hb; clear G; have G := G9; clear G9)); have M9 := M.later hb; clear M; (try clear C); have M := M9; clear M9; have C := M.ruleAll; simp only [Go.Proofs.Ytinjjaoikofkdaa.ruleAll] at C)) | ((with_reducible apply wpM_bsl' M 22 1 9 ([(0, .string (str wd))]) (#[.string (str wd)])); rfl; rfl; rfl; exact bsl_J1 _; clear M; (try clear C); intro bi w9 h_bi M; have C := M.ruleAll; simp only [Go.Proofs.Ytinjjaoikofkdaa.ruleAll] at C) | ((with_reducible apply wpM_app' M 22 1 0 (w.heap.size) (.slice pp k cap) (k) (R0) 9 1 16); rfl; rfl; rfl; rfl; rfl; rfl; rfl; (first | exact .inl (Nat.le_refl _) | exact .inl (by assumption) | exact .inr (by assumption) | exact .inr HDv.out); (first | exact M.size | (have hq := M.size; omega)); exact und_slJ; exact inf_elJ; rfl; decide; decide; rfl; exact rfl; exact flat_J1 _; omega; clear M; (try clear C); intro v2 w9 far_v2 M; simp only [List.set_cons_zero, List.set_cons_succ, entBlk, entT, List.getElem?_cons_zero, List.getElem?_cons_succ] at M; obtain ⟨pp_v2, cap_v2, rfl⟩ := own_form (M.row 1 rfl); have C := M.ruleAll; simp only [Go.Proofs.Ytinjjaoikofkdaa.ruleAll] at C))
      go_roundw
      case rel => exact ⟨k + 1, pp_v2, cap_v2, by omega, by go_num, rfl, (M.drop 0).eq (by rw [HW.out]; rfl)⟩
      case measure => simp [intOf]; omega
    · obtain rfl : k = ns.length := by omega
      have hge : ¬ ((ns.length : Int) < (ns.length : Int)) := by omega
      have HJ := Hid2.mk (join_book ns ls ns.length hn HWL.out w.heap.size pp cap)
      generalize hT : str (bkT ns ls ns.length) = T at HJ
      have HT := Hid2.mk hT
      clear hT
      have C := M.ruleAll; simp only [Go.Proofs.Ytinjjaoikofkdaa.ruleAll] at C
      go_wp2_with (first | (go_at_call 77; ((with_reducible refine (HJ.out _ (M.row 0 rfl)).mono ?_); rintro e w1 ⟨rfl, hb⟩; have hsz := M.size; (try (have G9 := G.later hb; clear G; have G := G9; clear G9)); have M9 := M.later hb; clear M; (try clear C); have M := M9; clear M9; have C := M.ruleAll; simp only [Go.Proofs.Ytinjjaoikofkdaa.ruleAll] at C)))
      go_ret
      exact ⟨by rw [HT.out]; rfl, M.below⟩

set_option maxRecDepth 100000 in
set_option maxHeartbeats 1000000 in
theorem implBookText_any {ns : List ByteArray} {ls : List Sqr} (h : BkIn ns ls) (w : World) {g1 g2 : Nat} (h1 : BkHere ns ls w g1 g2) (c1 c2 : Nat) (hc : ns.length ≤ c1) :
    Calls Try.prog 18 #[.agg (bkA g1 c1 g2 c2 ns.length ls.length)] w fun e w' => e = .returned (.tuple #[.string (txtR ns ls).1, .int .i64 (txtR ns ls).2]) ∧ Below w.heap.size w w' := by
  have M := Mm.start no w
  have H1 := fun w1 (hb : Below w.heap.size w w1) => isBookP_any h w1 (h1.later hb) c1 c2 hc
  have H2 := Hid2.mk (fun hv w1 (hb : Below w.heap.size w w1) => bookText_any h hv w1 (h1.later hb) c1 c2)
  unfold txtR
  cases hv : isBk ns ls with
  | false =>
    rw [hv] at H1
    rw [if_neg (by decide)]
    clear h h1 hc H2
    go_enter Try.func18, Try.ntmps18
    go_wp2_with (first | ((with_reducible apply wpM_box' M 29 (bkA g1 c1 g2 c2 ns.length ls.length)); rfl; exact ⟨rfl, rfl⟩; clear M; (try clear C); intro bb w9 h_bb M; have C := M.ruleAll; simp only [Go.Proofs.Ytinjjaoikofkdaa.ruleAll] at C) | ((with_reducible apply wpM_lda' M 0 29 0 (bkA g1 c1 g2 c2 ns.length ls.length)); rfl; rfl; rfl; exact ⟨rfl, inf_bok.trans (congrArg some (bok_size ..).symm), _, und_bok, rfl⟩; exact whole_of rfl) | (go_at_call 47; ((with_reducible refine (H1 _ M.below).mono ?_); rintro e w1 ⟨rfl, hb⟩; have hsz := M.size; (try (have G9 := G.later hb; clear G; have G := G9; clear G9)); have M9 := M.later hb; clear M; (try clear C); have M := M9; clear M9; have C := M.ruleAll; simp only [Go.Proofs.Ytinjjaoikofkdaa.ruleAll] at C)))
    go_ret2
    exact ⟨rfl, M.below⟩
  | true =>
    rw [hv] at H1
    rw [if_pos rfl]
    have H3 := H2.out hv
    generalize hT : str (bkT ns ls ns.length) = T at H3
    have HT := Hid2.mk hT
    clear hT
    clear h h1 hc H2
    go_enter Try.func18, Try.ntmps18
    go_wp2_with (first | ((with_reducible apply wpM_box' M 29 (bkA g1 c1 g2 c2 ns.length ls.length)); rfl; exact ⟨rfl, rfl⟩; clear M; (try clear C); intro bb w9 h_bb M; have C := M.ruleAll; simp only [Go.Proofs.Ytinjjaoikofkdaa.ruleAll] at C) | ((with_reducible apply wpM_lda' M 0 29 0 (bkA g1 c1 g2 c2 ns.length ls.length)); rfl; rfl; rfl; exact ⟨rfl, inf_bok.trans (congrArg some (bok_size ..).symm), _, und_bok, rfl⟩; exact whole_of rfl) | (go_at_call 47; ((with_reducible refine (H1 _ M.below).mono ?_); rintro e w1 ⟨rfl, hb⟩; have hsz := M.size; (try (have G9 := G.later hb; clear G; have G := G9; clear G9)); have M9 := M.later hb; clear M; (try clear C); have M := M9; clear M9; have C := M.ruleAll; simp only [Go.Proofs.Ytinjjaoikofkdaa.ruleAll] at C)) | (go_at_call 56; ((with_reducible refine (H3 _ M.below).mono ?_); rintro e w1 ⟨rfl, hb⟩; have hsz := M.size; (try (have G9 := G.later hb; clear G; have G := G9; clear G9)); have M9 := M.later hb; clear M; (try clear C); have M := M9; clear M9; have C := M.ruleAll; simp only [Go.Proofs.Ytinjjaoikofkdaa.ruleAll] at C)))
    go_ret2
    exact ⟨by rw [← HT.out]; rfl, M.below⟩
end Go.Proofs.Ytinjjaoikofkdaa

