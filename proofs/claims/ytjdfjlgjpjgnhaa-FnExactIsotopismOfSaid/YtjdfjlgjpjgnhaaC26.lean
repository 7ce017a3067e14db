/- The order of triples, for the program: contracts. -/
import Derived.Test.YtjdfjlgjpjgnhaaC22
import Derived.Test.YtjdfjlgjpjgnhaaC21
import Derived.Lib.Bytealg
import Derived.Deep.QuietTactic
import Derived.BigQuiet
namespace Go.Proofs.Ytjdfjlgjpjgnhaa
open Go Go.RowKit

theorem bkTo_lt (p : Nat → Nat) : ∀ k v, bkTo p k v < k ∨ bkTo p k v = 0
  | 0, _ => .inr rfl
  | k + 1, v => by
    show (if v = p k then k else bkTo p k v) < k + 1 ∨ (if v = p k then k else bkTo p k v) = 0
    split
    · omega
    · have := bkTo_lt p k v; omega
/-- A triple of bytes. -/
def Tb (x : Tri) : Prop := ∀ i, x.f i < 10 ∧ x.g i < 10 ∧ x.h i < 10
theorem own_tb {N : Nat} (h : N ≤ 10) (t u : Nat → Nat → Nat) (a b : Nat) (p : List Nat) : Tb (ownT N t u a b p) := by
  have key : ∀ (x q : Nat → Nat) i, thTo x (bkTo q N) N i < 10 := fun x q i => by
    show (if i < N then bkTo q N (x i) else 0) < 10
    split
    · have := bkTo_lt q N (x i); omega
    · omega
  exact fun i => ⟨key _ _ i, key _ _ i, key _ _ i⟩
theorem ists_tb {N : Nat} (h : N ≤ 10) {t u : Nat → Nat → Nat} {x : Tri} (hx : x ∈ ists N t u) : Tb x := by
  unfold ists istA istB at hx
  simp only [List.mem_flatMap, List.mem_map] at hx
  obtain ⟨a, _, b, _, p, _, rfl⟩ := hx
  exact own_tb h t u a b p

/-- n bytes from place i on. -/
def byl (f : Nat → Nat) : Nat → Nat → List UInt8
  | 0, _ => []
  | n + 1, i => ((f i : Int).toNat.toUInt8) :: byl f n (i + 1)
/-- The sign of the order of words. -/
def cmpB (f g : Nat → Nat) : Nat → Nat → Int
  | 0, _ => 0
  | n + 1, i => if f i = g i then cmpB f g n (i + 1) else if f i < g i then -1 else 1
theorem compare_byl {f g : Nat → Nat} (hf : ∀ i, f i < 10) (hg : ∀ i, g i < 10) : ∀ n i, Lib.compareBytes (byl f n i) (byl g n i) = cmpB f g n i
  | 0, _ => rfl
  | n + 1, i => by
    have h1 := hf i
    have h2 := hg i
    have key : ∀ a b : Nat, a < 10 → b < 10 → (((a : Int).toNat.toUInt8 < (b : Int).toNat.toUInt8) ↔ a < b) := fun a b ha hb => by
      rw [UInt8.lt_iff_toNat_lt]
      simp only [Int.toNat_natCast]
      rw [show (a.toUInt8).toNat = a % 256 from rfl, show (b.toUInt8).toNat = b % 256 from rfl, Nat.mod_eq_of_lt (by omega), Nat.mod_eq_of_lt (by omega)]
    show (if (f i : Int).toNat.toUInt8 < (g i : Int).toNat.toUInt8 then (-1 : Int) else if (g i : Int).toNat.toUInt8 < (f i : Int).toNat.toUInt8 then 1 else Lib.compareBytes (byl f n (i + 1)) (byl g n (i + 1))) = (if f i = g i then cmpB f g n (i + 1) else if f i < g i then -1 else 1)
    rw [compare_byl hf hg n (i + 1)]
    by_cases h : f i < g i
    · rw [if_pos ((key _ _ h1 h2).2 h), if_neg (by omega), if_pos h]
    · rw [if_neg (fun e => h ((key _ _ h1 h2).1 e))]
      by_cases h' : g i < f i
      · rw [if_pos ((key _ _ h2 h1).2 h'), if_neg (by omega), if_neg h]
      · rw [if_neg (fun e => h' ((key _ _ h2 h1).1 e)), if_pos (by omega)]
theorem cmpB_neg (f g : Nat → Nat) : ∀ n i, decide (cmpB f g n i < 0) = lexB f g n i
  | 0, _ => rfl
  | n + 1, i => by
    show decide ((if f i = g i then cmpB f g n (i + 1) else if f i < g i then (-1 : Int) else 1) < 0) = (if f i = g i then lexB f g n (i + 1) else decide (f i < g i))
    by_cases h : f i = g i
    · rw [if_pos h, if_pos h]; exact cmpB_neg f g n (i + 1)
    · rw [if_neg h, if_neg h]
      by_cases h' : f i < g i
      · rw [if_pos h']; simp [h']
      · rw [if_neg h']; simp [h']
theorem cmpB_zero (f g : Nat → Nat) : ∀ n i, cmpB f g n i = 0 ↔ ∀ j, i ≤ j → j < i + n → f j = g j
  | 0, i => ⟨fun _ j h1 h2 => by omega, fun _ => rfl⟩
  | n + 1, i => by
    show (if f i = g i then cmpB f g n (i + 1) else if f i < g i then (-1 : Int) else 1) = 0 ↔ _
    by_cases h : f i = g i
    · rw [if_pos h, cmpB_zero f g n (i + 1)]
      exact ⟨fun hh j h1 h2 => by
        rcases Nat.eq_or_lt_of_le h1 with rfl | h3
        · exact h
        · exact hh j h3 (by omega), fun hh j h1 h2 => hh j (by omega) (by omega)⟩
    · rw [if_neg h]
      exact ⟨fun hh => (by split at hh <;> cases hh), fun hh => (h (hh i (Nat.le_refl _) (by omega))).elim⟩
theorem cmpB_eqb (f g : Nat → Nat) : cmpB f g 10 0 = 0 ↔ eqb f g = true := by
  rw [cmpB_zero, eqb_true]
  exact ⟨fun h i hi => h i (by omega) (by omega), fun h i _ hi => h i (by omega)⟩
/-- The first that is not 0. -/
def pick3 (a b c : Int) : Int := if a ≠ 0 then a else if b ≠ 0 then b else c
def cmpT (x y : Tri) : Int := pick3 (cmpB x.f y.f 10 0) (cmpB x.g y.g 10 0) (cmpB x.h y.h 10 0)
theorem cmpT_neg (x y : Tri) : decide (cmpT x y < 0) = beforeT x y := by
  unfold cmpT pick3 beforeT
  cases e1 : eqb x.f y.f with
  | false =>
    rw [if_pos (fun e => by rw [(cmpB_eqb _ _).1 e] at e1; cases e1), if_pos rfl, cmpB_neg]
  | true =>
    rw [(cmpB_eqb _ _).2 e1, if_neg (show ¬ ((0 : Int) ≠ 0) by omega), if_neg (show ¬ (true = false) by decide)]
    cases e2 : eqb x.g y.g with
    | false =>
      rw [if_pos (fun e => by rw [(cmpB_eqb _ _).1 e] at e2; cases e2), if_pos rfl, cmpB_neg]
    | true =>
      rw [(cmpB_eqb _ _).2 e2, if_neg (show ¬ ((0 : Int) ≠ 0) by omega), if_neg (show ¬ (true = false) by decide), cmpB_neg]

theorem run_loadBytes {P : Program} (w : World) (b : Nat) (f : Nat → Nat) : ∀ n off i (acc : ByteArray), (∀ j, j < n → w.cell? ⟨b, off + j, none⟩ = some (.int .u8 (f (i + j) : Int))) →
    ∃ r : ByteArray, (Extern.Bytes.loadBytes ⟨b, off, none⟩ n acc).run P w = .ok r w ∧ r.data.toList = acc.data.toList ++ byl f n i
  | 0, _, _, acc, _ => ⟨acc, rfl, by simp [byl]⟩
  | n + 1, off, i, acc, h => by
    have h0 : w.cell? ⟨b, off, none⟩ = some (.int .u8 (f i : Int)) := by have := h 0 (by omega); simpa using this
    obtain ⟨r, h1, h2⟩ := run_loadBytes (P := P) w b f n (off + 1) (i + 1) (acc.push ((f i : Int).toNat.toUInt8)) fun j hj => by
      have := h (j + 1) (by omega)
      rwa [show off + (j + 1) = off + 1 + j by omega, show i + (j + 1) = i + 1 + j by omega] at this
    refine ⟨r, ?_, by rw [h2]; simp [byl, ByteArray.push]⟩
    unfold Extern.Bytes.loadBytes
    simp only [Sem.run_bind, run_load, h0, Result.andThen, add_none]
    exact h1

theorem compare_run {P : Program} (w : World) (b c off cap1 cap2 : Nat) (f g : Nat → Nat) (h1 : ∀ j, j < 10 → w.cell? ⟨b, off + j, none⟩ = some (.int .u8 (f j : Int))) (h2 : ∀ j, j < 10 → w.cell? ⟨c, off + j, none⟩ = some (.int .u8 (g j : Int)))
    (hf : ∀ i, f i < 10) (hg : ∀ i, g i < 10) : (Extern.BytealgCompare.compare #[.slice (some ⟨b, off, none⟩) 10 cap1, .slice (some ⟨c, off, none⟩) 10 cap2]).run P w = .ok (.int .i64 (cmpB f g 10 0)) w := by
  obtain ⟨r, e1, e2⟩ := run_loadBytes (P := P) w b f 10 off 0 .empty fun j hj => by rw [Nat.zero_add]; exact h1 j hj
  obtain ⟨s, e3, e4⟩ := run_loadBytes (P := P) w c g 10 off 0 .empty fun j hj => by rw [Nat.zero_add]; exact h2 j hj
  change Sem.run P (do pure (goInt (Extern.BytealgCompare.cmp (← Extern.Bytes.loadBytes ⟨b, off, none⟩ 10 .empty) (← Extern.Bytes.loadBytes ⟨c, off, none⟩ 10 .empty)))) w = _
  simp only [Sem.run_bind, e1, e3, Result.andThen, Sem.run_pure]
  rw [Lib.cmp_eq, e2, e4]
  show Result.ok (Value.int .i64 (Lib.compareBytes (byl f 10 0) (byl g 10 0))) w = _
  rw [compare_byl hf hg]

set_option maxRecDepth 100000 in
set_option maxHeartbeats 400000 in
theorem bytesCompare_any (w : World) (b c off cap1 cap2 : Nat) (f g : Nat → Nat) (h1 : ∀ j, j < 10 → w.cell? ⟨b, off + j, none⟩ = some (.int .u8 (f j : Int))) (h2 : ∀ j, j < 10 → w.cell? ⟨c, off + j, none⟩ = some (.int .u8 (g j : Int)))
    (hf : ∀ i, f i < 10) (hg : ∀ i, g i < 10) : Calls Try.prog 118 #[.slice (some ⟨b, off, none⟩) 10 cap1, .slice (some ⟨c, off, none⟩) 10 cap2] w fun e w' => e = .returned (.int .i64 (cmpB f g 10 0)) ∧ Below w.heap.size w w' := by
  have hr := compare_run (P := Try.prog) w b c off cap1 cap2 f g h1 h2 hf hg
  clear h1 h2 hf hg
  generalize cmpB f g 10 0 = r at hr
  go_enter Try.func118, Try.ntmps118
  go_wp2
  rw [run_callFunc_extern (by exact Try.func150) (by kernel_rfl) (by kernel_rfl) (by kernel_rfl) (e := Extern.BytealgCompare.compare) (by kernel_rfl), hr]
  simp only [Result.andThen]
  rw [Oper.upon_value]
  go_wp2
  go_ret
  exact ⟨rfl, .refl _ _⟩
end Go.Proofs.Ytjdfjlgjpjgnhaa
