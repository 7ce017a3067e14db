/- The value of a term, for the program: a contract. -/
import Derived.Test.YtpmemoabkbmljaaDoorC60
namespace Go.Proofs.YtpmemoabkbmljaaDoor
set_option linter.unusedSimpArgs false
set_option linter.unusedVariables false
open Go Go.RowKit

/-- Forty bytes; three bytes. -/
def b40 (f : Nat → Nat) : Array Value := tab 40 fun i => .int .u8 (f i)
theorem b40_size (f : Nat → Nat) : (b40 f).size = 40 := tab_size _ _
theorem flat_b40 (f : Nat → Nat) : flat (b40 f) := flat_tab fun _ _ => rfl
theorem und_b40 : Tryd.prog.underlying 105 = some (.array 40 5) := by kernel_rfl
theorem inf_b40 : (Tryd.prog.info? 105).map (·.size) = some 40 := by kernel_rfl
theorem zero_b40 (w : World) : (zeroValue 105).run Tryd.prog w = .ok (.agg (b40 fun _ => 0)) w := by kernel_rfl
def by3 (x y z : Nat) : Array Value := #[.int .u8 (x : Int), .int .u8 (y : Int), .int .u8 (z : Int)]
theorem by3_size (x y z : Nat) : (by3 x y z).size = 3 := rfl
theorem und_by3 : Tryd.prog.underlying 69 = some (.array 3 5) := by kernel_rfl
theorem inf_by3 : (Tryd.prog.info? 69).map (·.size) = some 3 := by kernel_rfl

/-- The products and the quotients of a square, as cells. -/
structure VlC (n : Int) (t : Nat → Nat → Nat) (cs : Array Value) : Prop where
  size : cs.size = 300
  mul : ∀ a c : Nat, (a : Int) < n → (c : Int) < n → cs[a * 10 + c]? = some (.int .u8 (t a c : Nat))
  lft : ∀ a c : Nat, (a : Int) < n → (c : Int) < n → cs[100 + a * 10 + c]? = some (.int .u8 (lq t a c : Nat))
  rgt : ∀ a c : Nat, (a : Int) < n → (c : Int) < n → cs[200 + a * 10 + c]? = some (.int .u8 (lq (fun x y => t y x) c a : Nat))

/-- A stack of values, the last one first, in forty cells. -/
structure StkC (s : List Nat) (cs : Array Value) : Prop where
  size : cs.size = 40
  get : ∀ j, j < s.length → cs[j]? = some (.int .u8 (s.reverse.getD j 0 : Nat))
theorem StkC.push {s : List Nat} {cs : Array Value} (h : StkC s cs) (hl : s.length < 40) (v : Nat) : StkC (v :: s) (cs.setIfInBounds s.length (.int .u8 (v : Int))) := by
  refine ⟨by rw [Array.size_setIfInBounds]; exact h.size, fun j hj => ?_⟩
  rw [Array.getElem?_setIfInBounds, List.reverse_cons, List.getD_eq_getElem?_getD]
  split
  · rename_i e; subst e
    rw [if_pos (by rw [h.size]; exact hl), List.getElem?_append_right (by simp)]; simp
  · rename_i e
    have hj' : j < s.length := by simp at hj; omega
    rw [h.get j hj', List.getElem?_append_left (by simpa using hj'), List.getD_eq_getElem?_getD]
theorem StkC.at1 {c a : Nat} {r : List Nat} {cs : Array Value} (h : StkC (c :: a :: r) cs) : cs[r.length]? = some (.int .u8 (a : Int)) := by
  rw [h.get r.length (by simp; omega)]
  simp [List.getD_eq_getElem?_getD]
theorem StkC.at2 {c a : Nat} {r : List Nat} {cs : Array Value} (h : StkC (c :: a :: r) cs) : cs[r.length + 1]? = some (.int .u8 (c : Int)) := by
  rw [h.get (r.length + 1) (by simp)]
  simp [List.getD_eq_getElem?_getD]
theorem StkC.pop2 {c a : Nat} {r : List Nat} {cs : Array Value} (h : StkC (c :: a :: r) cs) (hl : r.length < 40) (v : Nat) : StkC (v :: r) (cs.setIfInBounds r.length (.int .u8 (v : Int))) :=
  StkC.push ⟨h.size, fun j hj => by
    rw [h.get j (by simp; omega)]
    simp only [List.reverse_cons, List.append_assoc, List.getD_eq_getElem?_getD]
    rw [List.getElem?_append_left (by simpa using hj)]⟩ hl v
theorem StkC.zero : StkC [] (b40 fun _ => 0) := ⟨b40_size _, fun j h => by cases h⟩
theorem evTo_succ (t : Nat → Nat → Nat) (x y z : Nat) (f : Nat → Nat) (k : Nat) : evTo t x y z f (k + 1) = evStep t x y z (f k) (evTo t x y z f k) := rfl
theorem evStep_leaf (t : Nat → Nat → Nat) (x y z : Nat) {b : Nat} (h : isLeafB b = true) (s : List Nat) : evStep t x y z b s = lfB x y z b :: s := if_pos h
theorem evStep_op (t : Nat → Nat → Nat) (x y z : Nat) {b : Nat} (h : isLeafB b = false) (c a : Nat) (r : List Nat) : evStep t x y z b (c :: a :: r) = apB t b a c :: r := by rw [evStep, if_neg (by rw [h]; exact Bool.false_ne_true)]
/-- What a byte of a term is. -/
theorem tm_byte {f : Nat → Nat} {n k u : Nat} (h : isTm f n = true) (hk : k < n) (hu : tmTo f k = some u) : (isLeafB (f k) = true ∧ tmTo f (k + 1) = some (u + 1)) ∨ (isLeafB (f k) = false ∧ isOpB (f k) = true ∧ 2 ≤ u ∧ tmTo f (k + 1) = some (u - 1)) := by
  obtain ⟨v, hv⟩ := tmTo_some (isTm_iff.1 h).1 (k := k + 1) (by omega)
  have hs := tmTo_succ hu
  rw [hv] at hs
  cases hl : isLeafB (f k) with
  | true => exact .inl ⟨rfl, by rw [hv, hs, tmStep_leaf hl]⟩
  | false =>
    by_cases h2 : isOpB (f k) = true ∧ 2 ≤ u
    · exact .inr ⟨rfl, h2.1, h2.2, by rw [hv, hs, tmStep_op hl h2.1 h2.2]⟩
    · rw [tmStep_no hl h2] at hs; cases hs

set_option maxRecDepth 100000 in
set_option maxHeartbeats 2000000 in
theorem of_any (n : Int) (t : Nat → Nat → Nat) (hs : IsSq n t) (x y z : Nat) (hx : (x : Int) < n) (hy : (y : Int) < n) (hz : (z : Int) < n) (xs : List Nat) (hT : isTm (elB xs) xs.length = true) (vcs : Array Value) (hv : VlC n t vcs) (bv : Nat)
    (w : World) (p : Option Addr) (cap : Nat) (hr : rdq w p xs.length (bytF xs)) (hb : blk w bv vcs 87) :
    Calls Tryd.prog 64 #[.pointer (some ⟨bv, 0, none⟩), .slice p xs.length cap, .agg (by3 x y z)] w fun e w' => e = .returned (.int .u8 (evB t x y z (elB xs) xs.length : Nat)) ∧ Below w.heap.size w w' := by
  have M := (Mm.start no w).add (x := .box bv vcs 87) hb fun _ h => by cases h
  have F1 := Hid2.mk (fun w1 (hb : Below w.heap.size w w1) => hr.later hb)
  have hz40 := zero_b40
  have hn := hs.hi
  have h40 : xs.length ≤ 40 := (isTm_iff.1 hT).2
  have ha0 : (by3 x y z)[0]? = some (.int .u8 (x : Int)) := rfl
  have ha1 : (by3 x y z)[1]? = some (.int .u8 (y : Int)) := rfl
  have ha2 : (by3 x y z)[2]? = some (.int .u8 (z : Int)) := rfl
  have HV := Hid2.mk hv
  have HS0 := Hid2.mk StkC.zero
  have HZF := Hid2.mk (flat_b40 fun _ => 0)
  have HTM := Hid2.mk hT
  have HLT := Hid2.mk (fun k => evTo_lt hs hx hy hz (f := elB xs) k)
  have HLE := Hid2.mk (fun {k v} => @evTo_length t x y z (elB xs) k v)
  have HEV := Hid2.mk (evTo_succ t x y z (elB xs))
  have HE0 := Hid2.mk (show evTo t x y z (elB xs) 0 = [] from rfl)
  have HEB := Hid2.mk (show evB t x y z (elB xs) xs.length = (evTo t x y z (elB xs) xs.length).headD 0 from rfl)
  have hl0 : lfB x y z 101 = 0 := rfl
  have hl1 : lfB x y z 120 = x := rfl
  have hl2 : lfB x y z 121 = y := rfl
  have hl3 : lfB x y z 122 = z := rfl
  have HL := Hid2.mk (fun {b} h s => @evStep_leaf t x y z b h s)
  have HO := Hid2.mk (fun {b} h c a r => @evStep_op t x y z b h c a r)
  generalize evB t x y z (elB xs) xs.length = res at HEB ⊢
  generalize evTo t x y z (elB xs) = ev at HLT HLE HEV HE0 HEB
  generalize evStep t x y z = st at HEV HL HO
  generalize lfB x y z = lf at hl0 hl1 hl2 hl3 HL
  generalize by3 x y z = A at ha0 ha1 ha2 ⊢
  generalize (b40 fun _ => 0) = Z at hz40 HS0 HZF
  clear hr hb hv hT hs hx hy hz
  have C := M.ruleAll; simp only [Go.Proofs.YtpmemoabkbmljaaDoor.ruleAll] at C
  go_enter Tryd.func64, Tryd.ntmps64
  go_wp2_with (first | ((with_reducible apply wpM_box' M 69 (A)); rfl; exact ⟨rfl, rfl⟩; clear M; (try clear C); intro ba w9 h_ba M; have C := M.ruleAll; simp only [Go.Proofs.YtpmemoabkbmljaaDoor.ruleAll] at C) | ((with_reducible apply wpM_alloc' M 105 (Z)); rfl; exact ⟨rfl, _, hz40 _, rfl⟩; clear M; (try clear C); intro bs w9 h_bs M; have C := M.ruleAll; simp only [Go.Proofs.YtpmemoabkbmljaaDoor.ruleAll] at C) | ((with_reducible apply wpM_sta' M 0 105 (Z)); rfl; rfl; rfl; rfl; exact .inl (by assumption); exact ⟨rfl, by rw [HS0.out.size]; exact inf_b40, HZF.out⟩; (simp only [entCells, List.getElem?_cons_zero]); (clear M; (try clear C); intro w9 M; simp only [List.set_cons_zero, List.set_cons_succ, entBlk, entT, List.getElem?_cons_zero, List.getElem?_cons_succ] at M; have C := M.ruleAll; simp only [Go.Proofs.YtpmemoabkbmljaaDoor.ruleAll] at C)))
  go_loopw [15, 8, 10, 11, 21, 23, 43, 49] (fun i v _ _ _ _ _ _ wr => ∃ k u : Nat, k ≤ xs.length ∧ i = .int .i64 (k : Int) ∧ v = .int .i64 ((u : Int) - 1) ∧ tmTo (elB xs) k = some u ∧ ∃ cs, StkC (ev k) cs ∧ Mm no w wr [.box bs cs 105, .box ba A 69, .box bv vcs 87]) (fun i _ _ _ _ _ _ _ _ => xs.length - (intOf i).toNat)
  case atStart => exact ⟨0, 0, by omega, rfl, rfl, rfl, _, by rw [HE0.out]; exact HS0.out, M⟩
  case round =>
    obtain ⟨k, u, hk, rfl, rfl, ht, cs, hcs, M9⟩ := hrel
    clear M; (try clear C)
    have M := M9
    clear M9
    have C := M.ruleAll; simp only [Go.Proofs.YtpmemoabkbmljaaDoor.ruleAll] at C
    have hu := tmTo_le ht
    have HT := Hid2.mk ht
    have HCS := Hid2.mk hcs
    have hlen := HLE.out ht
    clear ht hcs
    by_cases hlt : k < xs.length
    · have hlt' : (k : Int) < (xs.length : Int) := by omega
      obtain ⟨g, rfl, hrr⟩ := F1.out _ M.below (by omega)
      have hc0 : wr.cell? ⟨g, k, none⟩ = some (.int .u8 (elB xs k : Nat)) := hrr.at_ k hlt
      clear hrr
      have hst := HEV.out k
      rcases tm_byte HTM.out hlt HT.out with ⟨hl, hnx⟩ | ⟨hl, ho, h2, hnx⟩
      · have hu40 : (u : Int) < 40 := by omega
        have hp40 : (ev k).length < 40 := by omega
        obtain ⟨T, hTe⟩ : ∃ T : Int, (u : Int) - 1 = T := ⟨_, rfl⟩
        rw [hTe]
        have hw : wrap64 (T + 1) = (u : Int) := by rw [wrap_small _ (by omega) (by omega)]; omega
        clear hTe
        rw [HL.out hl] at hst
        have HST := Hid2.mk hst
        have HNX := Hid2.mk hnx
        have hb := leaf_cases hl
        have HP := Hid2.mk (HCS.out.push hp40)
        rw [hlen] at HP
        clear hlen hp40
        generalize elB xs k = b at hc0 hb HST
        clear hl hst hnx
        rcases hb with rfl | rfl | rfl | rfl
        · go_wp2_with (first | ((with_reducible apply wpM_st' M 0 5 (u) (cs.setIfInBounds u (.int .u8 (x : Int)))); rfl; rfl; rfl; (first | exact .inl (by assumption) | exact .inr rfl | exact .inr (by assumption)); exact ⟨rfl, rfl, by kernel_rfl⟩; (exact Nat.lt_of_lt_of_eq (by omega) (HCS.out.size).symm); exact rfl; clear M; (try clear C); intro w9 M; simp only [List.set_cons_zero, List.set_cons_succ, entBlk, entT, List.getElem?_cons_zero, List.getElem?_cons_succ] at M; have C := M.ruleAll; simp only [Go.Proofs.YtpmemoabkbmljaaDoor.ruleAll] at C))
          go_roundw
          case rel => exact ⟨k + 1, u + 1, by omega, by go_num, by first | rfl | (congr 1; omega), HNX.out, _, by rw [HST.out, hl1]; exact HP.out x, M⟩
          case measure => simp [intOf]; omega
        · go_wp2_with (first | ((with_reducible apply wpM_st' M 0 5 (u) (cs.setIfInBounds u (.int .u8 (y : Int)))); rfl; rfl; rfl; (first | exact .inl (by assumption) | exact .inr rfl | exact .inr (by assumption)); exact ⟨rfl, rfl, by kernel_rfl⟩; (exact Nat.lt_of_lt_of_eq (by omega) (HCS.out.size).symm); exact rfl; clear M; (try clear C); intro w9 M; simp only [List.set_cons_zero, List.set_cons_succ, entBlk, entT, List.getElem?_cons_zero, List.getElem?_cons_succ] at M; have C := M.ruleAll; simp only [Go.Proofs.YtpmemoabkbmljaaDoor.ruleAll] at C))
          go_roundw
          case rel => exact ⟨k + 1, u + 1, by omega, by go_num, by first | rfl | (congr 1; omega), HNX.out, _, by rw [HST.out, hl2]; exact HP.out y, M⟩
          case measure => simp [intOf]; omega
        · go_wp2_with (first | ((with_reducible apply wpM_st' M 0 5 (u) (cs.setIfInBounds u (.int .u8 (z : Int)))); rfl; rfl; rfl; (first | exact .inl (by assumption) | exact .inr rfl | exact .inr (by assumption)); exact ⟨rfl, rfl, by kernel_rfl⟩; (exact Nat.lt_of_lt_of_eq (by omega) (HCS.out.size).symm); exact rfl; clear M; (try clear C); intro w9 M; simp only [List.set_cons_zero, List.set_cons_succ, entBlk, entT, List.getElem?_cons_zero, List.getElem?_cons_succ] at M; have C := M.ruleAll; simp only [Go.Proofs.YtpmemoabkbmljaaDoor.ruleAll] at C))
          go_roundw
          case rel => exact ⟨k + 1, u + 1, by omega, by go_num, by first | rfl | (congr 1; omega), HNX.out, _, by rw [HST.out, hl3]; exact HP.out z, M⟩
          case measure => simp [intOf]; omega
        · go_wp2_with (first | ((with_reducible apply wpM_st' M 0 5 (u) (cs.setIfInBounds u (.int .u8 0))); rfl; rfl; rfl; (first | exact .inl (by assumption) | exact .inr rfl | exact .inr (by assumption)); exact ⟨rfl, rfl, by kernel_rfl⟩; (exact Nat.lt_of_lt_of_eq (by omega) (HCS.out.size).symm); exact rfl; clear M; (try clear C); intro w9 M; simp only [List.set_cons_zero, List.set_cons_succ, entBlk, entT, List.getElem?_cons_zero, List.getElem?_cons_succ] at M; have C := M.ruleAll; simp only [Go.Proofs.YtpmemoabkbmljaaDoor.ruleAll] at C))
          go_roundw
          case rel => exact ⟨k + 1, u + 1, by omega, by go_num, by first | rfl | (congr 1; omega), HNX.out, _, by rw [HST.out, hl0]; exact HP.out 0, M⟩
          case measure => simp [intOf]; omega
      · obtain ⟨m, rfl⟩ : ∃ m, u = m + 2 := ⟨u - 2, by omega⟩
        obtain ⟨c, a, r, hr⟩ : ∃ c a r, ev k = c :: a :: r := by
          revert hlen
          rcases ev k with _ | ⟨c, _ | ⟨a, r⟩⟩
          · intro h; simp at h
          · intro h; simp at h
          · intro _; exact ⟨c, a, r, rfl⟩
        have hrl : r.length = m := by rw [hr] at hlen; simpa using hlen
        have hm40 : (m : Int) + 1 < 40 := by omega
        have hm40' : (m : Int) < 40 := by omega
        have hcn := HLT.out k c (by rw [hr]; simp)
        have han := HLT.out k a (by rw [hr]; simp)
        have a10 : a < 10 := by omega
        have c10 : c < 10 := by omega
        have a10' : (a : Int) < 10 := by omega
        have c10' : (c : Int) < 10 := by omega
        have hp40 : r.length < 40 := by omega
        obtain ⟨T, hTe⟩ : ∃ T : Int, ((m + 2 : Nat) : Int) - 1 = T := ⟨_, rfl⟩
        rw [hTe]
        have hw : wrap64 (T - 1) = (m : Int) := by rw [wrap_small _ (by omega) (by omega)]; omega
        clear hTe
        rw [hr, HO.out hl] at hst
        rw [hr] at HCS
        have e1 := HCS.out.at1
        have e2 := HCS.out.at2
        rw [hrl] at e1 e2
        have HP := Hid2.mk (HCS.out.pop2 hp40)
        rw [hrl] at HP
        clear hp40 hrl
        have v0 := HV.out.mul a c han hcn
        have v1 := HV.out.lft a c han hcn
        have v2 := HV.out.rgt a c han hcn
        have HST := Hid2.mk hst
        have HNX := Hid2.mk hnx
        have hb := op_cases ho
        generalize elB xs k = b at hc0 hb HST
        clear hl ho h2 hst hnx hr hlen hcn han
        rcases hb with rfl | rfl | rfl
        · have hA : apB t 42 a c = t a c := rfl
          rw [hA] at HST
          generalize t a c = val at v0 HST
          clear hA
          go_wp2
          simp only [hw]
          clear hw
          apply wp_region_mm M 16 (by kernel_rfl) (by kernel_rfl); (simp only [List.take_succ_cons, List.take_zero]; repeat (first | exact wpText_nil | (apply wpText_cons; (intro w2 M; have C := M.ruleAll; simp only [Go.Proofs.YtpmemoabkbmljaaDoor.ruleAll] at C; go_wp2; exact ⟨rfl, rfl, M⟩); rfl))); (clear M; (try clear C); intro w2 M; simp only [List.drop_succ_cons, List.drop_zero]; have C := M.ruleAll; simp only [Go.Proofs.YtpmemoabkbmljaaDoor.ruleAll] at C)
          go_wp2_with (first | ((with_reducible apply wpM_st' M 0 5 (m) (cs.setIfInBounds m (.int .u8 (val : Int)))); rfl; rfl; rfl; (first | exact .inl (by assumption) | exact .inr rfl | exact .inr (by assumption)); exact ⟨rfl, rfl, by kernel_rfl⟩; (exact Nat.lt_of_lt_of_eq (by omega) (HCS.out.size).symm); exact rfl; clear M; (try clear C); intro w9 M; simp only [List.set_cons_zero, List.set_cons_succ, entBlk, entT, List.getElem?_cons_zero, List.getElem?_cons_succ] at M; have C := M.ruleAll; simp only [Go.Proofs.YtpmemoabkbmljaaDoor.ruleAll] at C))
          go_roundw
          case rel => exact ⟨k + 1, m + 1, by omega, by go_num, by first | rfl | (congr 1; omega), HNX.out, _, by rw [HST.out]; exact HP.out val, M⟩
          case measure => simp [intOf]; omega
        · have hA : apB t 92 a c = lq t a c := rfl
          rw [hA] at HST
          generalize lq t a c = val at v1 HST
          clear hA
          go_wp2
          simp only [hw]
          clear hw
          apply wp_region_mm M 16 (by kernel_rfl) (by kernel_rfl); (simp only [List.take_succ_cons, List.take_zero]; repeat (first | exact wpText_nil | (apply wpText_cons; (intro w2 M; have C := M.ruleAll; simp only [Go.Proofs.YtpmemoabkbmljaaDoor.ruleAll] at C; go_wp2; exact ⟨rfl, rfl, M⟩); rfl))); (clear M; (try clear C); intro w2 M; simp only [List.drop_succ_cons, List.drop_zero]; have C := M.ruleAll; simp only [Go.Proofs.YtpmemoabkbmljaaDoor.ruleAll] at C)
          go_wp2_with (first | ((with_reducible apply wpM_st' M 0 5 (m) (cs.setIfInBounds m (.int .u8 (val : Int)))); rfl; rfl; rfl; (first | exact .inl (by assumption) | exact .inr rfl | exact .inr (by assumption)); exact ⟨rfl, rfl, by kernel_rfl⟩; (exact Nat.lt_of_lt_of_eq (by omega) (HCS.out.size).symm); exact rfl; clear M; (try clear C); intro w9 M; simp only [List.set_cons_zero, List.set_cons_succ, entBlk, entT, List.getElem?_cons_zero, List.getElem?_cons_succ] at M; have C := M.ruleAll; simp only [Go.Proofs.YtpmemoabkbmljaaDoor.ruleAll] at C))
          go_roundw
          case rel => exact ⟨k + 1, m + 1, by omega, by go_num, by first | rfl | (congr 1; omega), HNX.out, _, by rw [HST.out]; exact HP.out val, M⟩
          case measure => simp [intOf]; omega
        · have hA : apB t 47 a c = lq (fun x y => t y x) c a := rfl
          rw [hA] at HST
          generalize lq (fun x y => t y x) c a = val at v2 HST
          clear hA
          go_wp2
          simp only [hw]
          clear hw
          apply wp_region_mm M 16 (by kernel_rfl) (by kernel_rfl); (simp only [List.take_succ_cons, List.take_zero]; repeat (first | exact wpText_nil | (apply wpText_cons; (intro w2 M; have C := M.ruleAll; simp only [Go.Proofs.YtpmemoabkbmljaaDoor.ruleAll] at C; go_wp2; exact ⟨rfl, rfl, M⟩); rfl))); (clear M; (try clear C); intro w2 M; simp only [List.drop_succ_cons, List.drop_zero]; have C := M.ruleAll; simp only [Go.Proofs.YtpmemoabkbmljaaDoor.ruleAll] at C)
          go_wp2_with (first | ((with_reducible apply wpM_st' M 0 5 (m) (cs.setIfInBounds m (.int .u8 (val : Int)))); rfl; rfl; rfl; (first | exact .inl (by assumption) | exact .inr rfl | exact .inr (by assumption)); exact ⟨rfl, rfl, by kernel_rfl⟩; (exact Nat.lt_of_lt_of_eq (by omega) (HCS.out.size).symm); exact rfl; clear M; (try clear C); intro w9 M; simp only [List.set_cons_zero, List.set_cons_succ, entBlk, entT, List.getElem?_cons_zero, List.getElem?_cons_succ] at M; have C := M.ruleAll; simp only [Go.Proofs.YtpmemoabkbmljaaDoor.ruleAll] at C))
          go_roundw
          case rel => exact ⟨k + 1, m + 1, by omega, by go_num, by first | rfl | (congr 1; omega), HNX.out, _, by rw [HST.out]; exact HP.out val, M⟩
          case measure => simp [intOf]; omega
    · obtain rfl : k = xs.length := by omega
      have hge : ¬ ((xs.length : Int) < (xs.length : Int)) := by omega
      obtain rfl : u = 1 := by
        have h1 := (isTm_iff.1 HTM.out).1.symm.trans HT.out
        cases h1; rfl
      obtain ⟨v, hv⟩ : ∃ v, ev xs.length = [v] := List.length_eq_one_iff.1 hlen
      rw [hv] at HCS HEB
      have e1 : cs[0]? = some (.int .u8 (v : Int)) := HCS.out.get 0 (by simp)
      have hres : res = v := HEB.out
      subst hres
      clear hlen hv
      go_wp2
      go_ret
      exact ⟨rfl, M.below⟩
end Go.Proofs.YtpmemoabkbmljaaDoor
