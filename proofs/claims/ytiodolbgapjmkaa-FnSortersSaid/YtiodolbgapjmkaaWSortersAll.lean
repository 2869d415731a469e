/- SortNetwork sorts a list by Batcher's network: both functions on all arguments, and the law. Conditions: none. -/
import Derived.Test.YtiodolbgapjmkaaBatN
import Derived.Test.YtiodolbgapjmkaaRises
import Derived.Test.YtiodolbgapjmkaaWMerge
import Derived.Test.YtiodolbgapjmkaaWBitonic
import Derived.Test.YtiodolbgapjmkaaPairwise
import Derived.Test.YtiodolbgapjmkaaNet2
import Derived.Test.YtiodolbgapjmkaaSmall
import Derived.Test.YtiodolbgapjmkaaMake
import Derived.Test.YtiodolbgapjmkaaSortL
import Derived.Test.YtiodolbgapjmkaaThrL
import Derived.Test.YtiodolbgapjmkaaSortOn
import Derived.Test.YtiodolbgapjmkaaLevels
import Derived.Test.YtiodolbgapjmkaaDraw
import Derived.Test.YtiodolbgapjmkaaIsSorting
import Derived.Deep.DeepCutAuto
import Derived.Deep.RegionHeld3
namespace Go.Proofs.Ytiodolbgapjmkaa
open Go.RowKit
set_option maxRecDepth 100000
set_option linter.unusedVariables false

theorem bat_ok (n : Nat) (h1 : 1 ≤ n) (h8 : n ≤ 8) : netOk n (bat n (upI 0 n)) = true := by
  have : ∀ n < 9, 1 ≤ n → netOk (n : Nat) (bat n (upI 0 n)) = true := by decide +kernel
  exact this n (by omega) h1
def sortX (xs : List Int) : List Int := if inB (xs.length : Int) 1 8 = true then applyP (bat xs.length (upI 0 xs.length)) xs else []

set_option maxHeartbeats 1000000 in
theorem SortNetwork_i_c (lo hi : Nat) (v : Value) (xs : List Int) (w : World) (hv : OwnI w lo hi v xs) (hh : hi ≤ w.heap.size) (hl : xs.length ≤ 1048576) :
    Calls Try.prog 49 #[v] w (IntC w (sortX xs)) := by
  obtain ⟨ao, g, cap, e, -, -, -⟩ := hv.view
  have HV := Lib.hid (OwnI.ints hv)
  obtain ⟨n, hn⟩ : ∃ n, n = xs.length := ⟨_, rfl⟩
  rw [← hn] at e hl
  subst e
  have HN := Lib.hid hn
  clear hv hn
  by_cases hb : inB (n : Int) 1 8 = true
  · have h1 : 1 ≤ n := by have := inB_of hb; omega
    have h8 : n ≤ 8 := by have := inB_of hb; omega
    have HX : Hid (sortX xs = applyP (bat n (upI 0 n)) xs) := by show _ = _; unfold sortX; rw [← HN.out, if_pos hb]
    have BC := Lib.hid (BatcherNetwork_i_yes n w hb h1 h8)
    have hok := bat_ok n h1 h8
    have HP : Hid (pairsOf n (bat n (upI 0 n))) := netOk_pair hok
    have hl60 := netOk_len hok
    obtain ⟨X, hX⟩ : ∃ X, X = bat n (upI 0 n) := ⟨_, rfl⟩
    rw [← hX] at BC HP hl60 HX
    have hXl : X.length ≤ 1000 := by omega
    clear hok hX
    go_enter Try.func49, Try.ntmps49
    go_wp2_with fail
    refine BC.out.mono ?_
    rintro e w1 ⟨u, us, rfl, o1, b1⟩
    obtain ⟨ao1, g1, cap1, e1, -, -, -⟩ := o1.rows
    obtain ⟨M, hM⟩ : ∃ M, M = X.length := ⟨_, rfl⟩
    rw [← hM] at e1
    subst e1
    have O1 := Lib.hid o1
    have HV1 := Lib.hid (HV.out.below b1 hh)
    have HM := Lib.hid hM
    have z1 := b1.size
    have B1 := Lib.hid b1
    clear o1 hM b1
    go_wp2_with fail
    obtain ⟨W2, hW2, c0, c1, hsz, hB2, -, -⟩ := box2 w1 (.int .i64 n) (.slice ao1 M cap1) 30
    rw [hW2]
    clear hW2
    go_wp2_with fail
    refine (apply_c n w.heap.size w1.heap.size lo hi n _ us X _ xs W2 (O1.out.below hB2 (Nat.le_refl _)) (by omega) HP.out hXl (HV1.out.below hB2 (by omega)) (by omega) HN.out.symm h1 h8).mono ?_
    rintro e w3 ⟨r, rfl, o3, b3⟩
    have O3 := Lib.hid o3
    have B3 : Hid (Below w.heap.size w w3) := B1.out.trans ((hB2.mono z1).trans (b3.mono (by omega)))
    clear o3 b3
    go_wp2_with fail
    go_ret
    exact ⟨_, rfl, by rw [HX.out]; exact Own.mono O3.out (by omega) (Nat.le_refl _), B3.out⟩
  · replace hb : inB (n : Int) 1 8 = false := by simpa using hb
    have HX : Hid (sortX xs = []) := by show _ = _; unfold sortX; rw [← HN.out, hb]; rfl
    have BC := Lib.hid (BatcherNetwork_i_none n w hb)
    go_enter Try.func49, Try.ntmps49
    go_wp2_with fail
    refine BC.out.mono ?_
    rintro e w1 ⟨u, us, rfl, o1, b1⟩
    obtain ⟨ao1, g1, cap1, e1, -, -, -⟩ := o1.rows
    subst e1
    clear o1
    go_wp2_with fail
    go_ret
    exact ⟨_, rfl, by rw [HX.out]; exact Own.nil _ _ _ _, b1.alloc b1.size _⟩

theorem sortX_small (xs : List Int) : (sortX xs).length ≤ 1000000000 := by
  unfold sortX
  split
  · rename_i h
    have := inB_of h
    rw [applyP_len]
    omega
  · simp
/-- The number of comparators of Batcher's sorter, or -1. -/
def batSz (a : Int) : Int := if inB a 1 8 = true then ((XBatcherNetwork a).length : Nat) else -1
theorem BatcherSize_i (a : Int) (w : World) : Calls Try.prog 48 #[.int .i64 a] w fun e w' => e = .returned (.int .i64 (batSz a)) ∧ Below w.heap.size w w' := by
  have hc := fun w => BatcherNetwork_i_c a w
  have HC := Lib.hid hc
  clear hc
  cases h : inB a 1 8
  · have HX : Hid ((if inB a 1 8 = true then a else 0) = 0 ∧ inB a 1 8 = false ∧ batSz a = -1) := ⟨if_neg (by simp [h]), h, if_neg (by simp [h])⟩
    clear h
    go_enter Try.func48, Try.ntmps48
    go_wp2_with fail
    refine (HC.out _).mono ?_
    rintro e w1 ⟨v, vs, rfl, o1, b1⟩
    rw [HX.out.1, HX.out.2.1]
    obtain ⟨ao, g, cap, e, -, -, -⟩ := o1.rows
    obtain ⟨L, hL⟩ : ∃ L, L = (XBatcherNetwork a).length := ⟨_, rfl⟩
    rw [← hL] at e
    subst e
    clear hL o1
    go_wp2
    go_ret
    refine ⟨?_, b1.alloc b1.size _⟩
    rw [HX.out.2.2]
    rfl
  · have HX : Hid ((if inB a 1 8 = true then a else 0) = a ∧ inB a 1 8 = true ∧ batSz a = ((XBatcherNetwork a).length : Nat)) := ⟨if_pos h, h, if_pos h⟩
    clear h
    go_enter Try.func48, Try.ntmps48
    go_wp2_with fail
    refine (HC.out _).mono ?_
    rintro e w1 ⟨v, vs, rfl, o1, b1⟩
    rw [HX.out.1, HX.out.2.1]
    obtain ⟨ao, g, cap, e, -, -, -⟩ := o1.rows
    obtain ⟨L, hL⟩ : ∃ L, L = (XBatcherNetwork a).length := ⟨_, rfl⟩
    rw [← hL] at e
    subst e
    have HL := Lib.hid hL
    clear hL o1
    go_wp2
    go_ret
    refine ⟨?_, b1.alloc b1.size _⟩
    rw [HX.out.2.2, ← HL.out]
    rfl
/-- The number of comparators of the merge, or -1. -/
def mrgSz (a b : Int) : Int := if sizesB a b = true then ((XOddEvenMerge a b).length : Nat) else -1
theorem MergeSize_i (a b : Int) (w : World) : Calls Try.prog 36 #[.int .i64 a, .int .i64 b] w fun e w' => e = .returned (.int .i64 (mrgSz a b)) ∧ Below w.heap.size w w' := by
  have hc := fun w => OddEvenMerge_i_c a b w
  have HC := Lib.hid hc
  clear hc
  cases h : sizesB a b
  · have HX : Hid ((if sizesB a b = true then a + b else 0) = 0 ∧ sizesB a b = false ∧ mrgSz a b = -1) := ⟨if_neg (by simp [h]), h, if_neg (by simp [h])⟩
    clear h
    go_enter Try.func36, Try.ntmps36
    go_wp2_with fail
    refine (HC.out _).mono ?_
    rintro e w1 ⟨v, vs, rfl, o1, b1⟩
    rw [HX.out.1, HX.out.2.1]
    obtain ⟨ao, g, cap, e, -, -, -⟩ := o1.rows
    obtain ⟨L, hL⟩ : ∃ L, L = (XOddEvenMerge a b).length := ⟨_, rfl⟩
    rw [← hL] at e
    subst e
    clear hL o1
    go_wp2
    go_ret
    refine ⟨?_, b1.alloc b1.size _⟩
    rw [HX.out.2.2]
    rfl
  · have HX : Hid ((if sizesB a b = true then a + b else 0) = a + b ∧ sizesB a b = true ∧ mrgSz a b = ((XOddEvenMerge a b).length : Nat)) := ⟨if_pos h, h, if_pos h⟩
    clear h
    go_enter Try.func36, Try.ntmps36
    go_wp2_with fail
    refine (HC.out _).mono ?_
    rintro e w1 ⟨v, vs, rfl, o1, b1⟩
    rw [HX.out.1, HX.out.2.1]
    obtain ⟨ao, g, cap, e, -, -, -⟩ := o1.rows
    obtain ⟨L, hL⟩ : ∃ L, L = (XOddEvenMerge a b).length := ⟨_, rfl⟩
    rw [← hL] at e
    subst e
    have HL := Lib.hid hL
    clear hL o1
    go_wp2
    go_ret
    refine ⟨?_, b1.alloc b1.size _⟩
    rw [HX.out.2.2, ← HL.out]
    rfl
/-- The number of comparators of the bitonic sorter, or -1. -/
def bitSz (a : Int) : Int := if powB a = true then ((bitS (dOf a) 0).length : Nat) else -1
theorem BitonicSize_i (a : Int) (w : World) : Calls Try.prog 53 #[.int .i64 a] w fun e w' => e = .returned (.int .i64 (bitSz a)) ∧ Below w.heap.size w w' := by
  have hc := fun w => BitonicNetwork_i_c a w
  have HC := Lib.hid hc
  clear hc
  by_cases h : powB a = true
  · have HX : Hid ((if powB a = true then a else 0) = a ∧ XBitonicNetwork a = bitS (dOf a) 0 ∧ powB a = true ∧ bitSz a = ((bitS (dOf a) 0).length : Nat)) := ⟨if_pos h, if_pos h, h, if_pos h⟩
    clear h
    go_enter Try.func53, Try.ntmps53
    go_wp2_with fail
    refine (HC.out _).mono ?_
    rintro e w1 ⟨v, vs, rfl, o1, b1⟩
    rw [HX.out.1, HX.out.2.2.1]
    rw [HX.out.2.1] at o1
    obtain ⟨ao, g, cap, e, -, -, -⟩ := o1.rows
    obtain ⟨L, hL⟩ : ∃ L, L = (bitS (dOf a) 0).length := ⟨_, rfl⟩
    rw [← hL] at e
    subst e
    have HL := Lib.hid hL
    clear hL o1
    go_wp2
    go_ret
    refine ⟨?_, b1.alloc b1.size _⟩
    rw [HX.out.2.2.2, ← HL.out]
    rfl
  · replace h : powB a = false := by simpa using h
    have HX : Hid ((if powB a = true then a else 0) = 0 ∧ XBitonicNetwork a = [] ∧ powB a = false ∧ bitSz a = -1) := ⟨if_neg (by simp [h]), if_neg (by simp [h]), h, if_neg (by simp [h])⟩
    clear h
    go_enter Try.func53, Try.ntmps53
    go_wp2_with fail
    refine (HC.out _).mono ?_
    rintro e w1 ⟨v, vs, rfl, o1, b1⟩
    rw [HX.out.1, HX.out.2.2.1]
    obtain ⟨ao, g, cap, e, -, -, -⟩ := o1.rows
    obtain ⟨L, hL⟩ : ∃ L, L = (XBitonicNetwork a).length := ⟨_, rfl⟩
    rw [← hL] at e
    subst e
    clear hL o1
    go_wp2
    go_ret
    refine ⟨?_, b1.alloc b1.size _⟩
    rw [HX.out.2.2.2]
    rfl
theorem PairwiseNetwork_i_none (a : Int) (w : World) (hb : powB a = false) : Calls Try.prog 52 #[.int .i64 a] w (NetC w 0 [] false) := by
  go_enter Try.func52, Try.ntmps52
  go_wp2_with ((go_at_call 118; refine (isPower_c _ _).mono ?_; rintro e w' ⟨rfl, rfl⟩))
  have h1 := blk_new w (.cells #[.int .i64 0, .slice none 0 0] 30)
  have c0 := blk_cell h1 0
  have c1 := blk_cell h1 1
  have hb : Below w.heap.size w (w.alloc (.cells #[.int .i64 0, .slice none 0 0] 30)) := (Below.refl _ _).alloc (Nat.le_refl _) _
  first
    | exact bodyPost_ret (v := .tuple #[.agg #[.int .i64 0, .slice none 0 0], .bool false]) (by simp [results, Try.results52, go_sem]) rfl ⟨_, [], rfl, OwnR.nil _ _ _, hb⟩
    | exact bodyPost_ret (v := .tuple #[.agg #[.int .i64 0, .slice none 0 0], .bool false]) (by simp [results, Try.results52, go_sem]) rfl ⟨_, [], rfl, OwnR.nil _ _ _, (hb.setCell (Nat.le_refl _) _).setCell (Nat.le_refl _) _⟩
set_option maxHeartbeats 1000000 in
theorem PairwiseNetwork_i_yes (n f : Nat) (w : World) (hb : powB (n : Int) = true) (hnf : n = 2 ^ f) (hf : f ≤ 3) : Calls Try.prog 52 #[.int .i64 n] w (NetC w (n : Int) (pw f (upI 0 n)) true) := by
  have h8 : n ≤ 8 := by rcases (by omega : f = 0 ∨ f = 1 ∨ f = 2 ∨ f = 3) with rfl | rfl | rfl | rfl <;> (subst hnf; decide)
  have WA : Hid (∀ w, Calls Try.prog 109 #[.int .i64 0, .int .i64 n] w (IntC w (upI 0 n))) := fun w => by have := wires_c 0 n w (by omega) (by omega) (by omega); simpa using this
  have HNF := Lib.hid hnf
  clear hnf
  go_enter Try.func52, Try.ntmps52
  go_wp2_with ((go_at_call 118; refine (isPower_c _ _).mono ?_; rintro e w' ⟨rfl, rfl⟩))
  refine (WA.out _).mono ?_
  rintro e w1 ⟨u1, rfl, o1, b1⟩
  have h1' := blk_below (blk_new w (.cells #[.int .i64 0, .slice none 0 0] 30)) b1 (by simp)
  have z1 : w.heap.size + 1 ≤ w1.heap.size := by have := b1.size; simpa using this
  have B1 : Hid (Below w.heap.size w w1) := ((Below.refl _ _).alloc (Nat.le_refl _) _).trans (b1.mono (by simp))
  have P1 : Hid (IntsV w1 0 w1.heap.size u1 (upI 0 n)) := (OwnI.ints o1).mono (Nat.zero_le _) (Nat.le_refl _)
  obtain ⟨x1, n1, y1, rfl⟩ := (OwnI.ints o1).shape
  have HB1 := Lib.hid h1'
  clear o1 b1 h1'
  go_wp2_with fail
  refine (pairwise_c f (upI 0 n) 0 w1.heap.size _ w1 (by rw [upI_length]; exact HNF.out) hf P1.out (Nat.le_refl _)).mono ?_
  rintro e w3 ⟨u, us, rfl, o3, b3⟩
  have h3 := blk_below HB1.out b3 (by omega)
  have c0 := blk_cell h3 0
  have c1 := blk_cell h3 1
  have f0 := blk_free h3 0
  have f1 := blk_free h3 1
  obtain ⟨ao, g, cap, e, -, -, -⟩ := o3.rows
  obtain ⟨R, hR⟩ : ∃ R, R = pw f (upI 0 n) := ⟨_, rfl⟩
  have HRR := Lib.hid hR
  rw [← hR] at e o3
  obtain ⟨L, hL⟩ : ∃ L, L = R.length := ⟨_, rfl⟩
  rw [← hL] at e
  subst e
  have HF : Hid (NetC w (n : Int) R true (.returned (.tuple #[.agg #[.int .i64 (n : Int), .slice ao L cap], .bool true])) ((w3.setCell ⟨w.heap.size, 0, none⟩ (.int .i64 (n : Int))).setCell ⟨w.heap.size, 1, none⟩ (.slice ao L cap))) := by
    refine ⟨_, us, rfl, ?_, ((B1.out.trans (b3.mono (by omega))).setCell (Nat.le_refl _) _).setCell (Nat.le_refl _) _⟩
    rw [show ((w3.setCell ⟨w.heap.size, 0, none⟩ (.int .i64 (n : Int))).setCell ⟨w.heap.size, 1, none⟩ (.slice ao L cap)).heap.size = w3.heap.size from by simp [World.setCell]]
    refine (o3.kept fun k k1 _ _ => ?_).mono (by omega) (Nat.le_refl _)
    rw [Below.heap_setCell _ _ _ _ (by show k ≠ w.heap.size; omega), Below.heap_setCell _ _ _ _ (by show k ≠ w.heap.size; omega)]
  clear o3 b3 hL h3 hR
  go_wp2
  exact bodyPost_ret (v := .tuple #[.agg #[.int .i64 (n : Int), .slice ao L cap], .bool true]) (by simp [results, Try.results52, go_sem, c0, c1]) rfl (by rw [← HRR.out]; exact HF.out)
/-- The exponent of a power of two. -/
def expN (a : Int) : Nat := if a = 1 then 0 else if a = 2 then 1 else if a = 4 then 2 else 3
def XPairwise (a : Int) : List (List Int) := if powB a = true then pw (expN a) (upI 0 a.toNat) else []
theorem powB_cases {a : Int} (h : powB a = true) : ∃ f : Nat, f ≤ 3 ∧ a = ((2 ^ f : Nat) : Int) ∧ expN a = f := by
  unfold powB at h
  simp only [Bool.or_eq_true, beq_iff_eq] at h
  rcases h with ((rfl | rfl) | rfl) | rfl
  · exact ⟨0, by omega, rfl, rfl⟩
  · exact ⟨1, by omega, rfl, rfl⟩
  · exact ⟨2, by omega, rfl, rfl⟩
  · exact ⟨3, by omega, rfl, rfl⟩
theorem XPairwise_small (a : Int) : smallR (XPairwise a) := by
  have : ∀ f : Fin 4, (pw f.1 (upI 0 (2 ^ f.1))).length ≤ 100 ∧ ∀ xs ∈ (pw f.1 (upI 0 (2 ^ f.1))), xs.length ≤ 2 := by decide +kernel
  unfold XPairwise
  split
  · rename_i h
    obtain ⟨f, hf, rfl, he⟩ := powB_cases h
    rw [he]
    have h2 := this ⟨f, by omega⟩
    rw [Int.toNat_natCast]
    exact smallR_pairs (by have := h2.1; simp only at this; omega) fun xs hx => by have := h2.2 xs hx; omega
  · exact smallR_pairs (by simp) (by simp)
theorem PairwiseNetwork_i_c (a : Int) (w : World) : Calls Try.prog 52 #[.int .i64 a] w (NetC w (if powB a = true then a else 0) (XPairwise a) (powB a)) := by
  by_cases h : powB a = true
  · unfold XPairwise
    rw [if_pos h, if_pos h, h]
    obtain ⟨f, hf, rfl, he⟩ := powB_cases h
    rw [he, Int.toNat_natCast]
    exact PairwiseNetwork_i_yes (2 ^ f) f w h rfl hf
  · replace h : powB a = false := by simpa using h
    unfold XPairwise
    rw [if_neg (by simp [h]), if_neg (by simp [h]), h]
    exact PairwiseNetwork_i_none a w h
def fct : Nat → Nat | 0 => 1 | k+1 => fct k * (k+1)
def lgf (n : Nat) : Nat := [0,0,1,3,5,7,10,13,16].getD n 0
theorem fct_wrap (k : Nat) (h : k < 8) : wrap64 ((fct k : Int) * ((k : Int) + 1)) = ((fct (k+1) : Nat) : Int) := by
  have : ∀ k < 8, wrap64 ((fct k : Int) * ((k : Int) + 1)) = ((fct (k+1) : Nat) : Int) := by decide +kernel
  exact this k h
theorem lgf_le (n : Nat) (h : n ≤ 8) : lgf n ≤ 16 := by
  have : ∀ n ≤ 8, lgf n ≤ 16 := by decide +kernel
  exact this n h
theorem lgf_lt (n j : Nat) (h : n ≤ 8) (h1 : 1 ≤ n) (hj : j < lgf n) : wrap64 (2 ^ j) < (fct n : Int) := by
  have : ∀ n ≤ 8, 1 ≤ n → ∀ j < lgf n, wrap64 (2 ^ j) < (fct n : Int) := by decide +kernel
  exact this n h h1 j hj
theorem lgf_ge (n : Nat) (h : n ≤ 8) (h1 : 1 ≤ n) : ¬ wrap64 (2 ^ lgf n) < (fct n : Int) := by
  have : ∀ n ≤ 8, 1 ≤ n → ¬ wrap64 (2 ^ lgf n) < (fct n : Int) := by decide +kernel
  exact this n h h1
theorem PairBound_i (n : Nat) (w : World) (h1 : 1 ≤ n) (h2 : n ≤ 8) (hb : inB (n : Int) 1 8 = true) : Calls Try.prog 50 #[.int .i64 n] w fun e w' => e = .returned (.int .i64 (lgf n)) ∧ w = w' := by
  have hl := lgf_le n h2
  go_enter Try.func50, Try.ntmps50
  go_wp2_with (first | (go_at_call 105; refine (isWires_c _ _).mono ?_; rintro e w' ⟨rfl, rfl⟩) )
  go_loop [3, 10] (fun o i => ∃ k : Nat, k ≤ n ∧ i = .int .i64 k ∧ o = .int .i64 (fct k)) (fun _ i => n - (intOf i).toNat)
  case atStart => exact ⟨0, Nat.zero_le _, rfl, rfl⟩
  case round =>
    obtain ⟨k, hk, rfl, rfl⟩ := hrel
    by_cases hlt : k < n
    · have HW : Hid (wrap64 ((fct k : Int) * ((k : Int) + 1)) = ((fct (k+1) : Nat) : Int)) := fct_wrap k (by omega)
      go_wp2
      go_round
      case rel => exact ⟨k+1, by omega, by go_num, by rw [HW.out]⟩
      case measure => simp [intOf]; omega
    · obtain rfl : k = n := by omega
      go_wp2
      go_loop [5] (fun o => ∃ j : Nat, j ≤ lgf k ∧ o = .int .i64 j) (fun o => lgf k - (intOf o).toNat)
      case atStart => exact ⟨0, Nat.zero_le _, rfl⟩
      case round =>
        obtain ⟨j, hj, rfl⟩ := hrel
        by_cases hjl : j < lgf k
        · have hf := lgf_lt k j h2 h1 hjl
          go_wp2
          go_round
          case rel => exact ⟨j+1, by omega, by go_num⟩
          case measure => simp [intOf]; omega
        · have HE : Hid (j = lgf k) := by show j = lgf k; omega
          have hf : (fct k : Int) ≤ wrap64 (2 ^ j) := by rw [HE.out]; exact Int.not_lt.1 (lgf_ge k h2 h1)
          go_wp2
          go_ret
          exact ⟨congrArg (fun n : Nat => Ending.returned (.int .i64 n)) HE.out, rfl⟩
theorem PairBound_i_no (n : Int) (w : World) (hb : inB n 1 8 = false) : Calls Try.prog 50 #[.int .i64 n] w fun e w' => e = .returned (.int .i64 (-1)) ∧ w = w' := by
  go_enter Try.func50, Try.ntmps50
  go_wp2_with (go_at_call 105; refine (isWires_c _ _).mono ?_; rintro e w' ⟨rfl, rfl⟩)
  go_ret
  exact ⟨rfl, rfl⟩
/-- The numbers below n, in some order. -/
def ordP (n : Nat) (xs : List Int) : Prop := xs.Perm (upI 0 n)
theorem ordP_len {n : Nat} {xs : List Int} (h : ordP n xs) : xs.length = n := by rw [List.Perm.length_eq h, upI_length]
set_option maxHeartbeats 2000000 in
theorem l02Order_c (p B n : Nat) (w : World) (hc : Cur w p B) (hn : n ≤ 50) : Calls Try.prog 127 #[.pointer (some ⟨p, 0, none⟩), .int .i64 n] w (CurInts w p B n (ordP n)) := by
  have HC := Lib.hid hc
  have hp := hc.lt
  obtain ⟨W0, hW0⟩ : ∃ W, W = w.alloc (.cells #[] 3) := ⟨_, rfl⟩
  have HO : Hid (OwnI W0 w.heap.size W0.heap.size (.slice (some ⟨w.heap.size, 0, none⟩) 0 0) []) := by show OwnI _ _ _ _ _; rw [hW0]; exact Own.mono (ownI_empty w) (Nat.le_refl _) (by simp)
  have HB0 : Hid (Below w.heap.size w W0) := by show Below _ _ _; rw [hW0]; exact (Below.refl _ _).alloc (Nat.le_refl _) _
  have HW := Lib.hid hW0
  clear hc hW0
  go_enter Try.func127, Try.ntmps127
  go_wp2_with fail
  try rw [← HW.out]
  go_loopw [5, 6] (fun v i wr => ∃ (k g cp : Nat) (ys : List Int), k ≤ n ∧ i = .int .i64 k ∧ v = .slice (some ⟨g, 0, none⟩) k cp ∧ Hid (ordP k ys) ∧ OwnI wr w.heap.size wr.heap.size v ys ∧ Cur wr p B ∧ But w.heap.size p w wr) (fun _ i _ => n - (intOf i).toNat)
  case atStart => exact ⟨0, _, _, [], by omega, rfl, rfl, List.Perm.refl _, HO.out, HC.out.below HB0.out hp, But.of_below HB0.out (by omega) (Nat.le_refl _)⟩
  case round =>
    obtain ⟨k, g1, cap1, ys, hk, rfl, rfl, HY, ho, hc, hb⟩ := hrel
    have HOW := Lib.hid ho
    have HCR := Lib.hid hc
    have HB := Lib.hid hb
    have hz := hb.size
    have HLEN : Hid (ys.length = k) := ordP_len HY.out
    have hcap : k ≤ cap1 := by
      obtain ⟨ao1, gg1, cc1, e1, hc1, -, -⟩ := OwnI.view ho
      injection e1 with _ _ e2
      rw [HLEN.out] at hc1
      omega
    clear ho hc hb
    by_cases hlt : k < n
    · have e1 : (k : Int) < (n : Int) := by omega
      have HKM : Hid ((0 : Int) < (k : Int) + 1 ∧ (k : Int) + 1 ≤ 256) := by show _ ∧ _; omega
      go_wp2_with fail
      refine (l01Below_c p B ((k : Int) + 1) wr HCR.out HKM.out.1 HKM.out.2).mono ?_
      rintro e w1 ⟨x, rfl, x0, x1, c1, b1⟩
      obtain ⟨q, rfl⟩ : ∃ q : Nat, x = q := ⟨x.toNat, by omega⟩
      have hqk : q ≤ k := by omega
      have z1 := b1.size
      have zz1 : w.heap.size ≤ w1.heap.size := by omega
      have C1 := Lib.hid c1
      have O1 : Hid (OwnI w1 w.heap.size w1.heap.size _ ys) := Own.mono (b1.own HOW.out hp (Nat.le_refl _)) (Nat.le_refl _) z1
      have B1 : Hid (But w.heap.size p w w1) := HB.out.trans (b1.mono (by omega))
      have HF0 : Hid (∀ j, ordP (k + 1) (ys.take j ++ [(k : Int)] ++ ys.drop j)) := fun j => by
        show List.Perm _ _
        refine (insert_perm ys k j).trans ?_
        rw [upI_succ, Int.zero_add]
        exact List.Perm.append_right _ HY.out
      have HF := Lib.hid (HF0.out q)
      clear c1 b1 HF0 HOW HCR x0 x1
      rcases Nat.eq_zero_or_pos q with hq0 | hq0
      · subst hq0
        have HT := Lib.hid ((OwnI.ints O1.out).fore HLEN.out (0) (by omega))
        have HDs := Lib.hid (OwnI.ints O1.out)
        have HLT : Hid ((ys.take (0)).length = (0) ∧ (ys.drop (0)).length = k - (0)) := by show _ ∧ _; rw [List.length_take, List.length_drop, HLEN.out]; omega
        obtain ⟨A, hA⟩ : ∃ A, A = ys.take (0) := ⟨_, rfl⟩
        obtain ⟨D, hD⟩ : ∃ D, D = ys.drop (0) := ⟨_, rfl⟩
        rw [List.drop_zero] at hD HLT HF
        rw [← hA] at HT
        rw [← hD] at HDs
        rw [← hA, ← hD] at HLT HF
        clear hA hD
        have HL0 : Hid (([] : List Int).length + A.length ≤ 1000000000) := by show _ ≤ _; have := HLT.out; simp; omega
        have HL1 : Hid ((([] : List Int) ++ A).length ≤ 100000000) := by show _ ≤ _; have := HLT.out; simp; omega
        have HL2 : Hid ((([] : List Int) ++ A ++ [(k : Int)]).length + D.length ≤ 1000000000) := by show _ ≤ _; have := HLT.out; simp; omega
        have HE0 : Hid (OwnI (w1.alloc (.cells #[] 3)) w1.heap.size (w1.heap.size + 1) (.slice (some ⟨w1.heap.size, 0, none⟩) 0 0) []) := ownI_empty w1
        have HEt : Hid (IntsV (w1.alloc (.cells #[] 3)) w.heap.size w1.heap.size (.slice (some ⟨g1, 0, none⟩) (0) cap1) A) := HT.out.below ((Below.refl _ _).alloc (Nat.le_refl _) _) (Nat.le_refl _)
        have HEz : Hid (w1.heap.size ≤ (w1.alloc (.cells #[] 3)).heap.size) := by show _ ≤ _; simp
        have HEb : Hid (Below w1.heap.size w1 (w1.alloc (.cells #[] 3))) := (Below.refl _ _).alloc (Nat.le_refl _) _
        clear HT
        go_wp2_with (at_builtin; first | (refine wpList_app_ints rfl (.tmp 28) (.tmp 31) rfl w3 w1.heap.size w3.heap.size w.heap.size w1.heap.size _ _ (([] : List Int) ++ A ++ [(k : Int)]) D O3.out HD3.out z3 HL2.out rfl rfl ?_; intro ao7 L7 cap7 w4 hL7 o4 q4 z4; have O4 := Lib.hid o4; have Q4 : Hid (Below w1.heap.size w1 w4) := Q3.out.trans q4; clear o4 q4) | (refine wpList_app_int rfl (.tmp 24) (.tmp 26) rfl w2 (k : Int) w1.heap.size w2.heap.size _ (([] : List Int) ++ A) O2.out z2 HL1.out rfl rfl ?_; intro ao6 L6 cap6 w3 hL6 o3 q3 z3; have O3 := Lib.hid o3; have Q3 : Hid (Below w1.heap.size w1 w3) := Q2.out.trans q3; have HD3 := Lib.hid (HDs.out.below Q3.out (Nat.le_refl _)); clear o3 q3) | (refine wpList_app_ints rfl (.tmp 19) (.tmp 22) rfl (w1.alloc (.cells #[] 3)) w1.heap.size (w1.heap.size + 1) w.heap.size w1.heap.size _ _ [] A HE0.out HEt.out HEz.out HL0.out rfl rfl ?_; intro ao5 L5 cap5 w2 hL5 o2 q2 z2; have O2 := Lib.hid o2; have Q2 : Hid (Below w1.heap.size w1 w2) := HEb.out.trans q2; clear o2 q2) | fail)
        have HR3 : Hid (∃ g, ao7 = some ⟨g, 0, none⟩ ∧ L7 = k + 1) := by
          obtain ⟨aoz, gz, capz, ez, -, haz, -⟩ := OwnI.view O4.out
          have hlz : (([] : List Int) ++ A ++ [(k : Int)] ++ D).length = k + 1 := by have := HLT.out; simp; omega
          rw [hlz] at ez haz
          injection ez with ez1 ez2 ez3
          exact ⟨gz, by rw [ez1]; exact (haz (by omega)).1, ez2⟩
        obtain ⟨g7, rfl, rfl⟩ := HR3.out
        go_roundw
        case rel => exact ⟨k + 1, g7, cap7, A ++ [(k : Int)] ++ D, by omega, by go_num, rfl, HF.out, by have := O4.out; rw [List.nil_append] at this; exact Own.mono this zz1 (Nat.le_refl _), C1.out.below Q4.out (by omega), B1.out.trans (But.of_below (Q4.out.mono zz1) (by omega) (Nat.le_refl _))⟩
        case measure => simp [intOf]; omega
      · obtain ⟨r, rfl⟩ : ∃ r, q = r + 1 := ⟨q - 1, by omega⟩
        have hr0 : ¬ cap1 = 0 := by omega
        have hqc : r + 1 ≤ cap1 := by omega
        by_cases hcq : cap1 = r + 1
        · have HT := Lib.hid ((OwnI.ints O1.out).fore HLEN.out (r + 1) (by omega))
          have HDs := Lib.hid (((OwnI.ints O1.out).aft HLEN.out (r + 1) (by omega)).1 hcq)
          subst hcq
          obtain rfl : k = r + 1 := by omega
          rw [Nat.sub_self] at HDs
          have HLT : Hid ((ys.take (r + 1)).length = (r + 1) ∧ (ys.drop (r + 1)).length = r + 1 - (r + 1)) := by show _ ∧ _; rw [List.length_take, List.length_drop, HLEN.out]; omega
          obtain ⟨A, hA⟩ : ∃ A, A = ys.take (r + 1) := ⟨_, rfl⟩
          obtain ⟨D, hD⟩ : ∃ D, D = ys.drop (r + 1) := ⟨_, rfl⟩
          rw [← hA] at HT
          rw [← hD] at HDs
          rw [← hA, ← hD] at HLT HF
          clear hA hD
          have HL0 : Hid (([] : List Int).length + A.length ≤ 1000000000) := by show _ ≤ _; have := HLT.out; simp; omega
          have HL1 : Hid ((([] : List Int) ++ A).length ≤ 100000000) := by show _ ≤ _; have := HLT.out; simp; omega
          have HL2 : Hid ((([] : List Int) ++ A ++ [(((r + 1 : Nat) : Int) : Int)]).length + D.length ≤ 1000000000) := by show _ ≤ _; have := HLT.out; simp; omega
          have HE0 : Hid (OwnI (w1.alloc (.cells #[] 3)) w1.heap.size (w1.heap.size + 1) (.slice (some ⟨w1.heap.size, 0, none⟩) 0 0) []) := ownI_empty w1
          have HEt : Hid (IntsV (w1.alloc (.cells #[] 3)) w.heap.size w1.heap.size (.slice (some ⟨g1, 0, none⟩) (r + 1) (r + 1)) A) := HT.out.below ((Below.refl _ _).alloc (Nat.le_refl _) _) (Nat.le_refl _)
          have HEz : Hid (w1.heap.size ≤ (w1.alloc (.cells #[] 3)).heap.size) := by show _ ≤ _; simp
          have HEb : Hid (Below w1.heap.size w1 (w1.alloc (.cells #[] 3))) := (Below.refl _ _).alloc (Nat.le_refl _) _
          clear HT
          go_wp2_with (at_builtin; first | (refine wpList_app_ints rfl (.tmp 28) (.tmp 31) rfl w3 w1.heap.size w3.heap.size w.heap.size w1.heap.size _ _ (([] : List Int) ++ A ++ [(((r + 1 : Nat) : Int) : Int)]) D O3.out HD3.out z3 HL2.out rfl rfl ?_; intro ao7 L7 cap7 w4 hL7 o4 q4 z4; have O4 := Lib.hid o4; have Q4 : Hid (Below w1.heap.size w1 w4) := Q3.out.trans q4; clear o4 q4) | (refine wpList_app_int rfl (.tmp 24) (.tmp 26) rfl w2 (((r + 1 : Nat) : Int) : Int) w1.heap.size w2.heap.size _ (([] : List Int) ++ A) O2.out z2 HL1.out rfl rfl ?_; intro ao6 L6 cap6 w3 hL6 o3 q3 z3; have O3 := Lib.hid o3; have Q3 : Hid (Below w1.heap.size w1 w3) := Q2.out.trans q3; have HD3 := Lib.hid (HDs.out.below Q3.out (Nat.le_refl _)); clear o3 q3) | (refine wpList_app_ints rfl (.tmp 19) (.tmp 22) rfl (w1.alloc (.cells #[] 3)) w1.heap.size (w1.heap.size + 1) w.heap.size w1.heap.size _ _ [] A HE0.out HEt.out HEz.out HL0.out rfl rfl ?_; intro ao5 L5 cap5 w2 hL5 o2 q2 z2; have O2 := Lib.hid o2; have Q2 : Hid (Below w1.heap.size w1 w2) := HEb.out.trans q2; clear o2 q2) | fail)
          have HR3 : Hid (∃ g, ao7 = some ⟨g, 0, none⟩ ∧ L7 = r + 1 + 1) := by
            obtain ⟨aoz, gz, capz, ez, -, haz, -⟩ := OwnI.view O4.out
            have hlz : (([] : List Int) ++ A ++ [(((r + 1 : Nat) : Int) : Int)] ++ D).length = r + 1 + 1 := by have := HLT.out; simp; omega
            rw [hlz] at ez haz
            injection ez with ez1 ez2 ez3
            exact ⟨gz, by rw [ez1]; exact (haz (by omega)).1, ez2⟩
          obtain ⟨g7, rfl, rfl⟩ := HR3.out
          go_roundw
          case rel => exact ⟨r + 1 + 1, g7, cap7, A ++ [(((r + 1 : Nat) : Int) : Int)] ++ D, by omega, by go_num, rfl, HF.out, by have := O4.out; rw [List.nil_append] at this; exact Own.mono this zz1 (Nat.le_refl _), C1.out.below Q4.out (by omega), B1.out.trans (But.of_below (Q4.out.mono zz1) (by omega) (Nat.le_refl _))⟩
          case measure => simp [intOf]; omega
        · have HT := Lib.hid ((OwnI.ints O1.out).fore HLEN.out (r + 1) (by omega))
          have HDs := Lib.hid (((OwnI.ints O1.out).aft HLEN.out (r + 1) (by omega)).2 hcq)
          rw [Nat.zero_add] at HDs
          have HLT : Hid ((ys.take (r + 1)).length = (r + 1) ∧ (ys.drop (r + 1)).length = k - (r + 1)) := by show _ ∧ _; rw [List.length_take, List.length_drop, HLEN.out]; omega
          obtain ⟨A, hA⟩ : ∃ A, A = ys.take (r + 1) := ⟨_, rfl⟩
          obtain ⟨D, hD⟩ : ∃ D, D = ys.drop (r + 1) := ⟨_, rfl⟩
          rw [← hA] at HT
          rw [← hD] at HDs
          rw [← hA, ← hD] at HLT HF
          clear hA hD
          have HL0 : Hid (([] : List Int).length + A.length ≤ 1000000000) := by show _ ≤ _; have := HLT.out; simp; omega
          have HL1 : Hid ((([] : List Int) ++ A).length ≤ 100000000) := by show _ ≤ _; have := HLT.out; simp; omega
          have HL2 : Hid ((([] : List Int) ++ A ++ [(k : Int)]).length + D.length ≤ 1000000000) := by show _ ≤ _; have := HLT.out; simp; omega
          have HE0 : Hid (OwnI (w1.alloc (.cells #[] 3)) w1.heap.size (w1.heap.size + 1) (.slice (some ⟨w1.heap.size, 0, none⟩) 0 0) []) := ownI_empty w1
          have HEt : Hid (IntsV (w1.alloc (.cells #[] 3)) w.heap.size w1.heap.size (.slice (some ⟨g1, 0, none⟩) (r + 1) cap1) A) := HT.out.below ((Below.refl _ _).alloc (Nat.le_refl _) _) (Nat.le_refl _)
          have HEz : Hid (w1.heap.size ≤ (w1.alloc (.cells #[] 3)).heap.size) := by show _ ≤ _; simp
          have HEb : Hid (Below w1.heap.size w1 (w1.alloc (.cells #[] 3))) := (Below.refl _ _).alloc (Nat.le_refl _) _
          clear HT
          go_wp2_with (at_builtin; first | (refine wpList_app_ints rfl (.tmp 28) (.tmp 31) rfl w3 w1.heap.size w3.heap.size w.heap.size w1.heap.size _ _ (([] : List Int) ++ A ++ [(k : Int)]) D O3.out HD3.out z3 HL2.out rfl rfl ?_; intro ao7 L7 cap7 w4 hL7 o4 q4 z4; have O4 := Lib.hid o4; have Q4 : Hid (Below w1.heap.size w1 w4) := Q3.out.trans q4; clear o4 q4) | (refine wpList_app_int rfl (.tmp 24) (.tmp 26) rfl w2 (k : Int) w1.heap.size w2.heap.size _ (([] : List Int) ++ A) O2.out z2 HL1.out rfl rfl ?_; intro ao6 L6 cap6 w3 hL6 o3 q3 z3; have O3 := Lib.hid o3; have Q3 : Hid (Below w1.heap.size w1 w3) := Q2.out.trans q3; have HD3 := Lib.hid (HDs.out.below Q3.out (Nat.le_refl _)); clear o3 q3) | (refine wpList_app_ints rfl (.tmp 19) (.tmp 22) rfl (w1.alloc (.cells #[] 3)) w1.heap.size (w1.heap.size + 1) w.heap.size w1.heap.size _ _ [] A HE0.out HEt.out HEz.out HL0.out rfl rfl ?_; intro ao5 L5 cap5 w2 hL5 o2 q2 z2; have O2 := Lib.hid o2; have Q2 : Hid (Below w1.heap.size w1 w2) := HEb.out.trans q2; clear o2 q2) | fail)
          have HR3 : Hid (∃ g, ao7 = some ⟨g, 0, none⟩ ∧ L7 = k + 1) := by
            obtain ⟨aoz, gz, capz, ez, -, haz, -⟩ := OwnI.view O4.out
            have hlz : (([] : List Int) ++ A ++ [(k : Int)] ++ D).length = k + 1 := by have := HLT.out; simp; omega
            rw [hlz] at ez haz
            injection ez with ez1 ez2 ez3
            exact ⟨gz, by rw [ez1]; exact (haz (by omega)).1, ez2⟩
          obtain ⟨g7, rfl, rfl⟩ := HR3.out
          go_roundw
          case rel => exact ⟨k + 1, g7, cap7, A ++ [(k : Int)] ++ D, by omega, by go_num, rfl, HF.out, by have := O4.out; rw [List.nil_append] at this; exact Own.mono this zz1 (Nat.le_refl _), C1.out.below Q4.out (by omega), B1.out.trans (But.of_below (Q4.out.mono zz1) (by omega) (Nat.le_refl _))⟩
          case measure => simp [intOf]; omega
    · have e1 : ¬ (k : Int) < (n : Int) := by omega
      have HE : Hid (k = n) := by show k = n; omega
      go_wp2
      go_ret
      exact ⟨_, ys, rfl, by rw [HLEN.out, HE.out], by rw [← HE.out]; exact HY.out, HOW.out, HCR.out, HB.out⟩
set_option maxHeartbeats 1000000 in
theorem MakeOrder_c (B n m k : Nat) (v : Value) (w : World) (hv : BytesV w B v n) (hB : B ≤ w.heap.size) (hn : n ≤ 1048576) (hm : m ≤ 1000) (hk : k ≤ 50) :
    Calls Try.prog 55 #[v, .int .i64 m, .int .i64 k] w (SomeI w k (ordP k)) := by
  have HN := Lib.hid (l31New_c B n m v w hv hB hn hm)
  clear hv
  go_enter Try.func55, Try.ntmps55
  go_wp2_with fail
  refine HN.out.mono ?_
  rintro e w1 ⟨p, rfl, hp, c1, b1⟩
  have C1 := Lib.hid c1
  have B1 := Lib.hid b1
  have z1 := b1.size
  clear c1 b1
  go_wp2_with fail
  refine (l02Order_c p B k w1 C1.out hk).mono ?_
  rintro e w2 ⟨u, xs, rfl, h1, h2, o2, c2, b2⟩
  have O2 : Hid (OwnI w2 w.heap.size w2.heap.size u xs) := Own.mono o2 z1 (Nat.le_refl _)
  have B2 : Hid (Below w.heap.size w w2) := B1.out.trans (b2.below hp)
  have H1 := Lib.hid h1
  have H2 := Lib.hid h2
  clear o2 c2 b2 h1 h2
  go_wp2
  go_ret
  exact ⟨u, xs, rfl, H1.out, H2.out, O2.out, B2.out⟩
end Go.Proofs.Ytiodolbgapjmkaa

namespace Go.Proofs.Ytiodolbgapjmkaa
open Go.RowKit
set_option maxRecDepth 100000
set_option linter.unusedVariables false

theorem sorts_mask {n : Nat} {xss : List (List Int)} (h : sortsR n xss = true) {m : Nat} (hm : m < 2 ^ n) : bitsP xss m = srt n m := by
  unfold sortsR at h
  rw [Bool.and_eq_true, Int.toNat_natCast, allB, List.all_eq_true] at h
  have := h.2 m (List.mem_range.2 hm)
  unfold sortB at this
  exact beq_iff_eq.1 this
theorem sorts_ok {n : Nat} {xss : List (List Int)} (h : sortsR n xss = true) : netOk n xss = true := by
  unfold sortsR at h
  rw [Bool.and_eq_true] at h
  exact h.1
theorem sorts_list {n : Nat} {xss : List (List Int)} (h : sortsR n xss = true) (l : List Int) (hl : l.length = n) : applyP xss l = sortI l := by
  have hn := netOk_n (sorts_ok h)
  exact apply_sorted (netOk_pair (sorts_ok h)) (by omega) l hl fun t => sorts_mask h (by have := thr_lt t l; rwa [hl] at this)
def hf (n : Nat) : Nat := (n + 1) / 2
def finSo (n : Nat) : Bool := sortsR n (bat n (upI 0 n)) && stdB (bat n (upI 0 n)) && (batSz n == (bat n (upI 0 n)).length) && decide (lgf n ≤ (bat n (upI 0 n)).length) && (decide (n ≤ 1) || (batSz n == batSz (hf n) + batSz ((n - hf n : Nat)) + mrgSz (hf n) ((n - hf n : Nat))))
theorem fin_so (n : Nat) (h1 : 1 ≤ n) (h7 : n ≤ 7) : sortsR n (bat n (upI 0 n)) = true ∧ stdB (bat n (upI 0 n)) = true ∧ batSz n = (bat n (upI 0 n)).length ∧ lgf n ≤ (bat n (upI 0 n)).length ∧ (1 < n → batSz n = batSz (hf n) + batSz ((n - hf n : Nat)) + mrgSz (hf n) ((n - hf n : Nat))) := by
  have : ∀ n : Nat, n < 8 → 1 ≤ n → finSo n = true := by decide +kernel
  have h := this n (by omega) h1
  simp only [finSo, Bool.and_eq_true, Bool.or_eq_true, beq_iff_eq, decide_eq_true_eq] at h
  obtain ⟨⟨⟨⟨a, b⟩, c⟩, d⟩, e⟩ := h
  exact ⟨a, b, c, d, fun h9 => by rcases e with e | e; omega; exact e⟩
def finPw (s k : Nat) : Bool := powB s && sortsR s (XBitonicNetwork s) && sortsR s (XPairwise s) && stdB (XBitonicNetwork s) && stdB (XPairwise s) && (bitSz s == (XBitonicNetwork s).length) && (((XBitonicNetwork s).length : Nat) == s * k * (k + 1) / 4) && (batSz s == (XPairwise s).length) &&
  (depthP (XBitonicNetwork s) (XBitonicNetwork s).length == k * (k + 1) / 2) && (depthP (XPairwise s) (XPairwise s).length == k * (k + 1) / 2)
theorem fin_pw (k : Nat) (h3 : k ≤ 3) : powB (2 ^ k : Nat) = true ∧ sortsR (2 ^ k : Nat) (XBitonicNetwork (2 ^ k : Nat)) = true ∧ sortsR (2 ^ k : Nat) (XPairwise (2 ^ k : Nat)) = true ∧ stdB (XBitonicNetwork (2 ^ k : Nat)) = true ∧ stdB (XPairwise (2 ^ k : Nat)) = true ∧
    bitSz (2 ^ k : Nat) = (XBitonicNetwork (2 ^ k : Nat)).length ∧ (XBitonicNetwork (2 ^ k : Nat)).length = 2 ^ k * k * (k + 1) / 4 ∧ batSz (2 ^ k : Nat) = (XPairwise (2 ^ k : Nat)).length ∧
    depthP (XBitonicNetwork (2 ^ k : Nat)) (XBitonicNetwork (2 ^ k : Nat)).length = k * (k + 1) / 2 ∧ depthP (XPairwise (2 ^ k : Nat)) (XPairwise (2 ^ k : Nat)).length = k * (k + 1) / 2 := by
  have : ∀ k : Nat, k < 4 → finPw (2 ^ k) k = true := by decide +kernel
  have h := this k (by omega)
  simp only [finPw, Bool.and_eq_true, beq_iff_eq] at h
  obtain ⟨⟨⟨⟨⟨⟨⟨⟨⟨a, b⟩, c⟩, d⟩, e⟩, f⟩, g⟩, i⟩, j⟩, l⟩ := h
  exact ⟨a, b, c, d, e, f, g, i, j, l⟩
theorem sortX_eq (l : List Int) (h1 : 1 ≤ l.length) (h7 : l.length ≤ 7) : sortX l = sortI l := by
  unfold sortX
  rw [if_pos (inB_mk (by omega))]
  exact sorts_list (fin_so l.length h1 h7).1 l rfl
/-- The values of some wires. -/
def gathL (ws l : List Int) : List Int := ws.map fun x => l.getD x.toNat 0
theorem gathL_len (ws l : List Int) : (gathL ws l).length = ws.length := by simp [gathL]
theorem gathL_getD (ws l : List Int) (t : Nat) (h : t < ws.length) : (gathL ws l).getD t 0 = l.getD (ws.getD t 0).toNat 0 := by simp [gathL, List.getD, h]
theorem cmpx_getD (l : List Int) (i j k : Nat) (hi : i < l.length) (hj : j < l.length) (hne : i ≠ j) : (cmpx [(i : Int), (j : Int)] l).getD k 0 = if k = j then max (l.getD i 0) (l.getD j 0) else if k = i then min (l.getD i 0) (l.getD j 0) else l.getD k 0 := by
  have e : cmpx [(i : Int), (j : Int)] l = (l.set i (min (l.getD i 0) (l.getD j 0))).set j (max (l.getD i 0) (l.getD j 0)) := rfl
  rw [e]
  by_cases h : k = j
  · subst h
    rw [if_pos rfl]
    simp [List.getD, hj]
  · rw [if_neg h, getD_set_ne' _ _ _ _ (Ne.symm h)]
    by_cases h2 : k = i
    · subst h2
      rw [if_pos rfl]
      simp [List.getD, hi]
    · rw [if_neg h2, getD_set_ne' _ _ _ _ (Ne.symm h2)]
/-- Wires of a network of n wires that differ. -/
structure WsP (n : Nat) (ws : List Int) : Prop where
  wire : ∀ t, t < ws.length → ∃ a : Nat, ws.getD t 0 = a ∧ a < n
  inj : ∀ s t, s < ws.length → t < ws.length → ws.getD s 0 = ws.getD t 0 → s = t
theorem gath_cmpx {n : Nat} {ws l : List Int} (h : WsP n ws) (hl : l.length = n) {i j : Nat} (hi : i < ws.length) (hj : j < ws.length) (hne : i ≠ j) :
    gathL ws (cmpx [ws.getD i 0, ws.getD j 0] l) = cmpx [(i : Int), (j : Int)] (gathL ws l) := by
  obtain ⟨a, ha, han⟩ := h.wire i hi
  obtain ⟨b, hb, hbn⟩ := h.wire j hj
  have hab : a ≠ b := fun e => hne (h.inj i j hi hj (by rw [ha, hb, e]))
  rw [ha, hb]
  apply List.ext_getElem
  · rw [gathL_len, cmpx_len, gathL_len]
  · intro t h1 h2
    rw [gathL_len] at h1
    have e1 : (gathL ws (cmpx [(a : Int), (b : Int)] l))[t]'(by rw [gathL_len]; exact h1) = (gathL ws (cmpx [(a : Int), (b : Int)] l)).getD t 0 := by simp [List.getD, gathL_len, h1]
    have e2 : (cmpx [(i : Int), (j : Int)] (gathL ws l))[t]'h2 = (cmpx [(i : Int), (j : Int)] (gathL ws l)).getD t 0 := by simp [List.getD, h2]
    rw [e1, e2, gathL_getD _ _ _ h1, cmpx_getD _ _ _ _ (by rw [gathL_len]; exact hi) (by rw [gathL_len]; exact hj) hne, cmpx_getD _ _ _ _ (by omega) (by omega) hab, gathL_getD _ _ _ hi, gathL_getD _ _ _ hj, gathL_getD _ _ _ h1, ha, hb, Int.toNat_natCast, Int.toNat_natCast]
    obtain ⟨c, hc, hcn⟩ := h.wire t h1
    rw [hc, Int.toNat_natCast]
    by_cases hcb : t = j
    · subst hcb
      have : c = b := by have := hc.symm.trans hb; omega
      rw [if_pos this, if_pos rfl]
    · have hcb2 : c ≠ b := fun e => hcb (h.inj t j h1 hj (by rw [hc, hb, e]))
      rw [if_neg hcb2, if_neg hcb]
      by_cases hca : t = i
      · subst hca
        have : c = a := by have := hc.symm.trans ha; omega
        rw [if_pos this, if_pos rfl]
      · have hca2 : c ≠ a := fun e => hca (h.inj t i h1 hi (by rw [hc, ha, e]))
        rw [if_neg hca2, if_neg hca]
/-- The sorter on some wires does with their values what the sorter does with a list. -/
theorem gath_apply {n : Nat} {ws : List Int} (h : WsP n ws) {Y : List (List Int)} (hY : pairsOf ws.length Y) (l : List Int) (hl : l.length = n) : gathL ws (applyP (renP (lookI ws) Y) l) = applyP Y (gathL ws l) := by
  have key : ∀ k, k ≤ Y.length → gathL ws (applyP (renP (lookI ws) (Y.take k)) l) = applyP (Y.take k) (gathL ws l) := by
    intro k
    induction k with
    | zero => intro _; rfl
    | succ k ih =>
      intro hk
      obtain ⟨i, j, hr, hi, hj, hne⟩ := hY k (by omega)
      rw [take_snoc_getD [] (by omega), renP_append, applyP, List.foldl_append, applyP, List.foldl_append, hr]
      have e : renP (lookI ws) [[(i : Int), (j : Int)]] = [[ws.getD i 0, ws.getD j 0]] := by simp [renP, lookI]
      rw [e]
      show gathL ws (cmpx [ws.getD i 0, ws.getD j 0] (applyP (renP (lookI ws) (Y.take k)) l)) = cmpx [(i : Int), (j : Int)] (applyP (Y.take k) (gathL ws l))
      rw [gath_cmpx h (by rw [applyP_len, hl]) hi hj hne, ih (by omega)]
  have := key Y.length (Nat.le_refl _)
  rwa [List.take_length] at this
theorem upI_nodup (n : Nat) : (upI 0 n).Nodup := by
  unfold upI
  rw [List.nodup_iff_pairwise_ne, List.pairwise_map]
  exact (List.nodup_iff_pairwise_ne.1 List.nodup_range).imp fun h e => h (by omega)
theorem wsP_of {n : Nat} {xs : List Int} (h : ordP n xs) (N : Nat) : WsP n (xs.take N) := by
  have hnd : (xs.take N).Nodup := ((List.Perm.nodup_iff h).2 (upI_nodup n)).sublist (List.take_sublist _ _)
  refine ⟨fun t ht => ?_, fun s t hs ht e => ?_⟩
  · have hm : (xs.take N).getD t 0 ∈ xs := by
      rw [List.getD_eq_getElem?_getD, List.getElem?_eq_getElem ht]
      exact List.mem_of_mem_take (List.getElem_mem ht)
    have := upI_mem ((List.Perm.mem_iff h).1 hm)
    exact ⟨((xs.take N).getD t 0).toNat, by omega, by omega⟩
  · rw [List.getD_eq_getElem?_getD, List.getElem?_eq_getElem hs, List.getD_eq_getElem?_getD, List.getElem?_eq_getElem ht] at e
    have hp := List.pairwise_iff_getElem.1 (List.nodup_iff_pairwise_ne.1 hnd)
    rcases Nat.lt_trichotomy s t with h1 | h1 | h1
    · exact absurd e (hp s t hs ht h1)
    · exact h1
    · exact absurd e.symm (hp t s ht hs h1)
theorem seqB_of {n : Nat} {ws : List Int} (h : WsP n ws) (h0 : 0 < ws.length) : seqB n ws = true := by
  unfold seqB
  rw [decide_eq_true h0, Bool.true_and, allB, List.all_eq_true]
  intro k hk
  rw [List.mem_range] at hk
  obtain ⟨a, ha, han⟩ := h.wire k hk
  unfold okAt
  rw [Bool.and_eq_true, Bool.not_eq_true', ha, inB_mk (by omega)]
  refine ⟨rfl, ?_⟩
  rw [← Bool.not_eq_true, List.contains_iff_mem]
  intro hm
  obtain ⟨t, ht, e⟩ := List.getElem_of_mem hm
  rw [List.length_take] at ht
  rw [List.getElem_take] at e
  have := h.inj t k (by omega) hk (by rw [ha, ← e, List.getD_eq_getElem?_getD, List.getElem?_eq_getElem (by omega)]; rfl)
  omega
theorem sortOn_ok {n : Nat} {xss : List (List Int)} {ws : List Int} (hd : drawnN n xss) (h : WsP n ws) (h0 : 0 < ws.length) : netOk n (sortOnX xss ws) = true := by
  obtain ⟨h1, h6, hp, hl⟩ := hd
  have hws := seqB_len (seqB_of h h0)
  have hb := bat_ok2 ws.length h0 (by omega)
  have hbl : (bat ws.length (upI 0 ws.length)).length ≤ 19 := by
    have : ∀ n : Nat, n < 9 → (bat n (upI 0 n)).length ≤ 19 := by decide +kernel
    exact this _ (by omega)
  refine netOk_of_pairUp (up := false) (fun r hr => ?_) h1 (by omega) ?_
  · unfold sortOnX at hr
    rcases List.mem_append.1 hr with hr | hr
    · exact hp r hr
    · unfold renP at hr
      rw [List.mem_map] at hr
      obtain ⟨p, hp1, rfl⟩ := hr
      obtain ⟨k, hk, rfl⟩ := List.getElem_of_mem hp1
      obtain ⟨i, j, e, hi, hj, hne⟩ := netOk_pair hb k hk
      have e2 : (bat ws.length (upI 0 ws.length))[k] = [(i : Int), (j : Int)] := by rw [← e]; simp [List.getD, hk]
      obtain ⟨a, ha, han⟩ := h.wire i hi
      obtain ⟨b, hb2, hbn⟩ := h.wire j hj
      rw [e2]
      refine ⟨a, b, ?_, han, hbn, fun e3 => hne (h.inj i j hi hj (by rw [ha, hb2, e3])), fun h9 => by cases h9⟩
      simp only [List.map_cons, List.map_nil, lookI, Int.toNat_natCast, ha, hb2]
  · unfold sortOnX renP
    rw [List.length_append, List.length_map]
    omega
/-- Behind the sorter the values of its wires do not fall. -/
theorem sortOn_rises {n : Nat} {xss : List (List Int)} {ws l : List Int} (h : WsP n ws) (h0 : 0 < ws.length) (h8 : ws.length ≤ 7) (hl : l.length = n) : risesB (gathL ws (applyP (sortOnX xss ws) l)) = true := by
  have hs := (fin_so ws.length h0 h8).1
  unfold sortOnX
  rw [applyP, List.foldl_append]
  show risesB (gathL ws (applyP (renP (lookI ws) (bat ws.length (upI 0 ws.length))) (applyP xss l))) = true
  rw [gath_apply h (netOk_pair (sorts_ok hs)) _ (by rw [applyP_len, hl]), sorts_list hs _ (by rw [gathL_len])]
  exact rises_sortI _
end Go.Proofs.Ytiodolbgapjmkaa

namespace Go.Proofs.Ytiodolbgapjmkaa
open Go.RowKit
set_option maxRecDepth 100000
set_option linter.unusedVariables false
set_option linter.unusedSimpArgs false
theorem Batcher_z (n : Nat) (h1 : 1 ≤ n) (h8 : n ≤ 8) (w : World) : Calls Try.prog 46 #[.int .i64 n] w (NetC w (n : Int) (bat n (upI 0 n)) true) := BatcherNetwork_i_yes n w (inB_mk (by omega)) h1 h8
theorem Bitonic_z (s : Nat) (hp : powB s = true) (w : World) : Calls Try.prog 51 #[.int .i64 s] w (NetC w (s : Int) (XBitonicNetwork s) true) := by
  have h := BitonicNetwork_i_c s w
  rwa [if_pos hp, hp] at h
theorem Pairwise_z (s : Nat) (hp : powB s = true) (w : World) : Calls Try.prog 52 #[.int .i64 s] w (NetC w (s : Int) (XPairwise s) true) := by
  have h := PairwiseNetwork_i_c s w
  rwa [if_pos hp, hp] at h
theorem SortOn_z (n : Nat) (lo hi lo2 hi2 : Nat) (v : Value) (vs : List Value) (xss : List (List Int)) (u : Value) (xs : List Int) (w : World) (hv : OwnR w lo hi v vs xss) (hhi : hi ≤ w.heap.size) (hok : netOk n xss = true)
    (hu : IntsV w lo2 hi2 u xs) (hh2 : hi2 ≤ w.heap.size) (hws : seqB n xs = true) (h2 : netOk n (sortOnX xss xs) = true) :
    Calls Try.prog 56 #[.agg #[.int .i64 n, v], u] w (NetC w (n : Int) (sortOnX xss xs) true) := by
  have h := SortOn_i_yes n lo hi lo2 hi2 v vs xss u xs w hv hhi hok hu hh2 hws
  rwa [if_pos h2, if_pos h2, h2] at h
theorem so_bounds (n : Nat) (h1 : 1 < n) (h7 : n ≤ 7) : 0 ≤ batSz n ∧ batSz n ≤ 20 ∧ 0 ≤ batSz (hf n) ∧ batSz (hf n) ≤ 20 ∧ 0 ≤ batSz ((n - hf n : Nat)) ∧ batSz ((n - hf n : Nat)) ≤ 20 ∧ 0 ≤ mrgSz (hf n) ((n - hf n : Nat)) ∧ mrgSz (hf n) ((n - hf n : Nat)) ≤ 20 := by
  have : ∀ n : Nat, n < 8 → 1 < n → 0 ≤ batSz n ∧ batSz n ≤ 20 ∧ 0 ≤ batSz (hf n) ∧ batSz (hf n) ≤ 20 ∧ 0 ≤ batSz ((n - hf n : Nat)) ∧ batSz ((n - hf n : Nat)) ≤ 20 ∧ 0 ≤ mrgSz (hf n) ((n - hf n : Nat)) ∧ mrgSz (hf n) ((n - hf n : Nat)) ≤ 20 := by decide +kernel
  exact this n (by omega) h1

set_option maxHeartbeats 4000000 in
theorem FnSorters_core (w : World) (N : Nat) (cv : Value) (hv : BytesV w w.heap.size cv N) : Calls Try.prog 6 #[cv] w fun e w' => e = .returned (.bool true) ∧ Below w.heap.size w w' := by
  have HV := Lib.hid hv
  obtain ⟨cao, cb, coff, ccap, ecv, -, -, -⟩ := id hv
  subst ecv
  clear hv
  by_cases hN : N ≤ 1048576
  rotate_left
  · have hN' : (1048576 : Int) < (N : Int) := by omega
    go_enter Try.func6, Try.ntmps6
    go_wp2_with fail
    go_ret
    exact ⟨rfl, Below.refl _ _⟩
  have hN' : ¬ (1048576 : Int) < (N : Int) := by omega
  go_enter Try.func6, Try.ntmps6
  have BA : Hid (Below w.heap.size w w) := Below.refl _ _
  have ZA : w.heap.size ≤ w.heap.size := Nat.le_refl _
  go_wp2_with fail
  refine (MakeSize_c w.heap.size N 0 (1) (7) _ w (HV.out.kept fun k hk => BA.out.block k hk) ZA hN (by omega) (by omega) (by omega)).mono ?_
  rintro e w1 ⟨n, rfl, n_lo, n_hi, b_w1⟩
  have z_w1 := b_w1.size
  replace BA : Hid (Below w.heap.size w w1) := BA.out.trans (b_w1.mono (by omega))
  replace ZA : w.heap.size ≤ w1.heap.size := (by omega)
  clear b_w1
  have F := Lib.hid (fin_so n n_lo n_hi)
  go_wp2_with fail
  refine (Batcher_z n n_lo (by omega) w1).mono ?_
  rintro e w2 ⟨qx, usx, rfl, ox, b_w2⟩
  obtain ⟨xx, hxx⟩ : ∃ X, X = bat n (upI 0 n) := ⟨_, rfl⟩
  rw [← hxx] at ox
  have HXx := Lib.hid hxx
  clear hxx
  obtain ⟨aox, gx, capx, ex, -, -, -⟩ := ox.rows
  obtain ⟨Lx, hLx⟩ : ∃ L, L = xx.length := ⟨_, rfl⟩
  rw [← hLx] at ex
  subst ex
  have HNx := Lib.hid hLx
  clear hLx
  have z_w2 := b_w2.size
  replace BA : Hid (Below w.heap.size w w2) := BA.out.trans (b_w2.mono (by omega))
  replace ZA : w.heap.size ≤ w2.heap.size := (by omega)
  clear b_w2
  have Ox := Lib.hid ox
  clear ox
  go_upto_region 5 with fail
  obtain ⟨w3, hWw3, cx0, cx1, hzw3, b_w3, -, -⟩ := box2 w2 (.int .i64 n) (.slice aox Lx capx) 30
  rw [hWw3]
  clear hWw3
  have zz_w3 : w2.heap.size < w3.heap.size := (by omega)
  clear hzw3
  have z_w3 := b_w3.size
  replace Ox := Lib.hid (Ox.out.later b_w3)
  replace BA : Hid (Below w.heap.size w w3) := BA.out.trans (b_w3.mono (by omega))
  replace ZA : w.heap.size ≤ w3.heap.size := (by omega)
  clear b_w3
  have yx : w2.heap.size < w3.heap.size := zz_w3
  go_wp2_with fail
  refine (MakeList_c w.heap.size N 20 (n) _ w3 (HV.out.kept fun k hk => BA.out.block k hk) ZA hN (by omega) (by omega)).mono ?_
  rintro e w4 ⟨ql, xl, rfl, hll, hxl, ol, b_w4⟩
  obtain ⟨aol, gl, capl, el, -, -, -⟩ := OwnI.view ol
  obtain ⟨Ll, hLl⟩ : ∃ L, L = xl.length := ⟨_, rfl⟩
  rw [← hLl] at el
  subst el
  have HNl := Lib.hid hLl
  clear hLl
  have z_w4 := b_w4.size
  replace Ox := Lib.hid (Ox.out.later b_w4)
  replace cx0 := (b_w4.cell (p := ⟨w2.heap.size, 0, none⟩) (by show w2.heap.size < _; omega)).trans cx0
  replace cx1 := (b_w4.cell (p := ⟨w2.heap.size, 1, none⟩) (by show w2.heap.size < _; omega)).trans cx1
  replace BA : Hid (Below w.heap.size w w4) := BA.out.trans (b_w4.mono (by omega))
  replace ZA : w.heap.size ≤ w4.heap.size := (by omega)
  replace yx : w2.heap.size < w4.heap.size := (by omega)
  clear b_w4
  have Ol := Lib.hid ol
  clear ol
  have HLl := Lib.hid hll
  have HXl := Lib.hid hxl
  clear hll hxl
  have XS : Hid (sortsR (n : Nat) xx = true) := by show _ = _; rw [HXx.out]; exact F.out.1
  have XOK : Hid (netOk (n : Nat) xx = true) := sorts_ok XS.out
  have hLL : Ll = n := by rw [HNl.out, HLl.out]
  replace hLL := Lib.hid hLL
  have CSO : Hid (∀ w', Below w4.heap.size w4 w' → Calls Try.prog 47 #[.agg #[.int .i64 n, .slice aox Lx capx]] w' fun e w'' => e = .returned (.bool true) ∧ Below w'.heap.size w' w'') := fun w' h1 => by
    have := IsSorting_i n _ _ _ usx xx w' (Ox.out.below h1 (by omega)) (by have := h1.size; omega)
    rwa [XS.out] at this
  have CST : Hid (∀ w', Below w4.heap.size w4 w' → Calls Try.prog 39 #[.agg #[.int .i64 n, .slice aox Lx capx]] w' fun e w'' => e = .returned (.bool true) ∧ Below w'.heap.size w' w'') := fun w' h1 => by
    have := IsStandard_y n _ _ _ usx xx w' (Ox.out.below h1 (by omega)) (by have := h1.size; omega) XOK.out
    rwa [show stdB xx = true from by rw [HXx.out]; exact F.out.2.1] at this
  have CBS : Hid (∀ w', Calls Try.prog 48 #[.int .i64 n] w' fun e w'' => e = .returned (.int .i64 Lx) ∧ Below w'.heap.size w' w'') := fun w' => by
    have := BatcherSize_i n w'
    rwa [F.out.2.2.1, ← HXx.out, ← HNx.out] at this
  have CSN : Hid (∀ w', Below w4.heap.size w4 w' → Calls Try.prog 49 #[.slice aol Ll capl] w' (IntC w' (sortI xl))) := fun w' h1 => by
    have := SortNetwork_i_c _ _ _ xl w' (Own.below Ol.out h1 (by omega)) (by have := h1.size; omega) (by rw [HLl.out]; omega)
    rwa [sortX_eq xl (by rw [HLl.out]; exact n_lo) (by rw [HLl.out]; exact n_hi)] at this
  have CSD : Hid (∀ w', Below w4.heap.size w4 w' → Calls Try.prog 32 #[.slice aol Ll capl] w' (IntC w' (sortI xl))) := fun w' h1 =>
    lawSorted_c _ _ _ xl w' ((OwnI.ints Ol.out).below h1 (by omega)) (by have := h1.size; omega) (by rw [HLl.out]; omega)
  obtain ⟨lg, hlg⟩ : ∃ x, x = lgf n := ⟨_, rfl⟩
  have hlgx : ¬ (Lx : Int) < (lg : Int) := by have := F.out.2.2.2.1; rw [← HXx.out, ← HNx.out, ← hlg] at this; omega
  have CPB : Hid (∀ w', Calls Try.prog 50 #[.int .i64 n] w' fun e w'' => e = .returned (.int .i64 (lg : Nat)) ∧ Below w'.heap.size w' w'') := fun w' => by
    rw [hlg]
    exact (PairBound_i n w' n_lo (by omega) (inB_mk (by omega))).mono fun e w'' h => ⟨h.1, h.2 ▸ Below.refl _ _⟩
  have tl1 : ((Lx : Int) != (Lx : Int)) = false := by simp
  clear hlg
  go_upto_region 6 with fail
  have HAB : Hid (∀ (w1 : World) (l1 h1 l2 h2 : Nat) (u v : Value) (ys zs : List Int), OwnI w1 l1 h1 u ys → h1 ≤ w1.heap.size → OwnI w1 l2 h2 v zs → h2 ≤ w1.heap.size → ys = zs → ys.length = n → Calls Try.prog 37 #[u, v] w1 fun e w'' => e = .returned (.bool true) ∧ Below w1.heap.size w1 w'') := fun w1 l1 h1 l2 h2 u v ys zs a1 a2 a3 a4 a5 a6 => by
    have := same_c _ _ _ _ u v ys zs w1 (OwnI.ints a1) (OwnI.ints a3) a2 a4 (by rw [a6]; omega)
    rwa [decide_eq_true a5] at this
  have Q5_0 : Hid (Below w4.heap.size w4 w4.drew) := (Below.refl _ _).drew
  have s5_0_0 : w4.drew.cell? ⟨w2.heap.size, 0, none⟩ = some (.int .i64 n) := cx0
  have s5_0_1 : w4.drew.cell? ⟨w2.heap.size, 1, none⟩ = some (.slice aox Lx capx) := cx1
  go_region_held3 (fun W' => W'.cell? ⟨w2.heap.size, 0, none⟩ = some (.int .i64 n) ∧ W'.cell? ⟨w2.heap.size, 1, none⟩ = some (.slice aox Lx capx)) (first | exact ⟨s5_7_0, s5_7_1⟩ | exact ⟨s5_6_0, s5_6_1⟩ | exact ⟨s5_5_0, s5_5_1⟩ | exact ⟨s5_4_0, s5_4_1⟩ | exact ⟨s5_3_0, s5_3_1⟩ | exact ⟨s5_2_0, s5_2_1⟩ | exact ⟨s5_1_0, s5_1_1⟩ | exact ⟨s5_0_0, s5_0_1⟩ | fail) (first | (go_at_call 50; have c9 := (CPB.out v5_6); (with_reducible refine c9.mono ?_); clear c9; rintro e v5_7 ⟨rfl, b9⟩; have Q5_7 : Hid (Below w4.heap.size w4 v5_7) := Q5_6.out.trans (b9.mono Q5_6.out.size); have s5_7_0 := (Q5_7.out.cell (p := ⟨w2.heap.size, 0, none⟩) (by show w2.heap.size < _; omega)).trans cx0; have s5_7_1 := (Q5_7.out.cell (p := ⟨w2.heap.size, 1, none⟩) (by show w2.heap.size < _; omega)).trans cx1; have zz5_7 : v5_6.heap.size ≤ v5_7.heap.size := b9.size; have zw5_7 : w4.heap.size ≤ v5_7.heap.size := Q5_7.out.size; have Oa_7 := Lib.hid (Oa_6.out.later b9); have Ob_7 := Lib.hid (Ob_6.out.later b9); clear b9) | (go_at_call 37; have c9 := (HAB.out v5_5 _ _ _ _ _ _ _ _ Oa_5.out (by omega) Ob_5.out (by omega) (by rw [HXa.out, HXb.out]) (by rw [HXa.out, sortI_len, HLl.out])); (with_reducible refine c9.mono ?_); clear c9; rintro e v5_6 ⟨rfl, b9⟩; have Q5_6 : Hid (Below w4.heap.size w4 v5_6) := Q5_5.out.trans (b9.mono Q5_5.out.size); have s5_6_0 := (Q5_6.out.cell (p := ⟨w2.heap.size, 0, none⟩) (by show w2.heap.size < _; omega)).trans cx0; have s5_6_1 := (Q5_6.out.cell (p := ⟨w2.heap.size, 1, none⟩) (by show w2.heap.size < _; omega)).trans cx1; have zz5_6 : v5_5.heap.size ≤ v5_6.heap.size := b9.size; have zw5_6 : w4.heap.size ≤ v5_6.heap.size := Q5_6.out.size; have Oa_6 := Lib.hid (Oa_5.out.later b9); have Ob_6 := Lib.hid (Ob_5.out.later b9); clear b9) | (go_at_call 32; have c9 := (CSD.out v5_4 Q5_4.out); (with_reducible refine c9.mono ?_); clear c9; rintro e v5_5 ⟨qb, rfl, o9, b9⟩; have Q5_5 : Hid (Below w4.heap.size w4 v5_5) := Q5_4.out.trans (b9.mono Q5_4.out.size); have s5_5_0 := (Q5_5.out.cell (p := ⟨w2.heap.size, 0, none⟩) (by show w2.heap.size < _; omega)).trans cx0; have s5_5_1 := (Q5_5.out.cell (p := ⟨w2.heap.size, 1, none⟩) (by show w2.heap.size < _; omega)).trans cx1; have zz5_5 : v5_4.heap.size ≤ v5_5.heap.size := b9.size; have zw5_5 : w4.heap.size ≤ v5_5.heap.size := Q5_5.out.size; have Oa_5 := Lib.hid (Oa_4.out.later b9); obtain ⟨aob, gb, capb, eb, -, -, -⟩ := OwnI.view o9; obtain ⟨xb, hXb⟩ : ∃ X, X = sortI xl := ⟨_, rfl⟩; rw [← hXb] at o9 eb; have HXb := Lib.hid hXb; clear hXb; obtain ⟨Lb, hLb⟩ : ∃ L, L = xb.length := ⟨_, rfl⟩; rw [← hLb] at eb; subst eb; have HNb := Lib.hid hLb; clear hLb; have Ob_5 := Lib.hid o9; clear o9; clear b9) | (go_at_call 49; have c9 := (CSN.out v5_3 Q5_3.out); (with_reducible refine c9.mono ?_); clear c9; rintro e v5_4 ⟨qa, rfl, o9, b9⟩; have Q5_4 : Hid (Below w4.heap.size w4 v5_4) := Q5_3.out.trans (b9.mono Q5_3.out.size); have s5_4_0 := (Q5_4.out.cell (p := ⟨w2.heap.size, 0, none⟩) (by show w2.heap.size < _; omega)).trans cx0; have s5_4_1 := (Q5_4.out.cell (p := ⟨w2.heap.size, 1, none⟩) (by show w2.heap.size < _; omega)).trans cx1; have zz5_4 : v5_3.heap.size ≤ v5_4.heap.size := b9.size; have zw5_4 : w4.heap.size ≤ v5_4.heap.size := Q5_4.out.size; obtain ⟨aoa, ga, capa, ea, -, -, -⟩ := OwnI.view o9; obtain ⟨xa, hXa⟩ : ∃ X, X = sortI xl := ⟨_, rfl⟩; rw [← hXa] at o9 ea; have HXa := Lib.hid hXa; clear hXa; obtain ⟨La, hLa⟩ : ∃ L, L = xa.length := ⟨_, rfl⟩; rw [← hLa] at ea; subst ea; have HNa := Lib.hid hLa; clear hLa; have Oa_4 := Lib.hid o9; clear o9; clear b9) | (go_at_call 48; have c9 := (CBS.out v5_2); (with_reducible refine c9.mono ?_); clear c9; rintro e v5_3 ⟨rfl, b9⟩; have Q5_3 : Hid (Below w4.heap.size w4 v5_3) := Q5_2.out.trans (b9.mono Q5_2.out.size); have s5_3_0 := (Q5_3.out.cell (p := ⟨w2.heap.size, 0, none⟩) (by show w2.heap.size < _; omega)).trans cx0; have s5_3_1 := (Q5_3.out.cell (p := ⟨w2.heap.size, 1, none⟩) (by show w2.heap.size < _; omega)).trans cx1; have zz5_3 : v5_2.heap.size ≤ v5_3.heap.size := b9.size; have zw5_3 : w4.heap.size ≤ v5_3.heap.size := Q5_3.out.size; clear b9) | (go_at_call 39; have c9 := (CST.out v5_1 Q5_1.out); (with_reducible refine c9.mono ?_); clear c9; rintro e v5_2 ⟨rfl, b9⟩; have Q5_2 : Hid (Below w4.heap.size w4 v5_2) := Q5_1.out.trans (b9.mono Q5_1.out.size); have s5_2_0 := (Q5_2.out.cell (p := ⟨w2.heap.size, 0, none⟩) (by show w2.heap.size < _; omega)).trans cx0; have s5_2_1 := (Q5_2.out.cell (p := ⟨w2.heap.size, 1, none⟩) (by show w2.heap.size < _; omega)).trans cx1; have zz5_2 : v5_1.heap.size ≤ v5_2.heap.size := b9.size; have zw5_2 : w4.heap.size ≤ v5_2.heap.size := Q5_2.out.size; clear b9) | (go_at_call 47; have c9 := (CSO.out w4.drew Q5_0.out); (with_reducible refine c9.mono ?_); clear c9; rintro e v5_1 ⟨rfl, b9⟩; have Q5_1 : Hid (Below w4.heap.size w4 v5_1) := Q5_0.out.trans (b9.mono Q5_0.out.size); have s5_1_0 := (Q5_1.out.cell (p := ⟨w2.heap.size, 0, none⟩) (by show w2.heap.size < _; omega)).trans cx0; have s5_1_1 := (Q5_1.out.cell (p := ⟨w2.heap.size, 1, none⟩) (by show w2.heap.size < _; omega)).trans cx1; have zz5_1 : w4.heap.size ≤ v5_1.heap.size := b9.size; have zw5_1 : w4.heap.size ≤ v5_1.heap.size := Q5_1.out.size; clear b9) | fail)
  have Oa := Oa_7
  have Ob := Ob_7
  have b_v5_7 := Q5_7.out
  have z_v5_7 := b_v5_7.size
  replace Ox := Lib.hid (Ox.out.later b_v5_7)
  replace Ol := Lib.hid (Ol.out.later b_v5_7)
  replace cx0 := (b_v5_7.cell (p := ⟨w2.heap.size, 0, none⟩) (by show w2.heap.size < _; omega)).trans cx0
  replace cx1 := (b_v5_7.cell (p := ⟨w2.heap.size, 1, none⟩) (by show w2.heap.size < _; omega)).trans cx1
  replace BA : Hid (Below w.heap.size w v5_7) := BA.out.trans (b_v5_7.mono (by omega))
  replace ZA : w.heap.size ≤ v5_7.heap.size := (by omega)
  replace yx : w2.heap.size < v5_7.heap.size := (by omega)
  clear b_v5_7
  clear CSO CST CBS CSN CSD CPB HAB
  clear Ol
  clear Ox
  clear Oa
  clear Ob
  have hlgn : ¬ Lx < lg := by omega
  go_upto_region 8 with fail
  go_upto_if 73 with fail
  go_cut [3] (fun s wx => s = .int .i64 n ∧ Below v5_7.heap.size v5_7 wx)
  case first =>
    have R0 : Hid (Below v5_7.heap.size v5_7 v5_7) := Below.refl _ _
    by_cases h1 : 1 < n
    · have h1i : (1 : Int) < (n : Int) := by omega
      have FE := F.out.2.2.2.2 h1
      have FB := so_bounds n h1 n_hi
      obtain ⟨h, hh⟩ : ∃ h, h = hf n := ⟨_, rfl⟩
      have hh2 : h = (n + 1) / 2 := hh
      have hq : ((n : Int) + 1) / 2 = (h : Int) := by omega
      have hq2 : IntKind.i64.wrap (((n : Int) + 1).tdiv 2) = (h : Int) := by rw [Int.tdiv_eq_ediv_of_nonneg (by omega), hq]; exact IntWalk.i64_in _ (by omega)
      have hd : (n : Int) - (h : Int) = ((n - h : Nat) : Int) := by omega
      obtain ⟨b1, hb1⟩ : ∃ x, x = batSz n := ⟨_, rfl⟩
      obtain ⟨b2, hb2⟩ : ∃ x, x = batSz h := ⟨_, rfl⟩
      obtain ⟨b3, hb3⟩ : ∃ x, x = batSz ((n - h : Nat)) := ⟨_, rfl⟩
      obtain ⟨b4, hb4⟩ : ∃ x, x = mrgSz h ((n - h : Nat)) := ⟨_, rfl⟩
      rw [← hh, ← hb1, ← hb2, ← hb3, ← hb4] at FE FB
      have HE := Lib.hid FE
      obtain ⟨f1, f2, f3, f4, f5, f6, f7, f8⟩ := FB
      have te : (b1 != b2 + b3 + b4) = false := by rw [bne_eq_false_iff_eq]; exact FE
      have HD := Lib.hid hd
      have C1 : Hid (∀ w', Calls Try.prog 48 #[.int .i64 n] w' fun e w'' => e = .returned (.int .i64 b1) ∧ Below w'.heap.size w' w'') := fun w' => by rw [hb1]; exact BatcherSize_i n w'
      have C2 : Hid (∀ w', Calls Try.prog 48 #[.int .i64 h] w' fun e w'' => e = .returned (.int .i64 b2) ∧ Below w'.heap.size w' w'') := fun w' => by rw [hb2]; exact BatcherSize_i h w'
      have C3 : Hid (∀ w', Calls Try.prog 48 #[.int .i64 ((n : Int) - (h : Int))] w' fun e w'' => e = .returned (.int .i64 b3) ∧ Below w'.heap.size w' w'') := fun w' => by rw [hb3, HD.out]; exact BatcherSize_i _ w'
      have C4 : Hid (∀ w', Calls Try.prog 36 #[.int .i64 h, .int .i64 ((n : Int) - (h : Int))] w' fun e w'' => e = .returned (.int .i64 b4) ∧ Below w'.heap.size w' w'') := fun w' => by rw [hb4, HD.out]; exact MergeSize_i _ _ w'
      clear FE hb1 hb2 hb3 hb4 hh hd hh2
      go_wp2_with fail
      refine (C1.out v5_7).mono ?_
      rintro e w6 ⟨rfl, b_w6⟩
      have z_w6 := b_w6.size
      replace BA : Hid (Below w.heap.size w w6) := BA.out.trans (b_w6.mono (by omega))
      replace ZA : w.heap.size ≤ w6.heap.size := (by omega)
      replace R0 : Hid (Below v5_7.heap.size v5_7 w6) := R0.out.trans (b_w6.mono (by omega))
      clear b_w6
      go_wp2_with fail
      refine (C2.out w6).mono ?_
      rintro e w7 ⟨rfl, b_w7⟩
      have z_w7 := b_w7.size
      replace BA : Hid (Below w.heap.size w w7) := BA.out.trans (b_w7.mono (by omega))
      replace ZA : w.heap.size ≤ w7.heap.size := (by omega)
      replace R0 : Hid (Below v5_7.heap.size v5_7 w7) := R0.out.trans (b_w7.mono (by omega))
      clear b_w7
      go_wp2_with fail
      refine (C3.out w7).mono ?_
      rintro e w8 ⟨rfl, b_w8⟩
      have z_w8 := b_w8.size
      replace BA : Hid (Below w.heap.size w w8) := BA.out.trans (b_w8.mono (by omega))
      replace ZA : w.heap.size ≤ w8.heap.size := (by omega)
      replace R0 : Hid (Below v5_7.heap.size v5_7 w8) := R0.out.trans (b_w8.mono (by omega))
      clear b_w8
      go_wp2_with fail
      refine (C4.out w8).mono ?_
      rintro e w9 ⟨rfl, b_w9⟩
      have z_w9 := b_w9.size
      replace BA : Hid (Below w.heap.size w w9) := BA.out.trans (b_w9.mono (by omega))
      replace ZA : w.heap.size ≤ w9.heap.size := (by omega)
      replace R0 : Hid (Below v5_7.heap.size v5_7 w9) := R0.out.trans (b_w9.mono (by omega))
      clear b_w9
      go_wp2_with fail
      go_meet
      case rel => exact ⟨rfl, R0.out⟩
    · have h1i : ¬ (1 : Int) < (n : Int) := by omega
      go_wp2_with fail
      go_meet
      case rel => exact ⟨rfl, R0.out⟩
  case rest =>
    obtain ⟨rfl, hb⟩ := hcut
    have z_wc := hb.size
    replace BA : Hid (Below w.heap.size w wc) := BA.out.trans (hb.mono (by omega))
    replace ZA : w.heap.size ≤ wc.heap.size := (by omega)
    clear hb
    obtain ⟨wq, rfl⟩ : ∃ W : World, W = wc := ⟨_, rfl⟩
    go_wp2_with fail
    refine (MakeSize_c w.heap.size N 1 (0) (3) _ wq (HV.out.kept fun k hk => BA.out.block k hk) ZA hN (by omega) (by omega) (by omega)).mono ?_
    rintro e w10 ⟨k, rfl, k_lo, k_hi, b_w10⟩
    have z_w10 := b_w10.size
    replace BA : Hid (Below w.heap.size w w10) := BA.out.trans (b_w10.mono (by omega))
    replace ZA : w.heap.size ≤ w10.heap.size := (by omega)
    clear b_w10
    have G2 := Lib.hid (fin_pw k k_hi)
    have hpz : wrap64 (2 ^ k) = ((2 ^ k : Nat) : Int) := wrap_pow k (by omega)
    obtain ⟨z, hz⟩ : ∃ z, z = 2 ^ k := ⟨_, rfl⟩
    have hz8 : z ≤ 8 := by rw [hz]; exact Nat.pow_le_pow_right (n := 2) (by omega) k_hi
    have hz1 : 1 ≤ z := by rw [hz]; exact Nat.two_pow_pos k
    rw [← hz] at hpz G2
    have HZ4 : Hid ((k = 0 ∧ z = 1) ∨ (k = 1 ∧ z = 2) ∨ (k = 2 ∧ z = 4) ∨ (k = 3 ∧ z = 8)) := by
      show _ ∨ _
      rw [hz]
      rcases (by omega : k = 0 ∨ k = 1 ∨ k = 2 ∨ k = 3) with h | h | h | h <;> subst h <;> simp
    clear hz
    go_wp2_with fail
    refine (Bitonic_z z G2.out.1 w10).mono ?_
    rintro e w11 ⟨qy, usy, rfl, oy, b_w11⟩
    obtain ⟨xy, hxy⟩ : ∃ X, X = XBitonicNetwork z := ⟨_, rfl⟩
    rw [← hxy] at oy
    have HXy := Lib.hid hxy
    clear hxy
    obtain ⟨aoy, gy, capy, ey, -, -, -⟩ := oy.rows
    obtain ⟨Ly, hLy⟩ : ∃ L, L = xy.length := ⟨_, rfl⟩
    rw [← hLy] at ey
    subst ey
    have HNy := Lib.hid hLy
    clear hLy
    have z_w11 := b_w11.size
    replace BA : Hid (Below w.heap.size w w11) := BA.out.trans (b_w11.mono (by omega))
    replace ZA : w.heap.size ≤ w11.heap.size := (by omega)
    clear b_w11
    have Oy := Lib.hid oy
    clear oy
    go_upto_region 15 with fail
    obtain ⟨w12, hWw12, cy0, cy1, hzw12, b_w12, -, -⟩ := box2 w11 (.int .i64 z) (.slice aoy Ly capy) 30
    rw [hWw12]
    clear hWw12
    have zz_w12 : w11.heap.size < w12.heap.size := (by omega)
    clear hzw12
    have z_w12 := b_w12.size
    replace Oy := Lib.hid (Oy.out.later b_w12)
    replace BA : Hid (Below w.heap.size w w12) := BA.out.trans (b_w12.mono (by omega))
    replace ZA : w.heap.size ≤ w12.heap.size := (by omega)
    clear b_w12
    have yy : w11.heap.size < w12.heap.size := zz_w12
    go_wp2_with fail
    refine (Pairwise_z z G2.out.1 w12).mono ?_
    rintro e w13 ⟨qp, usp, rfl, op, b_w13⟩
    obtain ⟨xp, hxp⟩ : ∃ X, X = XPairwise z := ⟨_, rfl⟩
    rw [← hxp] at op
    have HXp := Lib.hid hxp
    clear hxp
    obtain ⟨aop, gp, capp, ep, -, -, -⟩ := op.rows
    obtain ⟨Lp, hLp⟩ : ∃ L, L = xp.length := ⟨_, rfl⟩
    rw [← hLp] at ep
    subst ep
    have HNp := Lib.hid hLp
    clear hLp
    have z_w13 := b_w13.size
    replace Oy := Lib.hid (Oy.out.later b_w13)
    replace cy0 := (b_w13.cell (p := ⟨w11.heap.size, 0, none⟩) (by show w11.heap.size < _; omega)).trans cy0
    replace cy1 := (b_w13.cell (p := ⟨w11.heap.size, 1, none⟩) (by show w11.heap.size < _; omega)).trans cy1
    replace BA : Hid (Below w.heap.size w w13) := BA.out.trans (b_w13.mono (by omega))
    replace ZA : w.heap.size ≤ w13.heap.size := (by omega)
    replace yy : w11.heap.size < w13.heap.size := (by omega)
    clear b_w13
    have Op := Lib.hid op
    clear op
    go_upto_region 16 with fail
    obtain ⟨w14, hWw14, cp0, cp1, hzw14, b_w14, -, -⟩ := box2 w13 (.int .i64 z) (.slice aop Lp capp) 30
    rw [hWw14]
    clear hWw14
    have zz_w14 : w13.heap.size < w14.heap.size := (by omega)
    clear hzw14
    have z_w14 := b_w14.size
    replace Oy := Lib.hid (Oy.out.later b_w14)
    replace Op := Lib.hid (Op.out.later b_w14)
    replace cy0 := (b_w14.cell (p := ⟨w11.heap.size, 0, none⟩) (by show w11.heap.size < _; omega)).trans cy0
    replace cy1 := (b_w14.cell (p := ⟨w11.heap.size, 1, none⟩) (by show w11.heap.size < _; omega)).trans cy1
    replace BA : Hid (Below w.heap.size w w14) := BA.out.trans (b_w14.mono (by omega))
    replace ZA : w.heap.size ≤ w14.heap.size := (by omega)
    replace yy : w11.heap.size < w14.heap.size := (by omega)
    clear b_w14
    have yp : w13.heap.size < w14.heap.size := zz_w14
    have YS : Hid (sortsR (z : Nat) xy = true) := by show _ = _; rw [HXy.out]; exact G2.out.2.1
    have PS : Hid (sortsR (z : Nat) xp = true) := by show _ = _; rw [HXp.out]; exact G2.out.2.2.1
    have CSY : Hid (∀ w', Below w14.heap.size w14 w' → Calls Try.prog 47 #[.agg #[.int .i64 z, .slice aoy Ly capy]] w' fun e w'' => e = .returned (.bool true) ∧ Below w'.heap.size w' w'') := fun w' h1 => by
      have := IsSorting_i z _ _ _ usy xy w' (Oy.out.below h1 (by omega)) (by have := h1.size; omega)
      rwa [YS.out] at this
    have CSP : Hid (∀ w', Below w14.heap.size w14 w' → Calls Try.prog 47 #[.agg #[.int .i64 z, .slice aop Lp capp]] w' fun e w'' => e = .returned (.bool true) ∧ Below w'.heap.size w' w'') := fun w' h1 => by
      have := IsSorting_i z _ _ _ usp xp w' (Op.out.below h1 (by omega)) (by have := h1.size; omega)
      rwa [PS.out] at this
    have CTY : Hid (∀ w', Below w14.heap.size w14 w' → Calls Try.prog 39 #[.agg #[.int .i64 z, .slice aoy Ly capy]] w' fun e w'' => e = .returned (.bool true) ∧ Below w'.heap.size w' w'') := fun w' h1 => by
      have := IsStandard_y z _ _ _ usy xy w' (Oy.out.below h1 (by omega)) (by have := h1.size; omega) (sorts_ok YS.out)
      rwa [show stdB xy = true from by rw [HXy.out]; exact G2.out.2.2.2.1] at this
    have CTP : Hid (∀ w', Below w14.heap.size w14 w' → Calls Try.prog 39 #[.agg #[.int .i64 z, .slice aop Lp capp]] w' fun e w'' => e = .returned (.bool true) ∧ Below w'.heap.size w' w'') := fun w' h1 => by
      have := IsStandard_y z _ _ _ usp xp w' (Op.out.below h1 (by omega)) (by have := h1.size; omega) (sorts_ok PS.out)
      rwa [show stdB xp = true from by rw [HXp.out]; exact G2.out.2.2.2.2.1] at this
    have CBZ : Hid (∀ w', Calls Try.prog 53 #[.int .i64 z] w' fun e w'' => e = .returned (.int .i64 Ly) ∧ Below w'.heap.size w' w'') := fun w' => by
      have := BitonicSize_i z w'
      rwa [G2.out.2.2.2.2.2.1, ← HXy.out, ← HNy.out] at this
    have CBP : Hid (∀ w', Calls Try.prog 48 #[.int .i64 z] w' fun e w'' => e = .returned (.int .i64 Lp) ∧ Below w'.heap.size w' w'') := fun w' => by
      have := BatcherSize_i z w'
      rwa [G2.out.2.2.2.2.2.2.2.1, ← HXp.out, ← HNp.out] at this
    have HLY : Hid (Ly = z * k * (k + 1) / 4) := by show _ = _; rw [HNy.out, HXy.out]; exact G2.out.2.2.2.2.2.2.1
    have CDY : Hid (∀ w', Below w14.heap.size w14 w' → Calls Try.prog 45 #[.agg #[.int .i64 z, .slice aoy Ly capy]] w' fun e w'' => e = .returned (.int .i64 ((k * (k + 1) / 2 : Nat) : Int)) ∧ Below w'.heap.size w' w'') := fun w' h1 => by
      have := DepthOf_y z _ _ _ usy xy w' (Oy.out.below h1 (by omega)) (by have := h1.size; omega) (sorts_ok YS.out)
      rwa [show depthP xy xy.length = k * (k + 1) / 2 from by rw [HXy.out]; exact G2.out.2.2.2.2.2.2.2.2.1] at this
    have CDP : Hid (∀ w', Below w14.heap.size w14 w' → Calls Try.prog 45 #[.agg #[.int .i64 z, .slice aop Lp capp]] w' fun e w'' => e = .returned (.int .i64 ((k * (k + 1) / 2 : Nat) : Int)) ∧ Below w'.heap.size w' w'') := fun w' h1 => by
      have := DepthOf_y z _ _ _ usp xp w' (Op.out.below h1 (by omega)) (by have := h1.size; omega) (sorts_ok PS.out)
      rwa [show depthP xp xp.length = k * (k + 1) / 2 from by rw [HXp.out]; exact G2.out.2.2.2.2.2.2.2.2.2] at this
    obtain ⟨a1, h1a⟩ : ∃ x, x = z * k := ⟨_, rfl⟩
    obtain ⟨a2, h2a⟩ : ∃ x, x = a1 * (k + 1) := ⟨_, rfl⟩
    obtain ⟨a3, h3a⟩ : ∃ x, x = k * (k + 1) := ⟨_, rfl⟩
    obtain ⟨dd, hdd⟩ : ∃ x, x = k * (k + 1) / 2 := ⟨_, rfl⟩
    have HLY2 : Hid (a2 / 4 = Ly) := by show _ = _; rw [h2a, h1a]; exact HLY.out.symm
    have HDD : Hid (a3 / 2 = dd) := by show _ = _; rw [h3a, hdd]
    have HM : Hid (a1 ≤ 24 ∧ a2 ≤ 96 ∧ a3 ≤ 12 ∧ (z : Int) * (k : Int) = (a1 : Int) ∧ (a1 : Int) * ((k : Int) + 1) = (a2 : Int) ∧ (k : Int) * ((k : Int) + 1) = (a3 : Int)) := by
      show _ ∧ _
      rw [h3a, h2a, h1a]
      rcases HZ4.out with ⟨hk4, hz4⟩ | ⟨hk4, hz4⟩ | ⟨hk4, hz4⟩ | ⟨hk4, hz4⟩ <;> (subst hk4; subst hz4; simp)
    rw [← hdd] at CDY CDP
    clear h1a h2a h3a hdd
    have w4 : IntKind.i64.wrap ((z : Int) * (k : Int)) = (a1 : Int) := by rw [HM.out.2.2.2.1]; exact IntWalk.i64_in _ (by have := HM.out.1; omega)
    have w5 : IntKind.i64.wrap ((a1 : Int) * ((k : Int) + 1)) = (a2 : Int) := by rw [HM.out.2.2.2.2.1]; exact IntWalk.i64_in _ (by have := HM.out.2.1; omega)
    have w6 : IntKind.i64.wrap ((k : Int) * ((k : Int) + 1)) = (a3 : Int) := by rw [HM.out.2.2.2.2.2]; exact IntWalk.i64_in _ (by have := HM.out.2.2.1; omega)
    have m4 : (z : Int) * (k : Int) = (a1 : Int) := HM.out.2.2.2.1
    have m5 : (a1 : Int) * ((k : Int) + 1) = (a2 : Int) := HM.out.2.2.2.2.1
    have m6 : (k : Int) * ((k : Int) + 1) = (a3 : Int) := HM.out.2.2.2.2.2
    have q1 : (a2 : Int) / 4 = (Ly : Int) := by have := HLY2.out; omega
    have q2 : (a3 : Int) / 2 = (dd : Int) := by have := HDD.out; omega
    have q3 : (a2 : Int).tdiv 4 = (Ly : Int) := by rw [Int.tdiv_eq_ediv_of_nonneg (by omega)]; exact q1
    have q4 : (a3 : Int).tdiv 2 = (dd : Int) := by rw [Int.tdiv_eq_ediv_of_nonneg (by omega)]; exact q2
    have ty : ((Ly : Int) != (Ly : Int)) = false := by simp
    have tp : ((Lp : Int) != (Lp : Int)) = false := by simp
    have td : ((dd : Int) != (dd : Int)) = false := by simp
    have la1 := HM.out.1
    have la2 := HM.out.2.1
    have la3 := HM.out.2.2.1
    dsimp only [List.append_eq, List.cons_append, List.nil_append]
    refine wp_region_later w14.heap.size w14 (by kernel_rfl) (by kernel_rfl) (Below.refl _ _) ?_
    have hLW := LW.cells (B := w14.heap.size) (w0 := w14)
    repeat (go_big_quiet_step ((first | ((go_at_call 47; (with_reducible refine LW.call (Nat.le_refl _) (CSY.out _ (LW.h _))))) | ((go_at_call 47; (with_reducible refine LW.call (Nat.le_refl _) (CSP.out _ (LW.h _))))) | ((go_at_call 39; (with_reducible refine LW.call (Nat.le_refl _) (CTY.out _ (LW.h _))))) | ((go_at_call 39; (with_reducible refine LW.call (Nat.le_refl _) (CTP.out _ (LW.h _))))) | ((go_at_call 53; (with_reducible refine LW.call (Nat.le_refl _) (CBZ.out _)))) | ((go_at_call 48; (with_reducible refine LW.call (Nat.le_refl _) (CBP.out _)))) | ((go_at_call 45; (with_reducible refine LW.call (Nat.le_refl _) (CDY.out _ (LW.h _))))) | ((go_at_call 45; (with_reducible refine LW.call (Nat.le_refl _) (CDP.out _ (LW.h _))))) | fail)))
    refine wpQuiet_nil ?_
    rintro w15 ⟨⟨w2s, b_w15⟩, rfl⟩
    clear hLW
    have z_w15 := b_w15.size
    replace Oy := Lib.hid (Oy.out.later b_w15)
    replace Op := Lib.hid (Op.out.later b_w15)
    replace cy0 := (b_w15.cell (p := ⟨w11.heap.size, 0, none⟩) (by show w11.heap.size < _; omega)).trans cy0
    replace cy1 := (b_w15.cell (p := ⟨w11.heap.size, 1, none⟩) (by show w11.heap.size < _; omega)).trans cy1
    replace cp0 := (b_w15.cell (p := ⟨w13.heap.size, 0, none⟩) (by show w13.heap.size < _; omega)).trans cp0
    replace cp1 := (b_w15.cell (p := ⟨w13.heap.size, 1, none⟩) (by show w13.heap.size < _; omega)).trans cp1
    replace BA : Hid (Below w.heap.size w w15) := BA.out.trans (b_w15.mono (by omega))
    replace ZA : w.heap.size ≤ w15.heap.size := (by omega)
    replace yy : w11.heap.size < w15.heap.size := (by omega)
    replace yp : w13.heap.size < w15.heap.size := (by omega)
    clear b_w15
    clear w4 w5 w6 m4 m5 m6 q1 q2 q3 q4 ty tp td la1 la2 la3
    clear CSY CSP CTY CTP CBZ CBP CDY CDP
    clear Oy
    clear Op
    go_wp2_with fail
    refine (MakeNetwork_c w.heap.size N 40 _ w15 (HV.out.kept fun k hk => BA.out.block k hk) ZA hN (by omega)).mono ?_
    rintro e w16 ⟨m, qd, usd, xd, rfl, hdrw, od, b_w16⟩
    obtain ⟨aod, gd, capd, ed, -, -, -⟩ := od.rows
    obtain ⟨Ld, hLd⟩ : ∃ L, L = xd.length := ⟨_, rfl⟩
    rw [← hLd] at ed
    subst ed
    have HNd := Lib.hid hLd
    clear hLd
    have z_w16 := b_w16.size
    replace BA : Hid (Below w.heap.size w w16) := BA.out.trans (b_w16.mono (by omega))
    replace ZA : w.heap.size ≤ w16.heap.size := (by omega)
    clear b_w16
    have Od := Lib.hid od
    clear od
    go_upto_region 19 with fail
    obtain ⟨w17, hWw17, cd0, cd1, hzw17, b_w17, -, -⟩ := box2 w16 (.int .i64 m) (.slice aod Ld capd) 30
    rw [hWw17]
    clear hWw17
    have zz_w17 : w16.heap.size < w17.heap.size := (by omega)
    clear hzw17
    have z_w17 := b_w17.size
    replace Od := Lib.hid (Od.out.later b_w17)
    replace BA : Hid (Below w.heap.size w w17) := BA.out.trans (b_w17.mono (by omega))
    replace ZA : w.heap.size ≤ w17.heap.size := (by omega)
    clear b_w17
    have yd : w16.heap.size < w17.heap.size := zz_w17
    have HDR := Lib.hid hdrw
    have m1 : 1 ≤ m := HDR.out.1
    have m6 : m ≤ 6 := HDR.out.2.1
    have DOK : Hid (netOk (m : Nat) xd = true) := netOk_of_pairUp HDR.out.2.2.1 m1 (by omega) (by have := HDR.out.2.2.2; omega)
    clear hdrw
    go_wp2_with fail
    refine (MakeOrder_c w.heap.size N 60 m _ w17 (HV.out.kept fun k hk => BA.out.block k hk) ZA hN (by omega) (by omega)).mono ?_
    rintro e w18 ⟨qo, xo, rfl, hlo, hxo, oo, b_w18⟩
    obtain ⟨aoo, go, capo, eo, -, -, -⟩ := OwnI.view oo
    obtain ⟨Lo, hLo⟩ : ∃ L, L = xo.length := ⟨_, rfl⟩
    rw [← hLo] at eo
    subst eo
    have HNo := Lib.hid hLo
    clear hLo
    have z_w18 := b_w18.size
    replace Od := Lib.hid (Od.out.later b_w18)
    replace cd0 := (b_w18.cell (p := ⟨w16.heap.size, 0, none⟩) (by show w16.heap.size < _; omega)).trans cd0
    replace cd1 := (b_w18.cell (p := ⟨w16.heap.size, 1, none⟩) (by show w16.heap.size < _; omega)).trans cd1
    replace BA : Hid (Below w.heap.size w w18) := BA.out.trans (b_w18.mono (by omega))
    replace ZA : w.heap.size ≤ w18.heap.size := (by omega)
    replace yd : w16.heap.size < w18.heap.size := (by omega)
    clear b_w18
    have Oo := Lib.hid oo
    clear oo
    have HLO := Lib.hid hlo
    have HXO := Lib.hid hxo
    clear hlo hxo
    have HLo : Hid (Lo = m) := by show _ = _; rw [HNo.out, HLO.out]
    have hnm : (m : Int) - 1 = ((m - 1 : Nat) : Int) := by omega
    have CMS : Hid (∀ w1, BytesV w1 w.heap.size (.slice cao N ccap) N → w.heap.size ≤ w1.heap.size → Calls Try.prog 30 #[.slice cao N ccap, .int .i64 2, .int .i64 0, .int .i64 ((m : Int) - 1)] w1 (SizeC w1 0 (m - 1))) := fun w1 h1 h2 => by
      rw [hnm]
      exact MakeSize_c w.heap.size N 2 0 (m - 1) _ w1 h1 h2 hN (by omega) (by omega) (by omega)
    clear hnm
    go_wp2_with fail
    refine (CMS.out w18 (HV.out.kept fun k hk => BA.out.block k hk) ZA).mono ?_
    rintro e w19 ⟨t, rfl, t_lo, t_hi, b_w19⟩
    have z_w19 := b_w19.size
    replace Od := Lib.hid (Od.out.later b_w19)
    replace Oo := Lib.hid (Oo.out.later b_w19)
    replace cd0 := (b_w19.cell (p := ⟨w16.heap.size, 0, none⟩) (by show w16.heap.size < _; omega)).trans cd0
    replace cd1 := (b_w19.cell (p := ⟨w16.heap.size, 1, none⟩) (by show w16.heap.size < _; omega)).trans cd1
    replace BA : Hid (Below w.heap.size w w19) := BA.out.trans (b_w19.mono (by omega))
    replace ZA : w.heap.size ≤ w19.heap.size := (by omega)
    replace yd : w16.heap.size < w19.heap.size := (by omega)
    clear b_w19
    clear CMS t_lo
    obtain ⟨N1, hN1⟩ : ∃ x, x = 1 + t := ⟨_, rfl⟩
    have hN1i : 1 + (t : Int) = (N1 : Int) := by omega
    have n11 : 1 ≤ N1 := by omega
    have n1m : N1 ≤ m := by omega
    obtain ⟨aoz, gz, capz, ez, hcz, haz, hcellz⟩ := OwnI.view Oo.out
    rw [← HNo.out] at ez hcz haz hcellz
    cases ez
    obtain ⟨haz1, gz1, gz2⟩ := haz (by have := HLo.out; omega)
    subst haz1
    have hLm : Lo = m := HLo.out
    have hNL : N1 ≤ Lo := by omega
    have hNc : N1 ≤ capo := by omega
    have hc0 : ¬ capo = 0 := by omega
    have HWS : Hid (WsP m (xo.take N1)) := wsP_of HXO.out N1
    have HWL : Hid ((xo.take N1).length = N1) := by show _ = _; rw [List.length_take, HLO.out]; omega
    have HIV : Hid (∀ w1, Below w19.heap.size w19 w1 → IntsV w1 0 w19.heap.size (.slice (some ⟨gz, 0, none⟩) N1 capo) (xo.take N1)) := fun w1 h1 => by
      have h := (OwnI.ints Oo.out).fore HNo.out.symm N1 hNL
      exact (h.below h1 (by omega)).mono (Nat.zero_le _) (by omega)
    have HSB : Hid (seqB m (xo.take N1) = true) := seqB_of HWS.out (by rw [HWL.out]; exact n11)
    have HSK : Hid (netOk m (sortOnX xd (xo.take N1)) = true) := sortOn_ok HDR.out HWS.out (by rw [HWL.out]; exact n11)
    clear haz hcellz hN1
    replace hLm := Lib.hid hLm
    have HQW : Hid (Below w19.heap.size w19 w19) := Below.refl _ _
    go_wp2_with fail
    refine (SortOn_z m _ _ _ _ _ usd xd _ (xo.take N1) w19 Od.out (by omega) DOK.out (HIV.out w19 (Below.refl _ _)) (Nat.le_refl _) HSB.out HSK.out).mono ?_
    rintro e w20 ⟨qv, usv, rfl, ov, b_w20⟩
    obtain ⟨xv, hxv⟩ : ∃ X, X = sortOnX xd (xo.take N1) := ⟨_, rfl⟩
    rw [← hxv] at ov
    have HXv := Lib.hid hxv
    clear hxv
    obtain ⟨aov, gv, capv, ev, -, -, -⟩ := ov.rows
    obtain ⟨Lv, hLv⟩ : ∃ L, L = xv.length := ⟨_, rfl⟩
    rw [← hLv] at ev
    subst ev
    have HNv := Lib.hid hLv
    clear hLv
    have z_w20 := b_w20.size
    replace Od := Lib.hid (Od.out.later b_w20)
    replace Oo := Lib.hid (Oo.out.later b_w20)
    replace cd0 := (b_w20.cell (p := ⟨w16.heap.size, 0, none⟩) (by show w16.heap.size < _; omega)).trans cd0
    replace cd1 := (b_w20.cell (p := ⟨w16.heap.size, 1, none⟩) (by show w16.heap.size < _; omega)).trans cd1
    replace BA : Hid (Below w.heap.size w w20) := BA.out.trans (b_w20.mono (by omega))
    replace ZA : w.heap.size ≤ w20.heap.size := (by omega)
    replace yd : w16.heap.size < w20.heap.size := (by omega)
    replace HQW : Hid (Below w19.heap.size w19 w20) := HQW.out.trans (b_w20.mono (by omega))
    clear b_w20
    have Ov := Lib.hid ov
    clear ov
    go_upto_region 22 with fail
    obtain ⟨w21, hWw21, cv0, cv1, hzw21, b_w21, -, -⟩ := box2 w20 (.int .i64 m) (.slice aov Lv capv) 30
    rw [hWw21]
    clear hWw21
    have zz_w21 : w20.heap.size < w21.heap.size := (by omega)
    clear hzw21
    have z_w21 := b_w21.size
    replace Od := Lib.hid (Od.out.later b_w21)
    replace Oo := Lib.hid (Oo.out.later b_w21)
    replace Ov := Lib.hid (Ov.out.later b_w21)
    replace cd0 := (b_w21.cell (p := ⟨w16.heap.size, 0, none⟩) (by show w16.heap.size < _; omega)).trans cd0
    replace cd1 := (b_w21.cell (p := ⟨w16.heap.size, 1, none⟩) (by show w16.heap.size < _; omega)).trans cd1
    replace BA : Hid (Below w.heap.size w w21) := BA.out.trans (b_w21.mono (by omega))
    replace ZA : w.heap.size ≤ w21.heap.size := (by omega)
    replace yd : w16.heap.size < w21.heap.size := (by omega)
    replace HQW : Hid (Below w19.heap.size w19 w21) := HQW.out.trans (b_w21.mono (by omega))
    clear b_w21
    have yv : w20.heap.size < w21.heap.size := zz_w21
    have VOK : Hid (netOk (m : Nat) xv = true) := by show _ = _; rw [HXv.out]; exact HSK.out
    have Q22_0 : Hid (Below w21.heap.size w21 w21.drew) := (Below.refl _ _).drew
    have s22_0_0 : w21.drew.cell? ⟨w20.heap.size, 0, none⟩ = some (.int .i64 m) := cv0
    have s22_0_1 : w21.drew.cell? ⟨w20.heap.size, 1, none⟩ = some (.slice aov Lv capv) := cv1
    have s22_0_2 : w21.drew.cell? ⟨w16.heap.size, 0, none⟩ = some (.int .i64 m) := cd0
    go_region_held3 (fun W' => W'.cell? ⟨w20.heap.size, 0, none⟩ = some (.int .i64 m) ∧ W'.cell? ⟨w20.heap.size, 1, none⟩ = some (.slice aov Lv capv) ∧ W'.cell? ⟨w16.heap.size, 0, none⟩ = some (.int .i64 m)) (first | exact ⟨s22_2_0, s22_2_1, s22_2_2⟩ | exact ⟨s22_1_0, s22_1_1, s22_1_2⟩ | exact ⟨s22_0_0, s22_0_1, s22_0_2⟩ | fail) (first | (go_at_call 34; have c9 := (ApplyNetwork_y m _ _ _ _ _ usv xv _ xe v22_1 (Ov.out.below Q22_1.out (by omega)) (by omega) VOK.out (OwnI.ints Oe_1.out) (by omega) HLe.out); (with_reducible refine c9.mono ?_); clear c9; rintro e v22_2 ⟨qr, rfl, o9, b9⟩; have Q22_2 : Hid (Below w21.heap.size w21 v22_2) := Q22_1.out.trans (b9.mono Q22_1.out.size); have s22_2_0 := (Q22_2.out.cell (p := ⟨w20.heap.size, 0, none⟩) (by show w20.heap.size < _; omega)).trans cv0; have s22_2_1 := (Q22_2.out.cell (p := ⟨w20.heap.size, 1, none⟩) (by show w20.heap.size < _; omega)).trans cv1; have s22_2_2 := (Q22_2.out.cell (p := ⟨w16.heap.size, 0, none⟩) (by show w16.heap.size < _; omega)).trans cd0; have zz22_2 : v22_1.heap.size ≤ v22_2.heap.size := b9.size; have zw22_2 : w21.heap.size ≤ v22_2.heap.size := Q22_2.out.size; have Oe_2 := Lib.hid (Oe_1.out.later b9); obtain ⟨aor, gr, capr, er, -, -, -⟩ := OwnI.view o9; obtain ⟨xr, hXr⟩ : ∃ X, X = applyP xv xe := ⟨_, rfl⟩; rw [← hXr] at o9 er; have HXr := Lib.hid hXr; clear hXr; obtain ⟨Lr, hLr⟩ : ∃ L, L = xr.length := ⟨_, rfl⟩; rw [← hLr] at er; subst er; have HNr := Lib.hid hLr; clear hLr; have Or_2 := Lib.hid o9; clear o9; clear b9) | (go_at_call 33; have c9 := (show Calls Try.prog 33 #[.slice cao N ccap, .int .i64 80, .int .i64 m] w21.drew (SomeI w21.drew m nearB) from MakeList_c w.heap.size N 80 m _ w21.drew (HV.out.kept fun k hk => (BA.out.trans (Q22_0.out.mono ZA)).block k hk) (by have := Q22_0.out.size; omega) hN (by omega) (by omega)); (with_reducible refine c9.mono ?_); clear c9; rintro e v22_1 ⟨qe, xe, rfl, hle, hxe, o9, b9⟩; have Q22_1 : Hid (Below w21.heap.size w21 v22_1) := Q22_0.out.trans (b9.mono Q22_0.out.size); have s22_1_0 := (Q22_1.out.cell (p := ⟨w20.heap.size, 0, none⟩) (by show w20.heap.size < _; omega)).trans cv0; have s22_1_1 := (Q22_1.out.cell (p := ⟨w20.heap.size, 1, none⟩) (by show w20.heap.size < _; omega)).trans cv1; have s22_1_2 := (Q22_1.out.cell (p := ⟨w16.heap.size, 0, none⟩) (by show w16.heap.size < _; omega)).trans cd0; have zz22_1 : w21.heap.size ≤ v22_1.heap.size := b9.size; have zw22_1 : w21.heap.size ≤ v22_1.heap.size := Q22_1.out.size; obtain ⟨aoe, ge, cape, ee, -, -, -⟩ := OwnI.view o9; obtain ⟨Le, hLe⟩ : ∃ L, L = xe.length := ⟨_, rfl⟩; rw [← hLe] at ee; subst ee; have HNe := Lib.hid hLe; clear hLe; have HLe := Lib.hid hle; have HXe := Lib.hid hxe; clear hle hxe; have Oe_1 := Lib.hid o9; clear o9; clear b9) | fail)
    have Oe := Oe_2
    have Or := Or_2
    have b_v22_2 := Q22_2.out
    have z_v22_2 := b_v22_2.size
    replace Od := Lib.hid (Od.out.later b_v22_2)
    replace Oo := Lib.hid (Oo.out.later b_v22_2)
    replace Ov := Lib.hid (Ov.out.later b_v22_2)
    replace cd0 := (b_v22_2.cell (p := ⟨w16.heap.size, 0, none⟩) (by show w16.heap.size < _; omega)).trans cd0
    replace cd1 := (b_v22_2.cell (p := ⟨w16.heap.size, 1, none⟩) (by show w16.heap.size < _; omega)).trans cd1
    replace cv0 := (b_v22_2.cell (p := ⟨w20.heap.size, 0, none⟩) (by show w20.heap.size < _; omega)).trans cv0
    replace cv1 := (b_v22_2.cell (p := ⟨w20.heap.size, 1, none⟩) (by show w20.heap.size < _; omega)).trans cv1
    replace BA : Hid (Below w.heap.size w v22_2) := BA.out.trans (b_v22_2.mono (by omega))
    replace ZA : w.heap.size ≤ v22_2.heap.size := (by omega)
    replace yd : w16.heap.size < v22_2.heap.size := (by omega)
    replace yv : w20.heap.size < v22_2.heap.size := (by omega)
    replace HQW : Hid (Below w19.heap.size w19 v22_2) := HQW.out.trans (b_v22_2.mono (by omega))
    clear b_v22_2
    have HLr : Hid (Lr = m) := by show _ = _; rw [HNr.out, HXr.out, applyP_len, HLe.out]
    have tlr : ((Lr : Int) != (m : Int)) = false := by rw [HLr.out]; simp
    have HRI : Hid (risesB (gathL (xo.take N1) xr) = true) := by show _ = _; rw [HXr.out, HXv.out]; exact sortOn_rises HWS.out (by rw [HWL.out]; exact n11) (by rw [HWL.out]; omega) HLe.out
    have HGL : Hid ((gathL (xo.take N1) xr).length = N1) := by show _ = _; rw [gathL_len, HWL.out]
    go_upto_region 25 with fail
    clear tlr
    clear Ov
    clear Od
    clear Oe
    obtain ⟨aor2, gr, cpr, er, hcr, har, hcellr⟩ := OwnI.view Or.out
    rw [← HNr.out] at er hcr har hcellr
    cases er
    obtain ⟨har1, gr1, gr2⟩ := har (by have := HLr.out; omega)
    subst har1
    have HRC : Hid (∀ i, i < m → v22_2.cell? ⟨gr, i, none⟩ = some (.int .i64 (xr.getD i 0))) := fun i hi => (hcellr i (by have := HLr.out; omega)).1
    have HOC : Hid (∀ i, i < N1 → v22_2.cell? ⟨gz, i, none⟩ = some (.int .i64 ((xo.take N1).getD i 0))) := fun i hi => by
      obtain ⟨ao9, b9, off9, cap9, e9, -, ha9, hc9⟩ := HIV.out v22_2 HQW.out
      have hl := HWL.out
      rw [hl] at e9 hc9
      injection e9 with e9a e9b e9c
      obtain ⟨ha9a, -, -⟩ := ha9 (by omega)
      rw [← e9a] at ha9a
      injection ha9a with ha9b
      injection ha9b with ha9c ha9d
      have := hc9 i hi
      rwa [← ha9c, ← ha9d, Nat.zero_add] at this
    have hgz : gz < v22_2.heap.size := by omega
    have hgr : gr < v22_2.heap.size := by omega
    obtain ⟨W9, hW9⟩ : ∃ W, W = v22_2.alloc (.cells #[] 3) := ⟨_, rfl⟩
    have HO9 : Hid (OwnI W9 v22_2.heap.size W9.heap.size (.slice (some ⟨v22_2.heap.size, 0, none⟩) 0 0) []) := by show OwnI _ _ _ _ _; rw [hW9]; exact Own.mono (ownI_empty v22_2) (Nat.le_refl _) (by simp)
    have HB9 : Hid (Below v22_2.heap.size v22_2 W9) := by show Below _ _ _; rw [hW9]; exact (Below.refl _ _).alloc (Nat.le_refl _) _
    clear hcellr har
    go_wp2_with fail
    try rw [← hW9]
    clear hW9
    obtain ⟨GX, hGX⟩ : ∃ X, X = gathL (xo.take N1) xr := ⟨_, rfl⟩
    have HGX := Lib.hid hGX
    rw [← hGX] at HRI HGL
    clear hGX
    go_loopw [20, 227] (fun v i wr => ∃ k : Nat, k ≤ N1 ∧ i = .int .i64 k ∧ OwnI wr v22_2.heap.size wr.heap.size v (GX.take k) ∧ Below v22_2.heap.size v22_2 wr) (fun _ i _ => N1 - (intOf i).toNat)
    case atStart => exact ⟨0, Nat.zero_le _, rfl, HO9.out, HB9.out⟩
    case round =>
      obtain ⟨k, hk, rfl, ho, hb⟩ := hrel
      have HO := Lib.hid ho
      have HB := Lib.hid hb
      have hz9 := hb.size
      have HLN : Hid ((GX.take k).length ≤ 100000000) := by show _ ≤ _; rw [List.length_take, HGL.out]; omega
      by_cases hlt : k < N1
      · have hki : (k : Int) < (N1 : Int) := by omega
        obtain ⟨a, ha, ham⟩ := HWS.out.wire k (by rw [HWL.out]; exact hlt)
        obtain ⟨y, hy⟩ : ∃ y, y = xr.getD a 0 := ⟨_, rfl⟩
        have c1 : wr.cell? ⟨gz, k, none⟩ = some (.int .i64 a) := by rw [← ha]; exact (hb.cell (p := ⟨gz, k, none⟩) (by show gz < _; exact hgz)).trans (HOC.out k hlt)
        have c2 : wr.cell? ⟨gr, a, none⟩ = some (.int .i64 y) := by rw [hy]; exact (hb.cell (p := ⟨gr, a, none⟩) (by show gr < _; exact hgr)).trans (HRC.out a ham)
        have HT : Hid (GX.take (k + 1) = GX.take k ++ [y]) := by
          show _ = _
          rw [take_snoc_getD 0 (by rw [HGL.out]; exact hlt), HGX.out, gathL_getD _ _ _ (by rw [HWL.out]; exact hlt), ha, Int.toNat_natCast, hy]
        have hami : (a : Int) < (Lr : Int) := by have := HLr.out; omega
        clear ho hb ha hy
        go_wp2_with (at_builtin; refine wpList_app_int rfl (.tmp 231) (.tmp 236) rfl wr y v22_2.heap.size wr.heap.size _ (GX.take k) HO.out hz9 HLN.out rfl rfl ?_; intro ao5 L5 cap5 w5 hL5 o5 b5 z5; have O5 := Lib.hid o5; have B5 : Hid (Below v22_2.heap.size v22_2 w5) := HB.out.trans b5; clear o5 b5)
        go_roundw
        case rel => exact ⟨k + 1, by omega, by go_num, by rw [HT.out]; exact O5.out, B5.out⟩
        case measure => simp [intOf]; omega
      · have hki : ¬ (k : Int) < (N1 : Int) := by omega
        have HOF : Hid (OwnI wr v22_2.heap.size wr.heap.size u20 GX) := by
          have h := HO.out
          rwa [List.take_of_length_le (by rw [HGL.out]; omega)] at h
        clear ho
        obtain ⟨ao6, g6, cap6, e6, -, -, -⟩ := OwnI.view HOF.out
        subst e6
        go_wp2_with fail
        refine (rises_c _ _ _ GX wr (OwnI.ints HOF.out) (Nat.le_refl _) (by rw [HGL.out]; omega)).mono ?_
        rintro e w9 ⟨rfl, b9⟩
        rw [HRI.out]
        have hfin : Hid (Below w.heap.size w w9) := (BA.out.trans (HB.out.mono (by omega))).trans (b9.mono (by omega))
        go_wp2
        go_ret
        exact ⟨rfl, hfin.out⟩
end Go.Proofs.Ytiodolbgapjmkaa
