/- MergeSize on all arguments, and the laws over OddEvenMerge and MergeSize. Conditions: none. -/
import Derived.Test.YtkgbmainabgamaaWMerge
import Derived.Test.YtkgbmainabgamaaLOddEvenMerge
namespace Go.Proofs.Ytkgbmainabgamaa
open Go.RowKit
set_option maxRecDepth 100000

/-- The number of comparators of the merge, or -1. -/
def mrgSz (a b : Int) : Int := if sizesB a b = true then ((XOddEvenMerge a b).length : Nat) else -1
theorem MergeSize_i (a b : Int) (w : World) : Calls Try.prog 31 #[.int .i64 a, .int .i64 b] w fun e w' => e = .returned (.int .i64 (mrgSz a b)) ∧ Below w.heap.size w w' := by
  have hc := fun w => OddEvenMerge_i_c a b w
  have HC := Lib.hid hc
  clear hc
  cases h : sizesB a b
  · have HX : Hid ((if sizesB a b = true then a + b else 0) = 0 ∧ sizesB a b = false ∧ mrgSz a b = -1) := ⟨if_neg (by simp [h]), h, if_neg (by simp [h])⟩
    clear h
    go_enter Try.func31, Try.ntmps31
    go_wp2_with fail
    refine (HC.out _).mono ?_
    rintro e w1 ⟨v, vs, rfl, o1, b1⟩
    rw [HX.out.1, HX.out.2.1]
    obtain ⟨ao, g, cap, e, -, -, -⟩ := o1.rows
    obtain ⟨L, hL⟩ : ∃ L, L = (XOddEvenMerge a b).length := ⟨_, rfl⟩
    rw [← hL] at e
    subst e
    clear hL o1
    go_wp2
    go_ret
    refine ⟨?_, b1.alloc b1.size _⟩
    rw [HX.out.2.2]
    rfl
  · have HX : Hid ((if sizesB a b = true then a + b else 0) = a + b ∧ sizesB a b = true ∧ mrgSz a b = ((XOddEvenMerge a b).length : Nat)) := ⟨if_pos h, h, if_pos h⟩
    clear h
    go_enter Try.func31, Try.ntmps31
    go_wp2_with fail
    refine (HC.out _).mono ?_
    rintro e w1 ⟨v, vs, rfl, o1, b1⟩
    rw [HX.out.1, HX.out.2.1]
    obtain ⟨ao, g, cap, e, -, -, -⟩ := o1.rows
    obtain ⟨L, hL⟩ : ∃ L, L = (XOddEvenMerge a b).length := ⟨_, rfl⟩
    rw [← hL] at e
    subst e
    have HL := Lib.hid hL
    clear hL o1
    go_wp2
    go_ret
    refine ⟨?_, b1.alloc b1.size _⟩
    rw [HX.out.2.2, ← HL.out]
    rfl
theorem MergeSize_s (a b : Int) (w : World) : Calls Try.prog 30 #[.int .i64 a, .int .i64 b] w fun e w' => e = .returned (.int .i64 (mrgSz a b)) ∧ Below w.heap.size w w' := by
  cases h : sizesB a b
  · have HX : Hid (mrgSz a b = -1) := if_neg (by simp [h])
    go_enter Try.func30, Try.ntmps30
    go_wp2_with (go_at_call 53; refine (l08Sizes_c _ _ _).mono ?_; rintro e w' ⟨rfl, rfl⟩)
    go_ret
    exact ⟨by rw [HX.out]; rfl, Below.refl _ _⟩
  · have hX : mrgSz a b = ((XOddEvenMerge a b).length : Nat) := if_pos h
    have hY : XOddEvenMerge a b = mrgR a.toNat b.toNat := if_pos h
    rw [hY] at hX
    obtain ⟨m, n, rfl, rfl, h8⟩ := sizesB_of h
    simp only [Int.toNat_natCast] at hX
    have HX := Lib.hid hX
    have WA := Lib.hid (wiresA_s m n h8)
    have WB := Lib.hid (wiresB_s m n h8)
    clear hX hY
    go_enter Try.func30, Try.ntmps30
    go_wp2_with (go_at_call 53; refine (l08Sizes_c _ _ _).mono ?_; rintro e w' ⟨rfl, rfl⟩)
    refine (WA.out _).mono ?_
    rintro e w1 ⟨u1, rfl, o1, b1⟩
    have P1 : Hid (IntsV w1 0 w1.heap.size u1 (upI 0 m)) := (OwnI.ints o1).mono (Nat.zero_le _) (Nat.le_refl _)
    obtain ⟨x1, n1, y1, rfl⟩ := (OwnI.ints o1).shape
    have z1 := b1.size
    clear o1
    go_wp2_with fail
    refine (WB.out w1).mono ?_
    rintro e w2 ⟨u2, rfl, o2, b2⟩
    have z2 := b2.size
    obtain ⟨x2, n2, y2, rfl⟩ := (OwnI.ints o2).shape
    have P2 : Hid (IntsV w2 0 w2.heap.size (.slice x2 n2 y2) (upI m n)) := (OwnI.ints o2).mono (Nat.zero_le _) (Nat.le_refl _)
    have P1' : Hid (IntsV w2 0 w2.heap.size (.slice x1 n1 y1) (upI 0 m)) := (P1.out.below b2 (Nat.le_refl _)).mono (Nat.zero_le _) z2
    clear o2 P1
    go_wp2_with fail
    refine (l08Merge_c (m + n) (upI 0 m) (upI m n) 0 w2.heap.size _ _ w2 (by rw [upI_length, upI_length]; omega) h8 P1'.out P2.out (Nat.le_refl _)).mono ?_
    rintro e w3 ⟨u, us, rfl, o3, b3⟩
    obtain ⟨ao, g, cap, e, -, -, -⟩ := o3.rows
    obtain ⟨L, hL⟩ : ∃ L, L = (mrg (m + n) (upI 0 m) (upI m n)).length := ⟨_, rfl⟩
    rw [← hL] at e
    subst e
    have HL := Lib.hid hL
    clear hL o3
    go_wp2
    go_ret
    refine ⟨?_, (b1.trans (b2.mono z1)).trans (b3.mono (by omega))⟩
    rw [HX.out, show mrgR m n = mrg (m + n) (upI 0 m) (upI m n) from rfl, ← HL.out]
    rfl
theorem fnExactMergeSize_walk (a0 : Int) (_w0 : (Lit.int .i64 a0).wf = true) (a1 : Int) (_w1 : (Lit.int .i64 a1).wf = true) (w : World) :
    Calls Try.prog 9 #[.int .i64 a0, .int .i64 a1] w fun e w' => e = .returned (.bool true) ∧ Below w.heap.size w w' := by
  have HS := Lib.hid (fun w => MergeSize_s a0 a1 w)
  have HI := Lib.hid (fun w => MergeSize_i a0 a1 w)
  obtain ⟨r, hr⟩ : ∃ r, r = mrgSz a0 a1 := ⟨_, rfl⟩
  rw [← hr] at HS HI
  clear hr
  have hnn : (r != r) = false := by simp
  go_enter Try.func9, Try.ntmps9
  go_wp2_with fail
  refine (HS.out _).mono ?_
  rintro e w1 ⟨rfl, b1⟩
  go_wp2_with fail
  refine (HI.out _).mono ?_
  rintro e w2 ⟨rfl, b2⟩
  go_wp2
  go_ret
  exact ⟨rfl, b1.trans (b2.mono b1.size)⟩
theorem fnExactOddEvenMerge_walk (a0 : Int) (_w0 : (Lit.int .i64 a0).wf = true) (a1 : Int) (_w1 : (Lit.int .i64 a1).wf = true) (w : World) :
    Calls Try.prog 13 #[.int .i64 a0, .int .i64 a1] w fun e w' => e = .returned (.bool true) ∧ Below w.heap.size w w' :=
  FnExactOddEvenMerge_core a0 a1 w _ _ _ (XOddEvenMerge_small a0 a1) (OddEvenMerge_s_c a0 a1) (OddEvenMerge_i_c a0 a1)
end Go.Proofs.Ytkgbmainabgamaa
