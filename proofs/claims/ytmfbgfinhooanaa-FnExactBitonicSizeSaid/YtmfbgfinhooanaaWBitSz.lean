/- The law over BitonicSize returns true: both count the comparators of the bitonic sorter. Conditions: none. -/
import Derived.Test.YtmfbgfinhooanaaWBitonic
namespace Go.Proofs.Ytmfbgfinhooanaa
open Go.RowKit
set_option maxRecDepth 100000

/-- The number of comparators of the bitonic sorter, or -1. -/
def bitSz (a : Int) : Int := if powB a = true then ((bitS (dOf a) 0).length : Nat) else -1
theorem BitonicSize_i (a : Int) (w : World) : Calls Try.prog 20 #[.int .i64 a] w fun e w' => e = .returned (.int .i64 (bitSz a)) ∧ Below w.heap.size w w' := by
  have hc := fun w => BitonicNetwork_i_c a w
  have HC := Lib.hid hc
  clear hc
  by_cases h : powB a = true
  · have HX : Hid ((if powB a = true then a else 0) = a ∧ XBitonicNetwork a = bitS (dOf a) 0 ∧ powB a = true ∧ bitSz a = ((bitS (dOf a) 0).length : Nat)) := ⟨if_pos h, if_pos h, h, if_pos h⟩
    clear h
    go_enter Try.func20, Try.ntmps20
    go_wp2_with fail
    refine (HC.out _).mono ?_
    rintro e w1 ⟨v, vs, rfl, o1, b1⟩
    rw [HX.out.1, HX.out.2.2.1]
    rw [HX.out.2.1] at o1
    obtain ⟨ao, g, cap, e, -, -, -⟩ := o1.rows
    obtain ⟨L, hL⟩ : ∃ L, L = (bitS (dOf a) 0).length := ⟨_, rfl⟩
    rw [← hL] at e
    subst e
    have HL := Lib.hid hL
    clear hL o1
    go_wp2
    go_ret
    refine ⟨?_, b1.alloc b1.size _⟩
    rw [HX.out.2.2.2, ← HL.out]
    rfl
  · replace h : powB a = false := by simpa using h
    have HX : Hid ((if powB a = true then a else 0) = 0 ∧ XBitonicNetwork a = [] ∧ powB a = false ∧ bitSz a = -1) := ⟨if_neg (by simp [h]), if_neg (by simp [h]), h, if_neg (by simp [h])⟩
    clear h
    go_enter Try.func20, Try.ntmps20
    go_wp2_with fail
    refine (HC.out _).mono ?_
    rintro e w1 ⟨v, vs, rfl, o1, b1⟩
    rw [HX.out.1, HX.out.2.2.1]
    obtain ⟨ao, g, cap, e, -, -, -⟩ := o1.rows
    obtain ⟨L, hL⟩ : ∃ L, L = (XBitonicNetwork a).length := ⟨_, rfl⟩
    rw [← hL] at e
    subst e
    clear hL o1
    go_wp2
    go_ret
    refine ⟨?_, b1.alloc b1.size _⟩
    rw [HX.out.2.2.2]
    rfl
theorem BitonicSize_s (a : Int) (w : World) : Calls Try.prog 19 #[.int .i64 a] w fun e w' => e = .returned (.int .i64 (bitSz a)) ∧ Below w.heap.size w w' := by
  by_cases h : powB a = true
  · obtain ⟨d, hd, e1, e2⟩ := powB_of h
    have hc : ∀ w, Calls Try.prog 32 #[.int .i64 0, .int .i64 a] w (RowC w (bitS (dOf a) 0)) := fun w => by
      rw [e1, e2]
      exact bitonic_s d 0 w hd (by omega) (by
        have : 2 ^ d ≤ 2 ^ 3 := Nat.pow_le_pow_right (by omega) hd
        omega)
    have HC := Lib.hid hc
    have HX : Hid (bitSz a = ((bitS (dOf a) 0).length : Nat)) := if_pos h
    clear hc e1 e2 hd
    go_enter Try.func19, Try.ntmps19
    go_wp2_with (go_at_call 31; refine (l08Power_c _ _).mono ?_; rintro e w' ⟨rfl, rfl⟩)
    refine (HC.out _).mono ?_
    rintro e w1 ⟨v, vs, rfl, o1, b1⟩
    obtain ⟨ao, g, cap, e, -, -, -⟩ := o1.rows
    obtain ⟨L, hL⟩ : ∃ L, L = (bitS (dOf a) 0).length := ⟨_, rfl⟩
    rw [← hL] at e
    subst e
    have HL := Lib.hid hL
    clear hL o1
    go_wp2
    go_ret
    refine ⟨?_, b1⟩
    rw [HX.out, ← HL.out]
    rfl
  · replace h : powB a = false := by simpa using h
    have HX : Hid (bitSz a = -1) := if_neg (by simp [h])
    go_enter Try.func19, Try.ntmps19
    go_wp2_with (go_at_call 31; refine (l08Power_c _ _).mono ?_; rintro e w' ⟨rfl, rfl⟩)
    go_ret
    refine ⟨?_, Below.refl _ _⟩
    rw [HX.out]
    rfl
theorem fnExactBitonicSize_walk (a0 : Int) (_w0 : (Lit.int .i64 a0).wf = true) (w : World) :
    Calls Try.prog 8 #[.int .i64 a0] w fun e w' => e = .returned (.bool true) ∧ Below w.heap.size w w' := by
  obtain ⟨r, hr⟩ : ∃ r, r = bitSz a0 := ⟨_, rfl⟩
  have hs := fun w => BitonicSize_s a0 w
  have hi := fun w => BitonicSize_i a0 w
  rw [← hr] at hs hi
  have HS := Lib.hid hs
  have HI := Lib.hid hi
  clear hs hi hr
  go_enter Try.func8, Try.ntmps8
  go_wp2_with fail
  refine (HS.out _).mono ?_
  rintro e w1 ⟨rfl, b1⟩
  go_wp2_with fail
  refine (HI.out _).mono ?_
  rintro e w2 ⟨rfl, b2⟩
  go_wp2
  go_ret
  exact ⟨rfl, b1.trans (b2.mono b1.size)⟩
end Go.Proofs.Ytmfbgfinhooanaa
