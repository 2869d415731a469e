/- Whether a network is lean: both functions on all arguments, and the law. Conditions: none. -/
import Derived.Test.YtiodolbgapjmkaaNeeded
namespace Go.Proofs.Ytiodolbgapjmkaa
open Go.RowKit
set_option maxRecDepth 100000
set_option linter.unusedVariables false
set_option linter.unusedSimpArgs false

/-- Whether a comparator of a sorting network is needed. -/
def needL (n : Int) (xss : List (List Int)) (k : Nat) : Bool := !sortsR n (xss.eraseIdx k)
/-- Whether a network is lean. -/
def leanB (n : Int) (xss : List (List Int)) : Bool := sortsR n xss && allB (needL n xss) xss.length
theorem sortsR_ok {n : Int} {xss : List (List Int)} (h : sortsR n xss = true) : netOk n xss = true := by
  simp only [sortsR, Bool.and_eq_true] at h
  exact h.1
set_option maxHeartbeats 1000000 in
theorem IsLean_i_no (n : Int) (lo hi : Nat) (v : Value) (vs : List Value) (xss : List (List Int)) (w : World) (hv : OwnR w lo hi v vs xss) (hhi : hi ≤ w.heap.size) (hs : sortsR n xss = false) :
    Calls Try.prog 29 #[.agg #[.int .i64 n, v]] w fun e w' => e = .returned (.bool (leanB n xss)) ∧ Below w.heap.size w w' := by
  have HC := Lib.hid (IsSorting_i n lo hi v vs xss)
  have HR : Hid (leanB n xss = false) := by show _ = _; simp [leanB, hs]
  obtain ⟨ao, g, cap, rfl, -, -, -⟩ := hv.rows
  have HV := Lib.hid hv
  obtain ⟨L, hlen⟩ : ∃ l, l = xss.length := ⟨_, rfl⟩
  rw [← hlen] at HV HC ⊢
  rw [hs] at HC
  clear hv hlen hs
  go_enter Try.func29, Try.ntmps29
  go_wp2_with fail
  obtain ⟨W1, hW1, c0, c1, hsz, hB1, -, -⟩ := box2 w (.int .i64 n) (.slice ao L cap) 30
  try rw [hW1]
  clear hW1
  refine (HC.out W1 (HV.out.below hB1 (by omega)) (by omega)).mono ?_
  rintro e w1 ⟨rfl, b1⟩
  go_wp2
  go_ret
  exact ⟨by rw [HR.out]; rfl, hB1.trans (b1.mono (by omega))⟩
set_option maxHeartbeats 1000000 in
theorem IsLean_i_yes (n : Nat) (lo hi : Nat) (v : Value) (vs : List Value) (xss : List (List Int)) (w : World) (hv : OwnR w lo hi v vs xss) (hhi : hi ≤ w.heap.size) (hs : sortsR n xss = true) :
    Calls Try.prog 29 #[.agg #[.int .i64 n, v]] w fun e w' => e = .returned (.bool (leanB n xss)) ∧ Below w.heap.size w w' := by
  have HC := Lib.hid (IsSorting_i n lo hi v vs xss)
  have hok := sortsR_ok hs
  have HS := Lib.hid (fun (k : Nat) (w1 : World) (h1 : OwnR w1 lo hi v vs xss) (h2 : hi ≤ w1.heap.size) (h3 : k < xss.length) => IsNeeded_yes n lo hi v vs xss w1 h1 h2 hok k h3)
  have hL60 := netOk_len hok
  obtain ⟨RES, hRES⟩ : ∃ r, r = leanB n xss := ⟨_, rfl⟩
  rw [← hRES]
  obtain ⟨ao, g, cap, rfl, -, -, -⟩ := hv.rows
  have HV := Lib.hid hv
  obtain ⟨L, hlen⟩ : ∃ l, l = xss.length := ⟨_, rfl⟩
  have HLEN := Lib.hid hlen
  have HRES : Hid (RES = allB (needL n xss) L) := by show _ = _; rw [hRES, HLEN.out]; simp [leanB, hs]
  rw [← hlen] at HV HC HS hL60 ⊢
  have HSO := Lib.hid hs
  rw [hs] at HC
  clear hv hlen hs hok hRES
  go_enter Try.func29, Try.ntmps29
  go_wp2_with fail
  obtain ⟨W1, hW1, c0, c1, hsz, hB1, -, -⟩ := box2 w (.int .i64 n) (.slice ao L cap) 30
  try rw [hW1]
  clear hW1
  refine (HC.out W1 (HV.out.below hB1 (by omega)) (by omega)).mono ?_
  rintro e w1 ⟨rfl, b1⟩
  obtain ⟨d0, d1, z1⟩ := boxC b1 (by omega) c0 c1
  have zz := b1.size
  have HVb := Lib.hid ((HV.out.below hB1 (by omega)).below b1 (by omega))
  have HB1 : Hid (Below w.heap.size w w1) := hB1.trans (b1.mono (by omega))
  have hle1 : hi ≤ w1.heap.size := by omega
  clear c0 c1 HV HC hB1 b1 hsz zz
  go_wp2_with fail
  go_loopw [10] (fun i wr => ∃ k : Nat, k ≤ L ∧ i = .int .i64 k ∧ Hid (allB (needL n xss) k = true) ∧ Below w1.heap.size w1 wr) (fun i _ => L - (intOf i).toNat)
  case atStart => exact ⟨0, Nat.zero_le _, rfl, allB_zero _, Below.refl _ _⟩
  case round =>
    obtain ⟨k, hk, rfl, HA, hb⟩ := hrel
    obtain ⟨c0, c1, hzr⟩ := boxC hb z1 d0 d1
    have hzz := hb.size
    have hle : hi ≤ wr.heap.size := by omega
    have HVr := Lib.hid (HVb.out.below hb (by omega))
    have HB := Lib.hid (HB1.out.trans (hb.mono (by omega)))
    have HB2 := Lib.hid hb
    clear d0 d1 hb
    by_cases hlt : k < L
    · have HSk := Lib.hid (fun w1 h1 h2 => HS.out k w1 h1 h2 hlt)
      cases hq : needL n xss k
      · have HNO : Hid (RES = false) := by
          show RES = false
          rw [HRES.out]
          exact allB_no hlt hq
        have HQ := Lib.hid hq
        clear hq
        go_wp2_with fail
        refine (HSk.out wr HVr.out hle).mono ?_
        rintro e w2 ⟨rfl, b2⟩
        rw [show needB n xss k = needL n xss k from by simp [needB, needL, HSO.out], HQ.out]
        have B2 : Hid (Below w.heap.size w w2) := HB.out.trans (b2.mono (by omega))
        clear b2
        go_wp2
        go_ret
        exact ⟨by rw [HNO.out]; rfl, B2.out⟩
      · have HF : Hid (needL n xss k = true) := hq
        have HQ := Lib.hid hq
        clear hq
        go_wp2_with fail
        refine (HSk.out wr HVr.out hle).mono ?_
        rintro e w2 ⟨rfl, b2⟩
        rw [show needB n xss k = needL n xss k from by simp [needB, needL, HSO.out], HQ.out]
        have B2 : Hid (Below w1.heap.size w1 w2) := HB2.out.trans (b2.mono (by omega))
        clear b2
        go_wp2
        go_roundw
        case rel => exact ⟨k + 1, by omega, by go_num, allB_snoc HA.out HF.out, B2.out⟩
        case measure => simp [intOf]; omega
    · have HE : Hid (RES = true) := by
        show RES = true
        rw [HRES.out, show L = k by omega]
        exact HA.out
      go_wp2
      go_ret
      exact ⟨by rw [HE.out]; rfl, HB.out⟩
theorem IsLean_i_c (n : Int) (lo hi : Nat) (v : Value) (vs : List Value) (xss : List (List Int)) (w : World) (hv : OwnR w lo hi v vs xss) (hhi : hi ≤ w.heap.size) :
    Calls Try.prog 29 #[.agg #[.int .i64 n, v]] w fun e w' => e = .returned (.bool (leanB n xss)) ∧ Below w.heap.size w w' := by
  cases hs : sortsR n xss
  · exact IsLean_i_no n lo hi v vs xss w hv hhi hs
  · obtain ⟨m, rfl⟩ : ∃ m : Nat, n = (m : Int) := ⟨n.toNat, by have := netOk_n (sortsR_ok hs); omega⟩
    exact IsLean_i_yes m lo hi v vs xss w hv hhi hs
end Go.Proofs.Ytiodolbgapjmkaa
