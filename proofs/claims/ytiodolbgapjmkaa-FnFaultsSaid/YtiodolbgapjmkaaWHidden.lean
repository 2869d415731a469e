/- The faults that no mask tells: both functions on all arguments, and the law. Conditions: none. -/
import Derived.Test.YtiodolbgapjmkaaFaults
import Derived.Test.YtiodolbgapjmkaaTestsC
import Derived.Test.YtiodolbgapjmkaaNetC
namespace Go.Proofs.Ytiodolbgapjmkaa
open Go.RowKit
set_option maxRecDepth 100000
set_option linter.unusedVariables false

theorem fltB_mk {n : Nat} {xss : List (List Int)} (h : netOk n xss = true) {i k : Nat} (hi : i < xss.length) (hk : k ≤ 2) : fltB n xss i k = true := by
  simp only [fltB, h, Bool.true_and, Bool.and_eq_true]
  exact ⟨inB_mk (by omega), inB_mk (by omega)⟩
/-- No mask tells the fault. -/
def hidB (n : Nat) (xss : List (List Int)) (i k : Nat) : Bool := decide ((testsK xss i k (2 ^ n)).length = 0)
theorem hid1_c (n : Nat) (lo hi : Nat) (ao : Option Addr) (L cap : Nat) (vs : List Value) (xss : List (List Int)) (i k b : Nat) (w : World) (hv : OwnR w lo hi (.slice ao L cap) vs xss) (hhi : hi ≤ w.heap.size) (hok : netOk n xss = true) (hi2 : i < xss.length) (hk : k ≤ 2)
    (c0 : w.cell? ⟨b, 0, none⟩ = some (.int .i64 n)) (c1 : w.cell? ⟨b, 1, none⟩ = some (.slice ao L cap)) :
    Calls Try.prog 96 #[.int .i64 i, .int .i64 k, .pointer (some ⟨b, 0, none⟩)] w fun e w' => e = .returned (.bool (hidB n xss i k)) ∧ Below w.heap.size w w' := by
  have HT := Lib.hid (tests_c n lo hi _ vs xss i k w hv hhi hok (fltB_mk hok hi2 hk) (by omega))
  have hB : hidB n xss i k = decide ((testsK xss i k (2 ^ n)).length = 0) := rfl
  obtain ⟨R, hR⟩ : ∃ R, R = testsK xss i k (2 ^ n) := ⟨_, rfl⟩
  rw [← hR] at HT hB
  obtain ⟨rl, hrl⟩ : ∃ r, r = R.length := ⟨_, rfl⟩
  have HRL := Lib.hid hrl
  have hB2 : ((rl : Int) == 0) = hidB n xss i k := by rw [hB, ← hrl, Bool.eq_iff_iff, beq_iff_eq, decide_eq_true_eq]; omega
  obtain ⟨q, hq⟩ : ∃ q, q = hidB n xss i k := ⟨_, rfl⟩
  rw [← hq] at hB2 ⊢
  clear hB hR hrl hq hv
  go_enter Try.func96, Try.ntmps96
  go_wp2_with fail
  refine HT.out.mono ?_
  rintro e w2 ⟨u, rfl, o2, b2⟩
  obtain ⟨ao2, g2, cap2, e2, -, -, -⟩ := o2.view
  rw [← HRL.out] at e2
  subst e2
  clear o2
  go_wp2
  go_ret
  exact ⟨rfl, b2⟩
set_option maxHeartbeats 1000000 in
theorem HiddenFaults_i_yes (n : Nat) (lo hi : Nat) (v : Value) (vs : List Value) (xss : List (List Int)) (w : World) (hv : OwnR w lo hi v vs xss) (hhi : hi ≤ w.heap.size) (hok : netOk n xss = true) :
    Calls Try.prog 19 #[.agg #[.int .i64 n, v]] w (RowC w (faultsL (hidB n xss) xss.length)) := by
  have HC : Hid (∀ w, OwnR w lo hi v vs xss → hi ≤ w.heap.size → Calls Try.prog 94 #[.agg #[.int .i64 n, v]] w fun e w' => e = .returned (.bool true) ∧ Below w.heap.size w w') := fun w h1 h2 => by
    have := NetworkOk_c n lo hi v vs xss w h1 h2
    rwa [hok] at this
  have hl60 := netOk_len hok
  obtain ⟨R, hR⟩ : ∃ R, R = faultsL (hidB n xss) xss.length := ⟨_, rfl⟩
  have HRR := Lib.hid hR
  rw [← hR]
  obtain ⟨ao, g, cap, rfl, -, -, -⟩ := hv.rows
  have HV := Lib.hid hv
  obtain ⟨L, hlen⟩ : ∃ l, l = xss.length := ⟨_, rfl⟩
  have HLEN := Lib.hid hlen
  rw [← hlen] at HV HC hl60 ⊢
  have HOK := Lib.hid hok
  clear hv hlen hok hR
  go_enter Try.func19, Try.ntmps19
  go_wp2_with fail
  obtain ⟨W1, hW1, c0, c1, hsz, hB1, -, -⟩ := box2 w (.int .i64 n) (.slice ao L cap) 30
  try rw [hW1]
  clear hW1
  refine (HC.out W1 (HV.out.below hB1 (by omega)) (by omega)).mono ?_
  rintro e w1 ⟨rfl, b1⟩
  obtain ⟨d0, d1, z1⟩ := boxC b1 (by omega) c0 c1
  have zz := b1.size
  have HVb := Lib.hid ((HV.out.below hB1 (by omega)).below b1 (by omega))
  have HB1 : Hid (Below w.heap.size w w1) := hB1.trans (b1.mono (by omega))
  have hle1 : hi ≤ w1.heap.size := by omega
  clear c0 c1 HV HC hB1 b1 hsz zz
  go_wp2_with fail
  refine (faults_hid_c (hidB n xss) n lo hi _ vs xss w.heap.size w1 HVb.out hle1 (by rw [← HLEN.out]; omega) (fun w' hb i k hi2 hk => ?_)).mono ?_
  · obtain ⟨e0, e1, -⟩ := boxC hb z1 d0 d1
    exact hid1_c n lo hi ao L cap vs xss i k w.heap.size w' (HVb.out.below hb hle1) (by have := hb.size; omega) HOK.out hi2 hk e0 e1
  rintro e w2 ⟨u, us, rfl, o2, b2⟩
  have O2 := Lib.hid o2
  have z2 := b2.size
  obtain ⟨ao2, g2, cap2, e2, -, -, -⟩ := o2.rows
  obtain ⟨rl, hrl⟩ : ∃ r, r = (faultsL (hidB n xss) xss.length).length := ⟨_, rfl⟩
  rw [← hrl] at e2
  subst e2
  clear o2 hrl
  go_wp2
  go_ret
  exact ⟨_, us, rfl, by rw [HRR.out]; exact O2.out.mono (by omega) (Nat.le_refl _), HB1.out.trans (b2.mono (by omega))⟩
/-- The faults that no mask tells. -/
def hidR (n : Int) (xss : List (List Int)) : List (List Int) := if netOk n xss = true then faultsL (hidB n.toNat xss) xss.length else []
theorem hidR_small (n : Int) (xss : List (List Int)) : smallR (hidR n xss) := by
  unfold hidR
  split
  · rename_i h
    have := netOk_len h
    exact smallR_pairs (by have := faultsL_le (hidB n.toNat xss) xss.length; omega) (fun xs hx => by have := faultsL_two _ _ xs hx; omega)
  · exact smallR_pairs (by simp) (by simp)
theorem HiddenFaults_i_no (n : Int) (lo hi : Nat) (v : Value) (vs : List Value) (xss : List (List Int)) (w : World) (hv : OwnR w lo hi v vs xss) (hhi : hi ≤ w.heap.size) (hno : netOk n xss = false) :
    Calls Try.prog 19 #[.agg #[.int .i64 n, v]] w (RowC w []) := by
  have HC := Lib.hid (NetworkOk_c n lo hi v vs xss)
  obtain ⟨ao, g, cap, rfl, -, -, -⟩ := hv.rows
  have HV := Lib.hid hv
  obtain ⟨L, hlen⟩ : ∃ l, l = xss.length := ⟨_, rfl⟩
  rw [← hlen] at HV HC ⊢
  rw [hno] at HC
  clear hv hlen hno
  go_enter Try.func19, Try.ntmps19
  go_wp2_with fail
  obtain ⟨W1, hW1, c0, c1, hsz, hB1, -, -⟩ := box2 w (.int .i64 n) (.slice ao L cap) 30
  try rw [hW1]
  clear hW1
  refine (HC.out W1 (HV.out.below hB1 (by omega)) (by omega)).mono ?_
  rintro e w1 ⟨rfl, b1⟩
  go_wp2
  go_ret
  exact ⟨_, [], rfl, OwnR.nil _ _ _, hB1.trans (b1.mono (by omega))⟩
theorem HiddenFaults_i_c (n : Int) (lo hi : Nat) (v : Value) (vs : List Value) (xss : List (List Int)) (w : World) (hv : OwnR w lo hi v vs xss) (hhi : hi ≤ w.heap.size) :
    Calls Try.prog 19 #[.agg #[.int .i64 n, v]] w (RowC w (hidR n xss)) := by
  cases hok : netOk n xss
  · rw [show hidR n xss = [] by simp [hidR, hok]]
    exact HiddenFaults_i_no n lo hi v vs xss w hv hhi hok
  · have h1 := netOk_n hok
    obtain ⟨a, rfl⟩ : ∃ a : Nat, n = a := ⟨n.toNat, by omega⟩
    rw [show hidR a xss = faultsL (hidB a xss) xss.length by simp [hidR, hok]]
    exact HiddenFaults_i_yes a lo hi v vs xss w hv hhi hok
end Go.Proofs.Ytiodolbgapjmkaa
