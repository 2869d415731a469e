/- The faults that no mask tells: both functions on all arguments, and the law. Conditions: none. -/
import Derived.Test.YtbnldajkogmadaaFaults
import Derived.Test.YtbnldajkogmadaaTestsC
import Derived.Test.YtbnldajkogmadaaMHiddenFaults
namespace Go.Proofs.Ytbnldajkogmadaa
open Go.RowKit
set_option maxRecDepth 100000
set_option linter.unusedVariables false

theorem fltB_mk {n : Nat} {xss : List (List Int)} (h : netOk n xss = true) {i k : Nat} (hi : i < xss.length) (hk : k ≤ 2) : fltB n xss i k = true := by
  simp only [fltB, h, Bool.true_and, Bool.and_eq_true]
  exact ⟨inB_mk (by omega), inB_mk (by omega)⟩
/-- No mask tells the fault. -/
def hidB (n : Nat) (xss : List (List Int)) (i k : Nat) : Bool := decide ((testsK xss i k (2 ^ n)).length = 0)
theorem hid1_c (n : Nat) (lo hi : Nat) (ao : Option Addr) (L cap : Nat) (vs : List Value) (xss : List (List Int)) (i k b : Nat) (w : World) (hv : OwnR w lo hi (.slice ao L cap) vs xss) (hhi : hi ≤ w.heap.size) (hok : netOk n xss = true) (hi2 : i < xss.length) (hk : k ≤ 2)
    (c0 : w.cell? ⟨b, 0, none⟩ = some (.int .i64 n)) (c1 : w.cell? ⟨b, 1, none⟩ = some (.slice ao L cap)) :
    Calls Try.prog 77 #[.int .i64 i, .int .i64 k, .pointer (some ⟨b, 0, none⟩)] w fun e w' => e = .returned (.bool (hidB n xss i k)) ∧ Below w.heap.size w w' := by
  have HT := Lib.hid (tests_c n lo hi _ vs xss i k w hv hhi hok (fltB_mk hok hi2 hk) (by omega))
  have hB : hidB n xss i k = decide ((testsK xss i k (2 ^ n)).length = 0) := rfl
  obtain ⟨R, hR⟩ : ∃ R, R = testsK xss i k (2 ^ n) := ⟨_, rfl⟩
  rw [← hR] at HT hB
  obtain ⟨rl, hrl⟩ : ∃ r, r = R.length := ⟨_, rfl⟩
  have HRL := Lib.hid hrl
  have hB2 : ((rl : Int) == 0) = hidB n xss i k := by rw [hB, ← hrl, Bool.eq_iff_iff, beq_iff_eq, decide_eq_true_eq]; omega
  obtain ⟨q, hq⟩ : ∃ q, q = hidB n xss i k := ⟨_, rfl⟩
  rw [← hq] at hB2 ⊢
  clear hB hR hrl hq hv
  go_enter Try.func77, Try.ntmps77
  go_wp2_with fail
  refine HT.out.mono ?_
  rintro e w2 ⟨u, rfl, o2, b2⟩
  obtain ⟨ao2, g2, cap2, e2, -, -, -⟩ := o2.view
  rw [← HRL.out] at e2
  subst e2
  clear o2
  go_wp2
  go_ret
  exact ⟨rfl, b2⟩
set_option maxHeartbeats 1000000 in
theorem HiddenFaults_i_yes (n : Nat) (lo hi : Nat) (v : Value) (vs : List Value) (xss : List (List Int)) (w : World) (hv : OwnR w lo hi v vs xss) (hhi : hi ≤ w.heap.size) (hok : netOk n xss = true) :
    Calls Try.prog 35 #[.agg #[.int .i64 n, v]] w (RowC w (faultsL (hidB n xss) xss.length)) := by
  have HC : Hid (∀ w, OwnR w lo hi v vs xss → hi ≤ w.heap.size → Calls Try.prog 57 #[.agg #[.int .i64 n, v]] w fun e w' => e = .returned (.bool true) ∧ Below w.heap.size w w') := fun w h1 h2 => by
    have := NetworkOk_c n lo hi v vs xss w h1 h2
    rwa [hok] at this
  have hl60 := netOk_len hok
  obtain ⟨R, hR⟩ : ∃ R, R = faultsL (hidB n xss) xss.length := ⟨_, rfl⟩
  have HRR := Lib.hid hR
  rw [← hR]
  obtain ⟨ao, g, cap, rfl, -, -, -⟩ := hv.rows
  have HV := Lib.hid hv
  obtain ⟨L, hlen⟩ : ∃ l, l = xss.length := ⟨_, rfl⟩
  have HLEN := Lib.hid hlen
  rw [← hlen] at HV HC hl60 ⊢
  have HOK := Lib.hid hok
  clear hv hlen hok hR
  go_enter Try.func35, Try.ntmps35
  go_wp2_with fail
  obtain ⟨W1, hW1, c0, c1, hsz, hB1, -, -⟩ := box2 w (.int .i64 n) (.slice ao L cap) 27
  try rw [hW1]
  clear hW1
  refine (HC.out W1 (HV.out.below hB1 (by omega)) (by omega)).mono ?_
  rintro e w1 ⟨rfl, b1⟩
  obtain ⟨d0, d1, z1⟩ := boxC b1 (by omega) c0 c1
  have zz := b1.size
  have HVb := Lib.hid ((HV.out.below hB1 (by omega)).below b1 (by omega))
  have HB1 : Hid (Below w.heap.size w w1) := hB1.trans (b1.mono (by omega))
  have hle1 : hi ≤ w1.heap.size := by omega
  clear c0 c1 HV HC hB1 b1 hsz zz
  go_wp2_with fail
  refine (faults_hid_c (hidB n xss) n lo hi _ vs xss w.heap.size w1 HVb.out hle1 (by rw [← HLEN.out]; omega) (fun w' hb i k hi2 hk => ?_)).mono ?_
  · obtain ⟨e0, e1, -⟩ := boxC hb z1 d0 d1
    exact hid1_c n lo hi ao L cap vs xss i k w.heap.size w' (HVb.out.below hb hle1) (by have := hb.size; omega) HOK.out hi2 hk e0 e1
  rintro e w2 ⟨u, us, rfl, o2, b2⟩
  have O2 := Lib.hid o2
  have z2 := b2.size
  obtain ⟨ao2, g2, cap2, e2, -, -, -⟩ := o2.rows
  obtain ⟨rl, hrl⟩ : ∃ r, r = (faultsL (hidB n xss) xss.length).length := ⟨_, rfl⟩
  rw [← hrl] at e2
  subst e2
  clear o2 hrl
  go_wp2
  go_ret
  exact ⟨_, us, rfl, by rw [HRR.out]; exact O2.out.mono (by omega) (Nat.le_refl _), HB1.out.trans (b2.mono (by omega))⟩
set_option maxHeartbeats 1000000 in
theorem HiddenFaults_s_yes (n : Nat) (lo hi : Nat) (v : Value) (vs : List Value) (xss : List (List Int)) (w : World) (hv : OwnR w lo hi v vs xss) (hhi : hi ≤ w.heap.size) (hok : netOk n xss = true) :
    Calls Try.prog 34 #[.agg #[.int .i64 n, v]] w (RowC w (faultsL (hidB n xss) xss.length)) := by
  have HC : Hid (∀ w, OwnR w lo hi v vs xss → hi ≤ w.heap.size → Calls Try.prog 52 #[.agg #[.int .i64 n, v]] w fun e w' => e = .returned (.bool true) ∧ Below w.heap.size w w') := fun w h1 h2 => by
    have := SNetworkOk_c n lo hi v vs xss w h1 h2
    rwa [hok] at this
  have hl60 := netOk_len hok
  have HTS : Hid (∀ i k : Nat, i < xss.length → k ≤ 2 → decide ((testsR n xss i k).length = 0) = hidB n xss i k) := fun i k h1 h2 => by
    rw [hidB, testsR, if_pos (fltB_mk hok h1 h2)]
    simp
  obtain ⟨B, hBB⟩ : ∃ B, B = hidB n xss := ⟨_, rfl⟩
  rw [← hBB] at HTS ⊢
  clear hBB
  obtain ⟨R, hR⟩ : ∃ R, R = faultsL B xss.length := ⟨_, rfl⟩
  have HRR := Lib.hid hR
  rw [← hR]
  obtain ⟨ao, g, cap, rfl, -, -, -⟩ := hv.rows
  have HV := Lib.hid hv
  obtain ⟨L, hlen⟩ : ∃ l, l = xss.length := ⟨_, rfl⟩
  have HLEN := Lib.hid hlen
  rw [← hlen] at HV HC hl60 HTS HRR ⊢
  have HOK := Lib.hid hok
  clear hv hlen hok hR
  go_enter Try.func34, Try.ntmps34
  go_wp2_with fail
  obtain ⟨W1, hW1, c0, c1, hsz, hB1, -, -⟩ := box2 w (.int .i64 n) (.slice ao L cap) 27
  try rw [hW1]
  clear hW1
  refine (HC.out W1 (HV.out.below hB1 (by omega)) (by omega)).mono ?_
  rintro e w1 ⟨rfl, b1⟩
  obtain ⟨d0, d1, z1⟩ := boxC b1 (by omega) c0 c1
  have zz := b1.size
  have HVb := Lib.hid ((HV.out.below hB1 (by omega)).below b1 (by omega))
  have HB1 : Hid (Below w.heap.size w w1) := hB1.trans (b1.mono (by omega))
  have hle1 : hi ≤ w1.heap.size := by omega
  clear c0 c1 HV HC hB1 b1 hsz zz
  go_wp2_with fail
  obtain ⟨W0, hW0⟩ : ∃ W, W = w1.alloc (.cells #[] 31) := ⟨_, rfl⟩
  have hi0 : Hid (OwnR W0 w1.heap.size W0.heap.size (.slice (some ⟨w1.heap.size, 0, none⟩) 0 0) [] []) := by show OwnR _ _ _ _ _ _; rw [hW0]; exact (ownR_empty w1).mono (Nat.le_refl _) (by simp)
  have hb0 : Below w1.heap.size w1 W0 := by rw [hW0]; exact (Below.refl _ _).alloc (Nat.le_refl _) _
  try rw [← hW0]
  clear hW0
  have hz0 := hb0.size
  go_loopw [3, 13] (fun v i wr => ∃ k : Nat, k ≤ L ∧ i = .int .i64 k ∧ ∃ vs, OwnR wr w1.heap.size wr.heap.size v vs (faultsL B k) ∧ Below w1.heap.size w1 wr) (fun _ i _ => L - (intOf i).toNat)
  case atStart => exact ⟨0, Nat.zero_le _, rfl, [], by simpa [faultsL] using hi0.out, hb0⟩
  case round =>
    obtain ⟨k, hk, rfl, vk, hR, hb⟩ := hrel
    have HR := Lib.hid hR
    obtain ⟨e0, e1, hzr⟩ := boxC hb z1 d0 d1
    have HBk := Lib.hid hb
    clear hb hR hi0 hb0
    by_cases hlt : k < L
    · obtain ⟨wo, rfl⟩ : ∃ wo : World, wo = wr := ⟨_, rfl⟩
      go_wp2_with fail
      go_loopw [3, 5] (fun v t wr => ∃ j : Nat, j ≤ 3 ∧ t = .int .i64 j ∧ ∃ vs, OwnR wr w1.heap.size wr.heap.size v vs (faultsL B k ++ rowF B k j) ∧ Below w1.heap.size w1 wr) (fun _ t _ => 3 - (intOf t).toNat)
      case atStart => exact ⟨0, by omega, rfl, vk, by simpa [rowF] using HR.out, HBk.out⟩
      case round =>
        obtain ⟨j, hj, rfl, vj, hR, hb⟩ := hrel
        clear e0 e1 hzr HR
        obtain ⟨c0, c1, hzr⟩ := boxC hb z1 d0 d1
        have HR := Lib.hid hR
        have hzz := hb.size
        have hle : hi ≤ wr.heap.size := by omega
        have HVr := Lib.hid (HVb.out.below hb (by omega))
        have HB2 := Lib.hid hb
        have HLN : Hid ((faultsL B k ++ rowF B k j).length ≤ 1000000) := by show _ ≤ _; rw [List.length_append]; have := faultsL_le B k; have := rowF_le B k j; omega
        clear hb hR
        by_cases hj3 : j < 3
        · have hj2 : (j : Int) ≤ 2 := by omega
          have hj2' : (j : Int) < 3 := by omega
          have hj22 : j ≤ 2 := by omega
          cases hq : B k j
          · have HT := Lib.hid (rowF_miss hq)
            have hq2 := HTS.out k j hlt hj22
            rw [hq] at hq2
            have HT2 := Lib.hid (TestsFor_s_c n lo hi _ vs xss k j wr HVr.out hle)
            obtain ⟨R2, hR2⟩ : ∃ R, R = testsR n xss k j := ⟨_, rfl⟩
            rw [← hR2] at hq2 HT2
            obtain ⟨rl, hrl⟩ : ∃ r, r = R2.length := ⟨_, rfl⟩
            have HRL := Lib.hid hrl
            rw [← hrl] at hq2
            have hz9 : ((rl : Int) == 0) = false := by rw [← hq2, Bool.eq_iff_iff, beq_iff_eq, decide_eq_true_eq]; omega
            clear hq hq2 hR2 hrl
            go_wp2_with fail
            refine HT2.out.mono ?_
            rintro e w2 ⟨u2, rfl, o2, b2⟩
            obtain ⟨ao2, g2, cap2, e2, -, -, -⟩ := o2.view
            rw [← HRL.out] at e2
            subst e2
            clear o2
            have zw2 := b2.size
            have HR2 := Lib.hid ((HR.out.later b2).mono (Nat.le_refl _) b2.size)
            go_wp2
            go_roundw
            case rel => exact ⟨j + 1, by omega, by go_num, vj, by rw [HT.out]; exact HR2.out, HB2.out.trans (b2.mono (by omega))⟩
            case measure => simp [intOf]; omega
          · have HT := Lib.hid (rowF_hit hq)
            have hq2 := HTS.out k j hlt hj22
            rw [hq] at hq2
            have HT2 := Lib.hid (TestsFor_s_c n lo hi _ vs xss k j wr HVr.out hle)
            obtain ⟨R2, hR2⟩ : ∃ R, R = testsR n xss k j := ⟨_, rfl⟩
            rw [← hR2] at hq2 HT2
            obtain ⟨rl, hrl⟩ : ∃ r, r = R2.length := ⟨_, rfl⟩
            have HRL := Lib.hid hrl
            rw [← hrl] at hq2
            have hz9 : ((rl : Int) == 0) = true := by rw [← hq2, Bool.eq_iff_iff, beq_iff_eq, decide_eq_true_eq]; omega
            clear hq hq2 hR2 hrl
            go_wp2_with fail
            refine HT2.out.mono ?_
            rintro e w2 ⟨u2, rfl, o2, b2⟩
            obtain ⟨ao2, g2, cap2, e2, -, -, -⟩ := o2.view
            rw [← HRL.out] at e2
            subst e2
            clear o2
            have zw2 := b2.size
            have zw3 : w1.heap.size ≤ w2.heap.size := by omega
            have HR2 := Lib.hid ((HR.out.later b2).mono (Nat.le_refl _) b2.size)
            go_wp2_with (at_builtin; refine wpList_app_pair rfl (.tmp 26) (.tmp 30) rfl w2 (k : Int) (j : Int) w1.heap.size _ vj (faultsL B k ++ rowF B k j) HR2.out zw3 HLN.out rfl rfl ?_; intro g5 L5 cap5 w5 vs5 hL5 o5 b5 z5; have O5 := Lib.hid o5; clear o5)
            go_roundw
            case rel => exact ⟨j + 1, by omega, by go_num, vs5, by rw [HT.out, ← List.append_assoc]; exact O5.out, HB2.out.trans ((b2.mono (by omega)).trans b5)⟩
            case measure => simp [intOf]; omega
        · have hj2 : ¬ (j : Int) ≤ 2 := by omega
          have hj2' : ¬ (j : Int) < 3 := by omega
          have HE : Hid (j = 3) := by show j = 3; omega
          go_wp2
          go_roundw
          case rel => exact ⟨k + 1, by omega, by go_num, vj, by rw [faultsL_succ, ← HE.out]; exact HR.out, HB2.out⟩
          case measure => simp [intOf]; omega
    · have HE : Hid (k = L) := by show k = L; omega
      go_wp2
      go_ret
      exact ⟨_, vk, rfl, by rw [HRR.out, ← HE.out]; exact HR.out.mono (by have := HB1.out.size; omega) (Nat.le_refl _), HB1.out.trans (HBk.out.mono (by have := HB1.out.size; omega))⟩
/-- The faults that no mask tells. -/
def hidR (n : Int) (xss : List (List Int)) : List (List Int) := if netOk n xss = true then faultsL (hidB n.toNat xss) xss.length else []
theorem hidR_small (n : Int) (xss : List (List Int)) : smallR (hidR n xss) := by
  unfold hidR
  split
  · rename_i h
    have := netOk_len h
    exact smallR_pairs (by have := faultsL_le (hidB n.toNat xss) xss.length; omega) (fun xs hx => by have := faultsL_two _ _ xs hx; omega)
  · exact smallR_pairs (by simp) (by simp)
theorem HiddenFaults_i_no (n : Int) (lo hi : Nat) (v : Value) (vs : List Value) (xss : List (List Int)) (w : World) (hv : OwnR w lo hi v vs xss) (hhi : hi ≤ w.heap.size) (hno : netOk n xss = false) :
    Calls Try.prog 35 #[.agg #[.int .i64 n, v]] w (RowC w []) := by
  have HC := Lib.hid (NetworkOk_c n lo hi v vs xss)
  obtain ⟨ao, g, cap, rfl, -, -, -⟩ := hv.rows
  have HV := Lib.hid hv
  obtain ⟨L, hlen⟩ : ∃ l, l = xss.length := ⟨_, rfl⟩
  rw [← hlen] at HV HC ⊢
  rw [hno] at HC
  clear hv hlen hno
  go_enter Try.func35, Try.ntmps35
  go_wp2_with fail
  obtain ⟨W1, hW1, c0, c1, hsz, hB1, -, -⟩ := box2 w (.int .i64 n) (.slice ao L cap) 27
  try rw [hW1]
  clear hW1
  refine (HC.out W1 (HV.out.below hB1 (by omega)) (by omega)).mono ?_
  rintro e w1 ⟨rfl, b1⟩
  go_wp2
  go_ret
  exact ⟨_, [], rfl, OwnR.nil _ _ _, hB1.trans (b1.mono (by omega))⟩
theorem HiddenFaults_i_c (n : Int) (lo hi : Nat) (v : Value) (vs : List Value) (xss : List (List Int)) (w : World) (hv : OwnR w lo hi v vs xss) (hhi : hi ≤ w.heap.size) :
    Calls Try.prog 35 #[.agg #[.int .i64 n, v]] w (RowC w (hidR n xss)) := by
  cases hok : netOk n xss
  · rw [show hidR n xss = [] by simp [hidR, hok]]
    exact HiddenFaults_i_no n lo hi v vs xss w hv hhi hok
  · have h1 := netOk_n hok
    obtain ⟨a, rfl⟩ : ∃ a : Nat, n = a := ⟨n.toNat, by omega⟩
    rw [show hidR a xss = faultsL (hidB a xss) xss.length by simp [hidR, hok]]
    exact HiddenFaults_i_yes a lo hi v vs xss w hv hhi hok
theorem HiddenFaults_s_no (n : Int) (lo hi : Nat) (v : Value) (vs : List Value) (xss : List (List Int)) (w : World) (hv : OwnR w lo hi v vs xss) (hhi : hi ≤ w.heap.size) (hno : netOk n xss = false) :
    Calls Try.prog 34 #[.agg #[.int .i64 n, v]] w (RowC w []) := by
  have HC := Lib.hid (SNetworkOk_c n lo hi v vs xss)
  obtain ⟨ao, g, cap, rfl, -, -, -⟩ := hv.rows
  have HV := Lib.hid hv
  obtain ⟨L, hlen⟩ : ∃ l, l = xss.length := ⟨_, rfl⟩
  rw [← hlen] at HV HC ⊢
  rw [hno] at HC
  clear hv hlen hno
  go_enter Try.func34, Try.ntmps34
  go_wp2_with fail
  obtain ⟨W1, hW1, c0, c1, hsz, hB1, -, -⟩ := box2 w (.int .i64 n) (.slice ao L cap) 27
  try rw [hW1]
  clear hW1
  refine (HC.out W1 (HV.out.below hB1 (by omega)) (by omega)).mono ?_
  rintro e w1 ⟨rfl, b1⟩
  go_wp2
  go_ret
  exact ⟨_, [], rfl, OwnR.nil _ _ _, hB1.trans (b1.mono (by omega))⟩
theorem HiddenFaults_s_c (n : Int) (lo hi : Nat) (v : Value) (vs : List Value) (xss : List (List Int)) (w : World) (hv : OwnR w lo hi v vs xss) (hhi : hi ≤ w.heap.size) :
    Calls Try.prog 34 #[.agg #[.int .i64 n, v]] w (RowC w (hidR n xss)) := by
  cases hok : netOk n xss
  · rw [show hidR n xss = [] by simp [hidR, hok]]
    exact HiddenFaults_s_no n lo hi v vs xss w hv hhi hok
  · have h1 := netOk_n hok
    obtain ⟨a, rfl⟩ : ∃ a : Nat, n = a := ⟨n.toNat, by omega⟩
    rw [show hidR a xss = faultsL (hidB a xss) xss.length by simp [hidR, hok]]
    exact HiddenFaults_s_yes a lo hi v vs xss w hv hhi hok
theorem fnExactHiddenFaults_walk (w : World) (a0 : Int) (u0 : Value) (us0 : List Value) (x0 : List (List Int)) (hu : RowsV w 0 w.heap.size u0 us0 x0) (hm : x0.length ≤ maxLen) (hn : ∀ xs ∈ x0, xs.length ≤ maxLen) :
    Calls Try.prog 9 #[.agg #[.int .i64 a0, u0]] w fun e w' => e = .returned (.bool true) ∧ Below w.heap.size w w' :=
  FnExactHiddenFaults_core w a0 u0 us0 x0 hu hm hn (hidR a0 x0) (hidR_small a0 x0) (fun w l h v vs hv hh _ => HiddenFaults_s_c a0 l h v vs x0 w hv hh) (fun w l h v vs hv hh _ => HiddenFaults_i_c a0 l h v vs x0 w hv hh)
end Go.Proofs.Ytbnldajkogmadaa
