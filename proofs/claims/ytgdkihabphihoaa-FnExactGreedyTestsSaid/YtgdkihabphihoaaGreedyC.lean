/- GreedyTests: both functions on all arguments, and the law. Conditions: none. -/
import Derived.Test.YtgdkihabphihoaaGreedyW

namespace Go.Proofs.Ytgdkihabphihoaa
open Go.RowKit
set_option maxRecDepth 100000
set_option linter.unusedVariables false

def greedyR (n : Int) (xss : List (List Int)) : List Int := if netOk n xss = true ∧ xss.length ≤ 20 then greedyL n.toNat xss else []
theorem greedyR_len (n : Int) (xss : List (List Int)) : (greedyR n xss).length ≤ 60 := by
  unfold greedyR
  split
  · rename_i h
    have h1 := greedyF_len xss n.toNat xss.length (3 * xss.length + 1) (fun _ _ => true)
    have h2 := faultsL_le (fun _ _ => true) xss.length
    have h3 := h.2
    unfold greedyL
    omega
  · simp
theorem GreedyTests_i_no (n : Int) (lo hi : Nat) (v : Value) (vs : List Value) (xss : List (List Int)) (w : World) (hv : OwnR w lo hi v vs xss) (hhi : hi ≤ w.heap.size) (hno : netOk n xss = false) :
    Calls Try.prog 21 #[.agg #[.int .i64 n, v]] w (IntC w []) := by
  have HC := Lib.hid (NetworkOk_c n lo hi v vs xss)
  obtain ⟨ao, g, cap, rfl, -, -, -⟩ := hv.rows
  have HV := Lib.hid hv
  obtain ⟨L, hlen⟩ : ∃ l, l = xss.length := ⟨_, rfl⟩
  rw [← hlen] at HV HC ⊢
  rw [hno] at HC
  clear hv hlen hno
  go_enter Try.func21, Try.ntmps21
  obtain ⟨W1, hW1, c0, c1, hsz, hB1, -, -⟩ := box2 w (.int .i64 n) (.slice ao L cap) 27
  go_wp2_with fail
  try rw [hW1]
  clear hW1
  refine (HC.out W1 (HV.out.below hB1 (by omega)) (by omega)).mono ?_
  rintro e w1 ⟨rfl, b1⟩
  go_wp2
  go_ret
  exact ⟨_, rfl, Own.nil _ _ _ _, hB1.trans (b1.mono (by omega))⟩
theorem GreedyTests_i_long (n : Int) (lo hi : Nat) (v : Value) (vs : List Value) (xss : List (List Int)) (w : World) (hv : OwnR w lo hi v vs xss) (hhi : hi ≤ w.heap.size) (hok : netOk n xss = true) (hl : ¬ xss.length ≤ 20) :
    Calls Try.prog 21 #[.agg #[.int .i64 n, v]] w (IntC w []) := by
  have HC := Lib.hid (NetworkOk_c n lo hi v vs xss)
  obtain ⟨ao, g, cap, rfl, -, -, -⟩ := hv.rows
  have HV := Lib.hid hv
  obtain ⟨L, hlen⟩ : ∃ l, l = xss.length := ⟨_, rfl⟩
  rw [← hlen] at HV HC hl ⊢
  rw [hok] at HC
  clear hv hlen hok
  go_enter Try.func21, Try.ntmps21
  obtain ⟨W1, hW1, c0, c1, hsz, hB1, -, -⟩ := box2 w (.int .i64 n) (.slice ao L cap) 27
  go_wp2_with fail
  try rw [hW1]
  clear hW1
  refine (HC.out W1 (HV.out.below hB1 (by omega)) (by omega)).mono ?_
  rintro e w1 ⟨rfl, b1⟩
  obtain ⟨d0, d1, z1⟩ := boxC b1 (by omega) c0 c1
  have h20 : (20 : Int) < L := by omega
  go_wp2
  go_ret
  exact ⟨_, rfl, Own.nil _ _ _ _, hB1.trans (b1.mono (by omega))⟩
theorem GreedyTests_i_c (n : Int) (lo hi : Nat) (v : Value) (vs : List Value) (xss : List (List Int)) (w : World) (hv : OwnR w lo hi v vs xss) (hhi : hi ≤ w.heap.size) :
    Calls Try.prog 21 #[.agg #[.int .i64 n, v]] w (IntC w (greedyR n xss)) := by
  cases hok : netOk n xss
  · rw [show greedyR n xss = [] by simp [greedyR, hok]]
    exact GreedyTests_i_no n lo hi v vs xss w hv hhi hok
  · by_cases hl : xss.length ≤ 20
    · have h1 := netOk_n hok
      obtain ⟨a, rfl⟩ : ∃ a : Nat, n = a := ⟨n.toNat, by omega⟩
      rw [show greedyR a xss = greedyL a xss by simp [greedyR, hok, hl]]
      exact GreedyTests_i_yes a lo hi v vs xss w hv hhi hok hl
    · rw [show greedyR n xss = [] by simp [greedyR, hl]]
      exact GreedyTests_i_long n lo hi v vs xss w hv hhi hok hl
end Go.Proofs.Ytgdkihabphihoaa
