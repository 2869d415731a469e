/- GreedyTests: both functions on all arguments, and the law. Conditions: none. -/
import Derived.Test.YtgdkihabphihoaaGreedyC
import Derived.Test.YtgdkihabphihoaaGreedyS
import Derived.Test.YtgdkihabphihoaaMGreedyTests
namespace Go.Proofs.Ytgdkihabphihoaa
open Go.RowKit
set_option maxRecDepth 100000
set_option linter.unusedVariables false

theorem GreedyTests_s_no (n : Int) (lo hi : Nat) (v : Value) (vs : List Value) (xss : List (List Int)) (w : World) (hv : OwnR w lo hi v vs xss) (hhi : hi ≤ w.heap.size) (hno : netOk n xss = false) :
    Calls Try.prog 20 #[.agg #[.int .i64 n, v]] w (IntC w []) := by
  have HC := Lib.hid (SNetworkOk_c n lo hi v vs xss)
  obtain ⟨ao, g, cap, rfl, -, -, -⟩ := hv.rows
  have HV := Lib.hid hv
  obtain ⟨L, hlen⟩ : ∃ l, l = xss.length := ⟨_, rfl⟩
  rw [← hlen] at HV HC ⊢
  rw [hno] at HC
  clear hv hlen hno
  go_enter Try.func20, Try.ntmps20
  obtain ⟨W1, hW1, c0, c1, hsz, hB1, -, -⟩ := box2 w (.int .i64 n) (.slice ao L cap) 27
  go_wp2_with fail
  try rw [hW1]
  clear hW1
  refine (HC.out W1 (HV.out.below hB1 (by omega)) (by omega)).mono ?_
  rintro e w1 ⟨rfl, b1⟩
  go_wp2
  go_ret
  exact ⟨_, rfl, Own.nil _ _ _ _, hB1.trans (b1.mono (by omega))⟩
theorem GreedyTests_s_long (n : Int) (lo hi : Nat) (v : Value) (vs : List Value) (xss : List (List Int)) (w : World) (hv : OwnR w lo hi v vs xss) (hhi : hi ≤ w.heap.size) (hok : netOk n xss = true) (hl : ¬ xss.length ≤ 20) :
    Calls Try.prog 20 #[.agg #[.int .i64 n, v]] w (IntC w []) := by
  have HC := Lib.hid (SNetworkOk_c n lo hi v vs xss)
  obtain ⟨ao, g, cap, rfl, -, -, -⟩ := hv.rows
  have HV := Lib.hid hv
  obtain ⟨L, hlen⟩ : ∃ l, l = xss.length := ⟨_, rfl⟩
  rw [← hlen] at HV HC hl ⊢
  rw [hok] at HC
  clear hv hlen hok
  go_enter Try.func20, Try.ntmps20
  obtain ⟨W1, hW1, c0, c1, hsz, hB1, -, -⟩ := box2 w (.int .i64 n) (.slice ao L cap) 27
  go_wp2_with fail
  try rw [hW1]
  clear hW1
  refine (HC.out W1 (HV.out.below hB1 (by omega)) (by omega)).mono ?_
  rintro e w1 ⟨rfl, b1⟩
  obtain ⟨d0, d1, z1⟩ := boxC b1 (by omega) c0 c1
  have h20 : (20 : Int) < L := by omega
  go_wp2
  go_ret
  exact ⟨_, rfl, Own.nil _ _ _ _, hB1.trans (b1.mono (by omega))⟩
theorem GreedyTests_s_c (n : Int) (lo hi : Nat) (v : Value) (vs : List Value) (xss : List (List Int)) (w : World) (hv : OwnR w lo hi v vs xss) (hhi : hi ≤ w.heap.size) :
    Calls Try.prog 20 #[.agg #[.int .i64 n, v]] w (IntC w (greedyR n xss)) := by
  cases hok : netOk n xss
  · rw [show greedyR n xss = [] by simp [greedyR, hok]]
    exact GreedyTests_s_no n lo hi v vs xss w hv hhi hok
  · by_cases hl : xss.length ≤ 20
    · have h1 := netOk_n hok
      obtain ⟨a, rfl⟩ : ∃ a : Nat, n = a := ⟨n.toNat, by omega⟩
      rw [show greedyR a xss = greedyL a xss by simp [greedyR, hok, hl]]
      exact GreedyTests_s_yes a lo hi v vs xss w hv hhi hok hl
    · rw [show greedyR n xss = [] by simp [greedyR, hl]]
      exact GreedyTests_s_long n lo hi v vs xss w hv hhi hok hl
theorem fnExactGreedyTests_walk (w : World) (a0 : Int) (u0 : Value) (us0 : List Value) (x0 : List (List Int)) (hu0 : RowsV w 0 w.heap.size u0 us0 x0) (hm0 : x0.length ≤ maxLen) (hn0 : ∀ xs ∈ x0, xs.length ≤ maxLen) :
    Calls Try.prog 4 #[.agg #[.int .i64 a0, u0]] w fun e w' => e = .returned (.bool true) ∧ Below w.heap.size w w' :=
  FnExactGreedyTests_core w a0 u0 us0 x0 hu0 hm0 hn0 (greedyR a0 x0) (by have := greedyR_len a0 x0; omega) (fun w l h v vs hv hh _ => GreedyTests_s_c a0 l h v vs x0 w hv hh) (fun w l h v vs hv hh _ => GreedyTests_i_c a0 l h v vs x0 w hv hh)
end Go.Proofs.Ytgdkihabphihoaa
