/- One more wire: both functions on all arguments, and the laws. Conditions: none. -/
import Derived.Test.YtnheioohmcgpjaaSelect
import Derived.Test.YtnheioohmcgpjaaNetNo
import Derived.Test.YtnheioohmcgpjaaOut
import Derived.Test.YtnheioohmcgpjaaMSelectWire
namespace Go.Proofs.Ytnheioohmcgpjaa
open Go.RowKit
set_option maxRecDepth 100000
set_option linter.unusedVariables false

theorem SelectWire_i_c (a : Int) (lo hi : Nat) (v : Value) (vs : List Value) (xss : List (List Int)) (w : World) (hv : OwnR w lo hi v vs xss) (hhi : hi ≤ w.heap.size) :
    Calls Try.prog 29 #[.agg #[.int .i64 a, v]] w (NetC w (outN (a + 1) (selX a.toNat xss) (netOk a xss)) (outX (a + 1) (selX a.toNat xss) (netOk a xss)) (outB (a + 1) (selX a.toNat xss) (netOk a xss))) := by
  by_cases hok : netOk a xss = true
  · obtain ⟨n, rfl⟩ : ∃ n : Nat, a = n := ⟨a.toNat, by have := netOk_n hok; omega⟩
    rw [hok]
    exact (SelectWire_i_yes n lo hi v vs xss w hv hhi hok).mono fun _ _ h => out_yes _ _ (by simpa using h)
  · rw [Bool.eq_false_iff.2 hok]
    exact (impl_SelectWire_no a lo hi v vs xss w hv hhi (Bool.eq_false_iff.2 hok)).mono fun _ _ h => out_no _ _ h
theorem SelectWire_s_c (a : Int) (lo hi : Nat) (v : Value) (vs : List Value) (xss : List (List Int)) (w : World) (hv : OwnR w lo hi v vs xss) (hhi : hi ≤ w.heap.size) :
    Calls Try.prog 28 #[.agg #[.int .i64 a, v]] w (NetC w (outN (a + 1) (selX a.toNat xss) (netOk a xss)) (outX (a + 1) (selX a.toNat xss) (netOk a xss)) (outB (a + 1) (selX a.toNat xss) (netOk a xss))) := by
  by_cases hok : netOk a xss = true
  · obtain ⟨n, rfl⟩ : ∃ n : Nat, a = n := ⟨a.toNat, by have := netOk_n hok; omega⟩
    rw [hok]
    exact (SelectWire_s_yes n lo hi v vs xss w hv hhi hok).mono fun _ _ h => out_yes _ _ (by simpa using h)
  · rw [Bool.eq_false_iff.2 hok]
    exact (spec_SelectWire_no a lo hi v vs xss w hv hhi (Bool.eq_false_iff.2 hok)).mono fun _ _ h => out_no _ _ h
theorem fnExactSelectWire_walk (w : World) (a0 : Int) (u0 : Value) (us0 : List Value) (x0 : List (List Int)) (hu : RowsV w 0 w.heap.size u0 us0 x0) (hm : x0.length ≤ maxLen) (hn : ∀ xs ∈ x0, xs.length ≤ maxLen) :
    Calls Try.prog 7 #[.agg #[.int .i64 a0, u0]] w fun e w' => e = .returned (.bool true) ∧ Below w.heap.size w w' :=
  FnExactSelectWire_core w a0 u0 us0 x0 hu hm hn _ _ _ (outX_small _ _ _) (fun w l h v vs hv hh _ => SelectWire_s_c a0 l h v vs x0 w hv hh) (fun w l h v vs hv hh _ => SelectWire_i_c a0 l h v vs x0 w hv hh)
end Go.Proofs.Ytnheioohmcgpjaa
