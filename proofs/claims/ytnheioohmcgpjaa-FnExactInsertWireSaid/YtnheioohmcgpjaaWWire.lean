/- One more wire: both functions on all arguments, and the laws. Conditions: none. -/
import Derived.Test.YtnheioohmcgpjaaWire
import Derived.Test.YtnheioohmcgpjaaNetNo
import Derived.Test.YtnheioohmcgpjaaMInsertWire
namespace Go.Proofs.Ytnheioohmcgpjaa
open Go.RowKit
set_option maxRecDepth 100000
set_option linter.unusedVariables false

/-- The rows of a valid network are two each, and few. -/
theorem smallR_netOk {n : Int} {xss : List (List Int)} (h : netOk n xss = true) : smallR xss := by
  have hl := netOk_len h
  refine smallR_pairs (by omega) fun x hx => ?_
  obtain ⟨k, hk, rfl⟩ := List.getElem_of_mem hx
  obtain ⟨i, j, e, -⟩ := netOk_pair (n := n.toNat) (by rwa [Int.toNat_of_nonneg (by have := netOk_n h; omega)]) k hk
  have : xss[k] = xss.getD k [] := by simp [List.getD, hk]
  rw [this, e]
  simp
/-- What is handed back is a valid network or nothing. -/
def outB (n : Int) (xss : List (List Int)) (ok : Bool) : Bool := ok && netOk n xss
def outN (n : Int) (xss : List (List Int)) (ok : Bool) : Int := if outB n xss ok = true then n else 0
def outX (n : Int) (xss : List (List Int)) (ok : Bool) : List (List Int) := if outB n xss ok = true then xss else []
theorem outX_small (n : Int) (xss : List (List Int)) (ok : Bool) : smallR (outX n xss ok) := by
  unfold outX
  by_cases h : outB n xss ok = true
  · rw [if_pos h]
    unfold outB at h
    simp at h
    exact smallR_netOk h.2
  · rw [if_neg h]
    exact smallR_pairs (by simp) (by simp)
theorem out_no {w : World} (n : Int) (xss : List (List Int)) {e : Ending} {w' : World} (h : NetC w 0 [] false e w') : NetC w (outN n xss false) (outX n xss false) (outB n xss false) e w' := by
  simpa [outN, outX, outB] using h
theorem out_yes {w : World} (n : Int) (xss : List (List Int)) {e : Ending} {w' : World} (h : NetC w (if netOk n xss = true then n else 0) (if netOk n xss = true then xss else []) (netOk n xss) e w') : NetC w (outN n xss true) (outX n xss true) (outB n xss true) e w' := by
  simpa [outN, outX, outB] using h

theorem InsertWire_i_c (a : Int) (lo hi : Nat) (v : Value) (vs : List Value) (xss : List (List Int)) (w : World) (hv : OwnR w lo hi v vs xss) (hhi : hi ≤ w.heap.size) :
    Calls Try.prog 41 #[.agg #[.int .i64 a, v]] w (NetC w (outN (a + 1) (xss ++ insK a.toNat a.toNat) (netOk a xss)) (outX (a + 1) (xss ++ insK a.toNat a.toNat) (netOk a xss)) (outB (a + 1) (xss ++ insK a.toNat a.toNat) (netOk a xss))) := by
  by_cases hok : netOk a xss = true
  · obtain ⟨n, rfl⟩ : ∃ n : Nat, a = n := ⟨a.toNat, by have := netOk_n hok; omega⟩
    rw [hok]
    exact (InsertWire_i_yes n lo hi v vs xss w hv hhi hok).mono fun _ _ h => out_yes _ _ (by simpa using h)
  · rw [Bool.eq_false_iff.2 hok]
    exact (impl_InsertWire_no a lo hi v vs xss w hv hhi (Bool.eq_false_iff.2 hok)).mono fun _ _ h => out_no _ _ h
theorem InsertWire_s_c (a : Int) (lo hi : Nat) (v : Value) (vs : List Value) (xss : List (List Int)) (w : World) (hv : OwnR w lo hi v vs xss) (hhi : hi ≤ w.heap.size) :
    Calls Try.prog 40 #[.agg #[.int .i64 a, v]] w (NetC w (outN (a + 1) (xss ++ insK a.toNat a.toNat) (netOk a xss)) (outX (a + 1) (xss ++ insK a.toNat a.toNat) (netOk a xss)) (outB (a + 1) (xss ++ insK a.toNat a.toNat) (netOk a xss))) := by
  by_cases hok : netOk a xss = true
  · obtain ⟨n, rfl⟩ : ∃ n : Nat, a = n := ⟨a.toNat, by have := netOk_n hok; omega⟩
    rw [hok]
    exact (InsertWire_s_yes n lo hi v vs xss w hv hhi hok).mono fun _ _ h => out_yes _ _ (by simpa using h)
  · rw [Bool.eq_false_iff.2 hok]
    exact (spec_InsertWire_no a lo hi v vs xss w hv hhi (Bool.eq_false_iff.2 hok)).mono fun _ _ h => out_no _ _ h
theorem fnExactInsertWire_walk (w : World) (a0 : Int) (u0 : Value) (us0 : List Value) (x0 : List (List Int)) (hu : RowsV w 0 w.heap.size u0 us0 x0) (hm : x0.length ≤ maxLen) (hn : ∀ xs ∈ x0, xs.length ≤ maxLen) :
    Calls Try.prog 11 #[.agg #[.int .i64 a0, u0]] w fun e w' => e = .returned (.bool true) ∧ Below w.heap.size w w' :=
  FnExactInsertWire_core w a0 u0 us0 x0 hu hm hn _ _ _ (outX_small _ _ _) (fun w l h v vs hv hh _ => InsertWire_s_c a0 l h v vs x0 w hv hh) (fun w l h v vs hv hh _ => InsertWire_i_c a0 l h v vs x0 w hv hh)
end Go.Proofs.Ytnheioohmcgpjaa
