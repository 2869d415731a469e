/- What a function hands back that ends in a check of its network. Conditions: none. -/
import Derived.Test.YtiodolbgapjmkaaNetBits
import Derived.Test.YtiodolbgapjmkaaNetC
namespace Go.Proofs.Ytiodolbgapjmkaa
open Go.RowKit
set_option maxRecDepth 100000

/-- The rows of a valid network are two each, and few. -/
theorem smallR_netOk {n : Int} {xss : List (List Int)} (h : netOk n xss = true) : smallR xss := by
  have hl := netOk_len h
  refine smallR_pairs (by omega) fun x hx => ?_
  obtain ⟨k, hk, rfl⟩ := List.getElem_of_mem hx
  obtain ⟨i, j, e, -⟩ := netOk_pair (n := n.toNat) (by rwa [Int.toNat_of_nonneg (by have := netOk_n h; omega)]) k hk
  have : xss[k] = xss.getD k [] := by simp [List.getD, hk]
  rw [this, e]
  simp
/-- What is handed back is a valid network or nothing. -/
def outB (n : Int) (xss : List (List Int)) (ok : Bool) : Bool := ok && netOk n xss
def outN (n : Int) (xss : List (List Int)) (ok : Bool) : Int := if outB n xss ok = true then n else 0
def outX (n : Int) (xss : List (List Int)) (ok : Bool) : List (List Int) := if outB n xss ok = true then xss else []
theorem outX_small (n : Int) (xss : List (List Int)) (ok : Bool) : smallR (outX n xss ok) := by
  unfold outX
  by_cases h : outB n xss ok = true
  · rw [if_pos h]
    unfold outB at h
    simp at h
    exact smallR_netOk h.2
  · rw [if_neg h]
    exact smallR_pairs (by simp) (by simp)
theorem out_no {w : World} (n : Int) (xss : List (List Int)) {e : Ending} {w' : World} (h : NetC w 0 [] false e w') : NetC w (outN n xss false) (outX n xss false) (outB n xss false) e w' := by
  simpa [outN, outX, outB] using h
theorem out_yes {w : World} (n : Int) (xss : List (List Int)) {e : Ending} {w' : World} (h : NetC w (if netOk n xss = true then n else 0) (if netOk n xss = true then xss else []) (netOk n xss) e w') : NetC w (outN n xss true) (outX n xss true) (outB n xss true) e w' := by
  simpa [outN, outX, outB] using h

end Go.Proofs.Ytiodolbgapjmkaa
