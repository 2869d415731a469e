/- What it means that a call hands back a network of its own memory, and a law over two calls that do: it returns true. Conditions: none. -/
import Derived.Test.YtiodolbgapjmkaaEq
import Derived.Test.YtiodolbgapjmkaaMark
import Derived.Test.YtiodolbgapjmkaaApp
namespace Go.Proofs.Ytiodolbgapjmkaa
open Go.RowKit
set_option maxRecDepth 100000

/-- Rows that are few and short. -/
def smallR (xss : List (List Int)) : Prop := xss.length ≤ 4611686018427387 ∧ (∀ xs ∈ xss, xs.length ≤ 4611686018427387) ∧ offs xss xss.length ≤ 4611686018427387

theorem smallR_pairs {xss : List (List Int)} (h1 : xss.length ≤ 1000) (h2 : ∀ xs ∈ xss, xs.length ≤ 1000) : smallR xss := by
  refine ⟨by omega, fun xs hx => by have := h2 xs hx; omega, ?_⟩
  have : ∀ i, offs xss i ≤ 1000 * i := by
    intro i
    induction i with
    | zero => simp [offs]
    | succ i ih =>
      by_cases hi : i < xss.length
      · rw [offs_succ xss i hi]
        have := h2 (xss.getD i []) (by simp [List.getD, List.getElem?_eq_getElem hi])
        omega
      · have : offs xss (i + 1) = offs xss i := by simp only [offs]; rw [List.take_of_length_le (by omega), List.take_of_length_le (by omega)]
        omega
  have := this xss.length
  omega
end Go.Proofs.Ytiodolbgapjmkaa
