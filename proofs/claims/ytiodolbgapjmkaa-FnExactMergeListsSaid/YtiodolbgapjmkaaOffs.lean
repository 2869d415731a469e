/- How many numbers a network's rows have in all. Conditions: none. -/
import Derived.Test.YtiodolbgapjmkaaMark
namespace Go.Proofs.Ytiodolbgapjmkaa
open Go.RowKit

theorem offs_bound {xss : List (List Int)} (h1 : xss.length ≤ 1048576) (h2 : ∀ xs ∈ xss, xs.length ≤ 1048576) : offs xss xss.length ≤ 1099511627776 := by
  have : ∀ i, offs xss i ≤ 1048576 * i := by
    intro i
    induction i with
    | zero => simp [offs]
    | succ i ih =>
      by_cases hi : i < xss.length
      · rw [offs_succ xss i hi]
        have := h2 (xss.getD i []) (by simp [List.getD, List.getElem?_eq_getElem hi])
        omega
      · have : offs xss (i + 1) = offs xss i := by simp only [offs]; rw [List.take_of_length_le (by omega), List.take_of_length_le (by omega)]
        omega
  have := this xss.length
  omega
end Go.Proofs.Ytiodolbgapjmkaa
