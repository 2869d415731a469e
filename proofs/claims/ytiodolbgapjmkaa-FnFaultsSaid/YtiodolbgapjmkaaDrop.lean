/- A network without a comparator. Conditions: the network is valid. -/
import Derived.Test.YtiodolbgapjmkaaRenamed
namespace Go.Proofs.Ytiodolbgapjmkaa
open Go.RowKit
set_option maxRecDepth 100000
set_option linter.unusedVariables false
set_option linter.unusedSimpArgs false

theorem erase_snoc {α : Type} {l : List α} {x : α} {k : Nat} (h : l.length ≠ k) : (l ++ [x]).eraseIdx k = l.eraseIdx k ++ [x] := by
  by_cases hk : k < l.length
  · rw [List.eraseIdx_append_of_lt_length hk]
  · rw [List.eraseIdx_append_of_length_le (by omega), List.eraseIdx_of_length_le (l := l) (by omega)]
    congr 1
    exact List.eraseIdx_of_length_le (by simp; omega)
theorem erase_last {α : Type} {l : List α} {x : α} {k : Nat} (h : l.length = k) : (l ++ [x]).eraseIdx k = l.eraseIdx k := by
  rw [List.eraseIdx_append_of_length_le (by omega), List.eraseIdx_of_length_le (l := l) (by omega)]
  simp [h]

end Go.Proofs.Ytiodolbgapjmkaa
