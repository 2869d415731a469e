/- Whether a network is standard, or primitive: the program's tests, by their contracts. Conditions: the network is valid. -/
import Derived.Test.YtiodolbgapjmkaaGreatDoorNetOk
import Derived.Test.YtiodolbgapjmkaaGreatDoorNetBits
import Derived.Test.YtiodolbgapjmkaaGreatDoorMaskL
namespace Go.Proofs.YtiodolbgapjmkaaGreatDoor
open Go.RowKit
set_option maxRecDepth 100000
set_option linter.unusedVariables false
set_option linter.unusedSimpArgs false

/-- A comparator whose first wire is the greater one. -/
def downP (r : List Int) : Bool := decide (r.getD 1 0 < r.getD 0 0)
def stdB (xss : List (List Int)) : Bool := !xss.any downP
/-- A comparator of other wires than neighbors. -/
def farP (r : List Int) : Bool := r.getD 1 0 != r.getD 0 0 + 1
def primB (xss : List (List Int)) : Bool := stdB xss && !xss.any farP
theorem any_stop {P : List Int → Bool} {xss : List (List Int)} {k : Nat} (hk : k < xss.length) (h : P (xss.getD k []) = true) : xss.any P = true := by
  rw [List.any_eq_true]
  exact ⟨xss[k], List.getElem_mem hk, by simpa [List.getD, hk] using h⟩
theorem any_none {P : List Int → Bool} {xss : List (List Int)} (h : ∀ k, k < xss.length → P (xss.getD k []) = false) : xss.any P = false := by
  rw [List.any_eq_false]
  intro x hx
  obtain ⟨k, hk, rfl⟩ := List.getElem_of_mem hx
  have := h k hk
  rw [Bool.not_eq_true]
  simpa [List.getD, hk] using this
/-- A network held in a box, at the calls that only read it. -/
def RdC (n : Nat) (lo hi : Nat) (v : Value) (vs : List Value) (xss : List (List Int)) (W : World) : Prop := OwnR W lo hi v vs xss ∧ hi ≤ W.heap.size
end Go.Proofs.YtiodolbgapjmkaaGreatDoor
