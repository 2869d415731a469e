/- Sorted lists of ints: the list sorted, as plain Lean, and what the walks of insertion and merging need of it. Conditions: none. -/
import Derived.Test.YtiodolbgapjmkaaGreatDoorZero
namespace Go.Proofs.YtiodolbgapjmkaaGreatDoor
open Go.RowKit
set_option linter.unusedVariables false

/-- The list in order. -/
def sortI (l : List Int) : List Int := l.mergeSort (fun x y => decide (x ≤ y))
theorem sortI_perm (l : List Int) : (sortI l).Perm l := List.mergeSort_perm l _
theorem sortI_up (l : List Int) : (sortI l).Pairwise (· ≤ ·) := by
  have h := List.pairwise_mergeSort (le := fun x y : Int => decide (x ≤ y)) (by intro a b c; simp; omega) (by intro a b; simp; omega) l
  exact h.imp fun h => by simpa using h
theorem sortI_len (l : List Int) : (sortI l).length = l.length := (sortI_perm l).length_eq
theorem perm_up_eq : ∀ {a b : List Int}, a.Perm b → a.Pairwise (· ≤ ·) → b.Pairwise (· ≤ ·) → a = b
  | [], b, hp, _, _ => by rw [List.nil_perm] at hp; exact hp.symm
  | x :: a, b, hp, ha, hb => by
    cases b with
    | nil => rw [List.perm_nil] at hp; cases hp
    | cons y b =>
      have h1 := (List.pairwise_cons.1 ha).1
      have h2 := (List.pairwise_cons.1 hb).1
      have e : x = y := by
        have hx : x ∈ y :: b := hp.mem_iff.1 (List.mem_cons_self ..)
        have hy : y ∈ x :: a := hp.mem_iff.2 (List.mem_cons_self ..)
        rcases List.mem_cons.1 hx with h | h
        · exact h
        · rcases List.mem_cons.1 hy with h' | h'
          · exact h'.symm
          · have := h1 y h'; have := h2 x h; omega
      subst e
      rw [perm_up_eq (List.perm_cons x |>.1 hp) (List.pairwise_cons.1 ha).2 (List.pairwise_cons.1 hb).2]
theorem sortI_eq {a l : List Int} (hp : a.Perm l) (h : a.Pairwise (· ≤ ·)) : sortI l = a :=
  perm_up_eq ((sortI_perm l).trans hp.symm) (sortI_up l) h
theorem rises_up {l : List Int} : risesB l = true ↔ l.Pairwise (· ≤ ·) := by
  rw [risesB_iff, List.pairwise_iff_getElem]
  constructor
  · intro h i j hi hj hij
    have key : ∀ d, i + d < l.length → l.getD i 0 ≤ l.getD (i + d) 0 := by
      intro d
      induction d with
      | zero => intro _; exact Int.le_refl _
      | succ d ih => intro hd; have := ih (by omega); have := h (i + d) (by omega); rw [show i + (d + 1) = i + d + 1 by omega]; omega
    have := key (j - i) (by omega)
    rw [show i + (j - i) = j by omega] at this
    simpa [List.getD, hi, hj] using this
  · intro h i hi
    have := h i (i + 1) (by omega) hi (by omega)
    simpa [List.getD, hi, show i < l.length by omega] using this
theorem rises_sortI (l : List Int) : risesB (sortI l) = true := rises_up.2 (sortI_up l)
/-- x put into a sorted list behind p elements. -/
theorem insert_up {ys : List Int} {x : Int} {p : Nat} (hs : ys.Pairwise (· ≤ ·)) (hp : p ≤ ys.length) (hlo : p = 0 ∨ ys.getD (p - 1) 0 ≤ x) (hhi : ∀ q, p ≤ q → q < ys.length → x < ys.getD q 0) :
    (ys.take p ++ [x] ++ ys.drop p).Pairwise (· ≤ ·) := by
  have hs2 := hs
  rw [← List.take_append_drop p ys, List.pairwise_append] at hs2
  obtain ⟨h1, h2, h3⟩ := hs2
  rw [List.pairwise_iff_getElem] at hs
  have ha : ∀ a ∈ ys.take p, a ≤ x := by
    intro a ha
    obtain ⟨i, hi, rfl⟩ := List.getElem_of_mem ha
    rw [List.length_take] at hi
    rw [List.getElem_take]
    rcases hlo with h | h
    · omega
    · rw [List.getD_eq_getElem?_getD, List.getElem?_eq_getElem (by omega), Option.getD_some] at h
      rcases (by omega : i = p - 1 ∨ i < p - 1) with e | e
      · subst e; exact h
      · have := hs i (p - 1) (by omega) (by omega) e; omega
  have hb : ∀ b ∈ ys.drop p, x ≤ b := by
    intro b hb
    obtain ⟨i, hi, rfl⟩ := List.getElem_of_mem hb
    rw [List.length_drop] at hi
    rw [List.getElem_drop]
    have := hhi (p + i) (by omega) (by omega)
    rw [List.getD_eq_getElem?_getD, List.getElem?_eq_getElem (by omega), Option.getD_some] at this
    omega
  rw [List.pairwise_append, List.pairwise_append]
  refine ⟨⟨h1, List.pairwise_singleton _ _, fun a ha' b hb' => by rw [List.mem_singleton.1 hb']; exact ha a ha'⟩, h2, fun a ha' b hb' => ?_⟩
  rcases List.mem_append.1 ha' with h | h
  · exact h3 a h b hb'
  · rw [List.mem_singleton.1 h]; exact hb b hb'
theorem insert_perm (ys : List Int) (x : Int) (p : Nat) : (ys.take p ++ [x] ++ ys.drop p).Perm (ys ++ [x]) := by
  have h1 : (ys.take p ++ [x] ++ ys.drop p).Perm (ys.take p ++ ys.drop p ++ [x]) := by
    rw [List.append_assoc, List.append_assoc]
    exact List.Perm.append_left _ List.perm_append_comm
  rwa [List.take_append_drop] at h1
end Go.Proofs.YtiodolbgapjmkaaGreatDoor
