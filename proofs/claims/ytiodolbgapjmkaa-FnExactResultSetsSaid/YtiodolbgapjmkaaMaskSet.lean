/- Sets of masks as rising lists: what slices.Compact leaves of a sorted list, and the images of a set, in plain Lean. Conditions: none. -/
import Derived.Test.YtiodolbgapjmkaaSortC
import Derived.Lib.SlicesCompact
namespace Go.Proofs.Ytiodolbgapjmkaa
open Go.RowKit
set_option maxRecDepth 100000
set_option linter.unusedVariables false

theorem keeps_iff {l : List Int} {j : Nat} (hj : j < l.length) : Go.Lib.keeps l.toArray j = true ↔ (j = 0 ∨ l.getD (j - 1) 0 ≠ l.getD j 0) := by
  unfold Go.Lib.keeps
  have e1 : l.toArray[j]! = l.getD j 0 := by simp [List.getD, hj, getElem!_pos]
  have e2 : j ≠ 0 → l.toArray[j - 1]! = l.getD (j - 1) 0 := fun h => by simp [List.getD, show j - 1 < l.length by omega, getElem!_pos]
  by_cases h0 : j = 0
  · simp [h0]
  · rw [e1, e2 h0]
    simp [h0]
    first | done | (constructor <;> intro h e <;> exact h e.symm)
theorem mem_compact {l : List Int} {x : Int} : x ∈ Go.Lib.compact l ↔ x ∈ l := by
  unfold Go.Lib.compact Go.Lib.compactUpTo
  rw [List.mem_map]
  constructor
  · rintro ⟨j, hj, rfl⟩
    rw [List.mem_filter, List.mem_range] at hj
    have : l.toArray[j]! = l[j]'hj.1 := by simp [hj.1, getElem!_pos]
    rw [this]
    exact List.getElem_mem _
  · intro hx
    -- the first place of x
    have key : ∀ j, (h : j < l.length) → l[j] = x → ∃ i, i < l.length ∧ l.getD i 0 = x ∧ (i = 0 ∨ l.getD (i - 1) 0 ≠ x) := by
      intro j
      induction j with
      | zero => intro h e; exact ⟨0, h, by simp [List.getD, h, e], .inl rfl⟩
      | succ j ih =>
        intro h e
        by_cases hp : l[j] = x
        · exact ih (by omega) hp
        · exact ⟨j + 1, h, by simp [List.getD, h, e], .inr (by simpa [List.getD, show j < l.length by omega] using hp)⟩
    obtain ⟨j, hj, e⟩ := List.getElem_of_mem hx
    obtain ⟨i, hi, e1, e2⟩ := key j hj e
    refine ⟨i, ?_, ?_⟩
    · rw [List.mem_filter, List.mem_range]
      refine ⟨hi, (keeps_iff hi).2 ?_⟩
      rcases e2 with e2 | e2
      · exact .inl e2
      · exact .inr (by rw [e1]; exact e2)
    · rw [← e1]
      simp [List.getD, hi, getElem!_pos]
theorem compact_rises {l : List Int} (h : l.Pairwise (· ≤ ·)) : (Go.Lib.compact l).Pairwise (· < ·) := by
  unfold Go.Lib.compact Go.Lib.compactUpTo
  rw [List.pairwise_map]
  have hr : ((List.range l.length).filter (Go.Lib.keeps l.toArray)).Pairwise (· < ·) := List.Pairwise.filter _ List.pairwise_lt_range
  have hm : ∀ j ∈ (List.range l.length).filter (Go.Lib.keeps l.toArray), j < l.length ∧ Go.Lib.keeps l.toArray j = true := fun j hj => by
    rw [List.mem_filter, List.mem_range] at hj; exact hj
  refine hr.imp_of_mem fun {i j} hi hj hij => ?_
  obtain ⟨h1, -⟩ := hm i hi
  obtain ⟨h2, h3⟩ := hm j hj
  have e1 : l.toArray[i]! = l[i] := by simp [h1, getElem!_pos]
  have e2 : l.toArray[j]! = l[j] := by simp [h2, getElem!_pos]
  rw [e1, e2]
  have hp := List.pairwise_iff_getElem.1 h
  rcases (keeps_iff h2).1 h3 with h4 | h4
  · omega
  · have q1 : l[i] ≤ l[j - 1]'(by omega) := by
      rcases (by omega : i = j - 1 ∨ i < j - 1) with e | e
      · subst e; exact Int.le_refl _
      · exact hp i (j - 1) h1 (by omega) e
    have q2 : l[j - 1]'(by omega) ≤ l[j] := hp (j - 1) j (by omega) h2 (by omega)
    have q3 : l[j - 1]'(by omega) ≠ l[j] := by simpa [List.getD, h2, show j - 1 < l.length by omega] using h4
    omega
/-- Two rising lists with the same members are one. -/
theorem rise_ext {a b : List Int} (ha : a.Pairwise (· < ·)) (hb : b.Pairwise (· < ·)) (h : ∀ x, x ∈ a ↔ x ∈ b) : a = b := by
  have na : a.Nodup := List.nodup_iff_pairwise_ne.2 (ha.imp fun h => by omega)
  have nb : b.Nodup := List.nodup_iff_pairwise_ne.2 (hb.imp fun h => by omega)
  exact perm_up_eq ((List.perm_ext_iff_of_nodup na nb).2 h) (ha.imp fun h => by omega) (hb.imp fun h => by omega)
/-- The masks of n wires with a property. -/
def setI (n : Nat) (P : Nat → Bool) : List Int := ((List.range (2 ^ n)).filter P).map fun m : Nat => (m : Int)
theorem mem_setI {n : Nat} {P : Nat → Bool} {x : Int} : x ∈ setI n P ↔ ∃ m : Nat, x = m ∧ m < 2 ^ n ∧ P m = true := by
  unfold setI
  rw [List.mem_map]
  constructor
  · rintro ⟨m, hm, rfl⟩
    rw [List.mem_filter, List.mem_range] at hm
    exact ⟨m, rfl, hm.1, hm.2⟩
  · rintro ⟨m, rfl, h1, h2⟩
    exact ⟨m, by rw [List.mem_filter, List.mem_range]; exact ⟨h1, h2⟩, rfl⟩
theorem setI_rises (n : Nat) (P : Nat → Bool) : (setI n P).Pairwise (· < ·) := by
  unfold setI
  rw [List.pairwise_map]
  exact (List.Pairwise.filter _ List.pairwise_lt_range).imp fun h => by omega
theorem setI_len (n : Nat) (P : Nat → Bool) : (setI n P).length ≤ 2 ^ n := by
  unfold setI
  rw [List.length_map]
  exact Nat.le_trans (List.length_filter_le _ _) (by simp)
/-- All masks of a list are of n wires. -/
def masksP (n : Nat) (S : List Int) : Prop := ∀ x ∈ S, ∃ m : Nat, x = m ∧ m < 2 ^ n
theorem setI_masks (n : Nat) (P : Nat → Bool) : masksP n (setI n P) := fun x hx => by
  obtain ⟨m, h1, h2, -⟩ := mem_setI.1 hx
  exact ⟨m, h1, h2⟩
/-- What a comparator makes of a set. -/
def nxt (n : Nat) (S : List Int) (i k : Nat) : List Int := setI n fun m => S.any fun x => stp x.toNat i k == m
theorem compact_image {n : Nat} {S : List Int} {i k : Nat} (hn : n ≤ 8) (hS : masksP n S) (hi : i < n) (hk : k < n) (hne : i ≠ k) : Go.Lib.compact (sortI (S.map fun x => ((stp x.toNat i k : Nat) : Int))) = nxt n S i k := by
  refine rise_ext (compact_rises (sortI_up _)) (setI_rises _ _) fun x => ?_
  rw [mem_compact, (sortI_perm _).mem_iff, List.mem_map]
  unfold nxt
  rw [mem_setI]
  constructor
  · rintro ⟨y, hy, rfl⟩
    obtain ⟨m, rfl, hm⟩ := hS y hy
    refine ⟨stp m i k, rfl, stp_lt2 n m i k hn hm hi hk hne, ?_⟩
    rw [List.any_eq_true]
    exact ⟨_, hy, by rw [Int.toNat_natCast]; simp⟩
  · rintro ⟨m, rfl, hm, h⟩
    rw [List.any_eq_true] at h
    obtain ⟨y, hy, e⟩ := h
    exact ⟨y, hy, by rw [beq_iff_eq.1 e]⟩
end Go.Proofs.Ytiodolbgapjmkaa
