/- The laws' arguments that lie in memory, opened: a network, a list of ints, as predicates on the world. Conditions: none. -/
import Derived.Test.YtiodolbgapjmkaaBase
import Derived.ProofKit
import Derived.OpenShut
import Derived.Deep.Matrix
import Derived.Lib.SmallJoins
namespace Go.Proofs.Ytiodolbgapjmkaa
open Go.ChangeShapes Go.WideShapes Go.ChangeAt Go.RowKit Go.Joins Go.Deep
set_option maxRecDepth 100000

theorem Try.cellsI : Try.prog.cellsOf 3 = 1 := by kernel_rfl
theorem Try.cellsS : Try.prog.cellsOf 22 = 1 := by kernel_rfl

/-- A row of ints as it was read. -/
theorem row_intsV {w : World} {A : Option Addr} {L C : Nat} {Z : List Int} (h1 : L ≤ C) (h2 : Z.length = C) (h3 : A = none → C = 0) (h4 : ∀ a', A = some a' → ∀ c, c < C → w.cell? (a'.add c) = some (.int .i64 (Z.getD c 0))) :
    IntsV w 0 w.heap.size (.slice A L C) (Z.take L) := by
  have hl : (Z.take L).length = L := by rw [List.length_take]; omega
  by_cases h0 : C = 0
  · refine ⟨A, 0, 0, C, by rw [hl], by omega, fun h => by omega, fun i hi => by omega⟩
  · cases A with
    | none => exact absurd (h3 rfl) h0
    | some a =>
      obtain ⟨b, off, spot⟩ := a
      have hs : spot = none := by simpa [Addr.add] using World.cell?_spot (h4 _ rfl 0 (by omega))
      subst hs
      have hb := Go.block_lt_of_cell (h4 _ rfl 0 (by omega))
      refine ⟨_, b, off, C, by rw [hl], by omega, fun _ => ⟨rfl, by omega, by simpa [Addr.add] using hb⟩, fun i hi => ?_⟩
      rw [hl] at hi
      have := h4 _ rfl i (by omega)
      rw [Go.WideShapes.add_plain] at this
      rw [this]
      simp [List.getD, hi]

theorem open_list {H : Type} {enc : TypeId × Value → H} {w : World} {v : Value} {d : DataW H} {p : List MemPlace} {base : Nat} {r : Reach} (hv : Value.okWide Try.prog w r base 22 v) (h : DataW.Trod enc Try.prog w 0 (fun _ => true) true 22 v d p) :
    ∃ xs, IntsV w 0 w.heap.size v xs ∧ xs.length ≤ maxLen := by
  obtain ⟨a0, len, cap, rfl⟩ := okWide_slice Try.underlying22 hv
  obtain ⟨fuel, hf⟩ := h
  rcases open_ints Try.underlying22 Try.underlying3 Try.cellsI hf with ⟨hcs, -⟩ | ⟨a, len', cap', zs, hcs, hb, hl, hm, hz, -, hcell, hwz⟩
  · simp [Value.cells] at hcs
    obtain ⟨rfl, rfl, rfl⟩ := hcs
    exact ⟨[], ⟨none, 0, 0, 0, rfl, by simp, fun h => by omega, fun i hi => by simp at hi⟩, by simp⟩
  · simp [Value.cells] at hcs
    obtain ⟨rfl, rfl, rfl⟩ := hcs
    simp only [if_true] at hz
    exact ⟨zs.take len, row_intsV hl hz (fun h => by cases h) (fun a' ha c hc => by cases ha; exact hcell c (by omega)), by rw [List.length_take]; omega⟩

end Go.Proofs.Ytiodolbgapjmkaa
