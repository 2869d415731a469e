/- The laws' argument that is a list of bytes, opened, as a predicate on the world. Conditions: none. -/
import Derived.Test.YtiodolbgapjmkaaGreatDoorCur
import Derived.ProofKit
import Derived.OpenShut
import Derived.Deep.Matrix
import Derived.Lib.SmallJoins
namespace Go.Proofs.YtiodolbgapjmkaaGreatDoor
open Go.ChangeShapes Go.WideShapes Go.ChangeAt Go.RowKit Go.Joins Go.Deep
set_option maxRecDepth 100000

theorem Tryz.cellsB : Tryz.prog.cellsOf 5 = 1 := by kernel_rfl
theorem open_bytesV {H : Type} {enc : TypeId × Value → H} {w : World} {v : Value} {d : DataW H} {p : List MemPlace} {base : Nat} {r : Reach} (hv : Value.okWide Tryz.prog w r base 22 v) (h : DataW.Trod enc Tryz.prog w 0 (fun _ => true) true 22 v d p) :
    ∃ n, BytesV w w.heap.size v n := by
  obtain ⟨a0, len, cap, rfl⟩ := okWide_slice Tryz.underlying22 hv
  obtain ⟨fuel, hf⟩ := h
  rcases open_ints Tryz.underlying22 Tryz.underlying5 Tryz.cellsB hf with ⟨hcs, -⟩ | ⟨a, len', cap', zs, hcs, hb, hl, hm, hz, -, hcell, hwz⟩
  · simp [Value.cells] at hcs
    obtain ⟨rfl, rfl, rfl⟩ := hcs
    exact ⟨0, none, 0, 0, 0, rfl, by simp, fun h => by omega, fun i hi => by omega⟩
  · simp [Value.cells] at hcs
    obtain ⟨rfl, rfl, rfl⟩ := hcs
    simp only [if_true] at hz
    refine ⟨len, ?_⟩
    by_cases h0 : cap = 0
    · exact ⟨some a, 0, 0, cap, rfl, hl, fun h => by omega, fun i hi => by omega⟩
    · obtain ⟨b, off, spot⟩ := a
      have hs : spot = none := by simpa [Addr.add] using World.cell?_spot (hcell 0 (by omega))
      subst hs
      have hbl := Go.block_lt_of_cell (hcell 0 (by omega))
      refine ⟨_, b, off, cap, rfl, hl, fun _ => ⟨rfl, by simpa [Addr.add] using hbl⟩, fun i hi => ?_⟩
      have hc := hcell i (by omega)
      rw [Go.WideShapes.add_plain] at hc
      have hw := hwz (zs.getD i 0) (by rw [List.getD_eq_getElem?_getD, List.getElem?_eq_getElem (by omega)]; exact List.getElem_mem _)
      simp only [Lit.wf, Bool.and_eq_true, decide_eq_true_eq] at hw
      have e1 : IntKind.u8.min = 0 := by decide
      have e2 : IntKind.u8.max = 255 := by decide
      rw [e1, e2] at hw
      exact ⟨zs.getD i 0, hc, hw.1, by omega⟩
end Go.Proofs.YtiodolbgapjmkaaGreatDoor
