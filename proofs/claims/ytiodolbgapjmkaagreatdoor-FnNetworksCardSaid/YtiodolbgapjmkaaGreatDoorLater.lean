/- A region whose order is left open and whose operations only read memory that was there, or call what only makes new memory: one walk in the order of the text serves. Conditions: none. -/
import Derived.Test.YtiodolbgapjmkaaGreatDoorBase
import Derived.Deep.QuietTactic
import Derived.BigQuiet
import Derived.Lib.Hide
import Derived.Outline
namespace Go.Proofs.YtiodolbgapjmkaaGreatDoor
open Go.RowKit

/-- A world that is, below block B, as w0 is. -/
structure LW (B : Nat) (w0 : World) where
  w : World
  h : Below B w0 w

instance LW.some (B : Nat) (w0 : World) : Nonempty (LW B w0) := ⟨⟨w0, Below.refl _ _⟩⟩

theorem LW.cells {B : Nat} {w0 : World} : ∀ (x : LW B w0) (b o : Nat), b < B → x.w.cell? ⟨b, o, none⟩ = w0.cell? ⟨b, o, none⟩ :=
  fun x b o hb => x.h.cell (p := ⟨b, o, none⟩) hb

/-- The value v comes back whatever the world of the class, and the world behind the call is of the class. -/
theorem LW.call {P : Program} {f : FuncId} {args : Array Value} {B : Nat} {w0 : World} {x : LW B w0} {v : Value} (hB : B ≤ w0.heap.size)
    (h : Calls P f args x.w fun e w' => e = .returned v ∧ Below x.w.heap.size x.w w') : Calls P f args x.w fun e w'' => e = .returned v ∧ ∃ y : LW B w0, w'' = y.w :=
  h.mono fun _ _ ⟨he, hb⟩ => ⟨he, ⟨_, x.h.trans (hb.mono (Nat.le_trans hB x.h.size))⟩, rfl⟩

theorem LW.call_same {P : Program} {f : FuncId} {args : Array Value} {B : Nat} {w0 : World} {x : LW B w0} {v : Value}
    (h : Calls P f args x.w fun e w' => e = .returned v ∧ x.w = w') : Calls P f args x.w fun e w'' => e = .returned v ∧ ∃ y : LW B w0, w'' = y.w :=
  h.mono fun _ _ ⟨he, hb⟩ => ⟨he, x, hb.symm⟩

theorem wp_region_later {P : Program} {id : Nat} {Q : Exit → Act → World → Prop} {a : Act} {w : World} {l : List Oper} (B : Nat) (w0 : World) (hm : P.follows .mixedOrders = true) (hB : Region.lexB .any l.toArray = true)
    (hw : Below B w0 w)
    (h : wpQuiet P l.toArray (fun w' => ∃ x : LW B w0, w' = x.w) (fun a' => ∀ w', (∃ x : LW B w0, w' = x.w) → Q .normal a' w') l a) : (Code.region id l.toArray true).wp P Q a w :=
  wp_region_quiet (C := fun w' => ∃ x : LW B w0, w' = x.w) hm hB ⟨⟨w.drew, hw.drew⟩, rfl⟩ (by simpa using h)

theorem bcell {W w1 : World} {B : Nat} (hb : Below B W w1) : (∀ b o, b < B → w1.cell? ⟨b, o, none⟩ = W.cell? ⟨b, o, none⟩) ∧ (∀ b o, b < B → w1.frozen? ⟨b, o, none⟩ = W.frozen? ⟨b, o, none⟩) :=
  ⟨fun b o h => hb.cell (p := ⟨b, o, none⟩) h, fun b o h => hb.frozen (p := ⟨b, o, none⟩) h⟩

theorem blk_new (w : World) (o : Obj) : (w.alloc o).heap[w.heap.size]? = some o := heap_alloc_new w o
theorem blk_old {w : World} {k : Nat} {x : Obj} (h : w.heap[k]? = some x) (o : Obj) : (w.alloc o).heap[k]? = some x := by
  have hk : k < w.heap.size := lt_of_block h
  exact (Below.heap_alloc w o k hk).trans h
theorem blk_below {w w' : World} {k B : Nat} {x : Obj} (h : w.heap[k]? = some x) (hb : Below B w w') (hk : k < B) : w'.heap[k]? = some x := (hb.block k hk).trans h
theorem blk_cell {w : World} {b : Nat} {c : Array Value} {t : TypeId} (h : w.heap[b]? = some (.cells c t (0, 0))) (i : Nat) : w.cell? ⟨b, i, none⟩ = c[i]? := by unfold World.cell?; rw [h]; rfl
theorem blk_free {w : World} {b : Nat} {c : Array Value} {t : TypeId} (h : w.heap[b]? = some (.cells c t (0, 0))) (i : Nat) : w.frozen? ⟨b, i, none⟩ = false := by unfold World.frozen?; rw [h]; simp

/-- The world behind a new block of two cells (a struct of two fields, boxed). -/
theorem box2 (w : World) (x y : Value) (t : TypeId) : ∃ W1, w.alloc (.cells #[x, y] t) = W1 ∧ W1.cell? ⟨w.heap.size, 0, none⟩ = some x ∧ W1.cell? ⟨w.heap.size, 1, none⟩ = some y ∧
    W1.heap.size = w.heap.size + 1 ∧ Below w.heap.size w W1 ∧ W1.frozen? ⟨w.heap.size, 0, none⟩ = false ∧ W1.frozen? ⟨w.heap.size, 1, none⟩ = false := by
  have hh : (w.alloc (.cells #[x, y] t)).heap[w.heap.size]? = some (.cells #[x, y] t) := heap_alloc_new w _
  exact ⟨_, rfl, by unfold World.cell?; rw [hh]; rfl, by unfold World.cell?; rw [hh]; rfl, by simp, (Below.refl _ w).alloc (Nat.le_refl _) _, by unfold World.frozen?; rw [hh]; rfl, by unfold World.frozen?; rw [hh]; rfl⟩

theorem bsize {W w1 : World} {B : Nat} (hb : Below B W w1) : W.heap.size ≤ w1.heap.size := hb.size
end Go.Proofs.YtiodolbgapjmkaaGreatDoor
