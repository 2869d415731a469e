/- The library's Grow of nothing and Concat of two lists of ints, by their contracts. Conditions: lists are short. -/
import Derived.Test.YtiodolbgapjmkaaGreatDoorInts
import Derived.Test.YtiodolbgapjmkaaGreatDoorSmall
namespace Go.Proofs.YtiodolbgapjmkaaGreatDoor
open Go.RowKit
set_option maxRecDepth 100000

/-- 'append(nil, make([]int, n)...)'. -/
theorem wpList_app_zeros {ops : Array Oper} {rest : List Oper} {o : Oper} {a : Act} {Q : Exit → Act → World → Prop} (hgd : o.guard = none) (s x : Operand)
    (ho : o.op = .call { callee := .builtin .append, args := #[s, x], argTypes := #[27, 3] }) (w : World) (n : Nat) (h0 : 0 < n) (hn : n ≤ 100000)
    (hs : a.eval s = .slice none 0 0) (hx : a.eval x = .int .i64 n)
    (h : ∀ C W', n ≤ C → OwnI W' w.heap.size W'.heap.size (.slice (some ⟨w.heap.size, 0, none⟩) 0 C) [] → Below w.heap.size w W' → wpList Tryz.prog ops Q rest (a.put o.dst (.slice (some ⟨w.heap.size, 0, none⟩) n C)) W') :
    wpList Tryz.prog ops Q (o :: rest) a w := by
  obtain ⟨i0, hi0, hz0, hz1, hz2⟩ := info_parts Tryz.infoI
  have hr := Lib.run_append_grow_zeros (P := Tryz.prog) w 27 3 o.type 3 i0 (.int .i64 0) .i64 .i64 Tryz.underlying27 Tryz.underlying3 hi0 hz0 none 0 0 [] (by simp [Builtin.firstCells]) n (by omega) (by omega) (by omega) (by omega) (by rw [hz2]; omega) (by rw [hz2]; have := growslice_fits (need := 0 + n) (old := 0) (bytes := 8) (by omega) (by omega); exact this)
  obtain ⟨C, hC⟩ : ∃ C, C = grownCap w (0 + n) 0 3 := ⟨_, rfl⟩
  have hge : 0 + n ≤ C := by rw [hC]; exact grownCap_ge w (0 + n) 0 3
  have hle : C ≤ maxLen := by rw [hC]; exact grownCap_le_maxLen w (0 + n) 0 3 (by unfold maxLen; omega)
  rw [← hC] at hr
  obtain ⟨cs, hcs⟩ : ∃ cs, cs = (([] : List Value).toArray ++ Builtin.zeroCells (Value.int .i64 0).cells n ++ Builtin.zeroCells (Value.int .i64 0).cells (C - (0 + n))) := ⟨_, rfl⟩
  have hsz : cs.size = C := by rw [hcs]; simp [Builtin.zeroCells, Value.cells]; omega
  rw [← hcs] at hr
  simp only [Nat.zero_add] at hr hge
  have hblk := blk_new w.drew (.cells cs 3)
  refine wpList_plain hgd fun K hK => ?_
  have hfin := hK _ _ (h C (w.drew.alloc (.cells cs 3)) hge ⟨⟨rfl, .inr ⟨w.heap.size, C, cs, rfl, Nat.le_refl _, hblk, Nat.zero_le _, hle, by omega, rfl⟩⟩, fun k hk => by simp [Value.ownBlock] at hk; simp; omega⟩ ((Below.refl _ _).drew.alloc (Nat.le_refl _) _))
  unfold Oper.wp
  simp [execOp, ho, resolve, invoke, builtin, hs, hx, hr, Result.andThen]
  exact hfin

end Go.Proofs.YtiodolbgapjmkaaGreatDoor
