/- An append of a pair inside a region whose order is open. Conditions: none. -/
import Derived.Test.YtiodolbgapjmkaaGreatDoorRowApp
import Derived.Test.YtiodolbgapjmkaaGreatDoorInts
namespace Go.Proofs.YtiodolbgapjmkaaGreatDoor
open Go.RowKit
set_option maxRecDepth 100000

/-- The blocks from 'lo' up to 'hi' are as in 'w0', and v lies in none of them. -/
def keptC (lo hi : Nat) (w0 wr : World) (v : Value) : Prop := ∀ k, lo ≤ k → k < hi → wr.heap[k]? = w0.heap[k]? ∧ v.ownBlock ≠ some k
theorem keptC.cell {lo hi : Nat} {w0 wr : World} {v : Value} (h : keptC lo hi w0 wr v) (b o : Nat) (h1 : lo ≤ b) (h2 : b < hi) : wr.cell? ⟨b, o, none⟩ = w0.cell? ⟨b, o, none⟩ := by
  have := (h b h1 h2).1
  unfold World.cell?
  simp only [this]

/-- 'out = append(out, []int{p, q})' beside other memory that stays as it is. -/
theorem wp_app_pairC {o : Oper} {a : Act} {K : Act → World → Prop} {Q : Exit → Act → World → Prop} (s x : Operand)
    (ho : o.op = .call { callee := .builtin .append, args := #[s, x], argTypes := #[23, 23] })
    (wr : World) (p q : Int) (lo : Nat) (v : Value) (vs : List Value) (xss : List (List Int)) (l1 h1 : Nat) (w0 : World) (hR : OwnR wr lo wr.heap.size v vs xss) (hlo : lo ≤ wr.heap.size) (hKB : keptC l1 h1 w0 wr v) (hh1 : h1 ≤ wr.heap.size) (hlen : xss.length ≤ 1000000)
    (hs : a.eval s = v) (hx : a.eval x = .slice (some ⟨wr.heap.size + 1, 0, none⟩) 1 1)
    (h : ∀ g L cap w' vs', Hid (L = xss.length + 1) → OwnR w' lo w'.heap.size (.slice (some ⟨g, 0, none⟩) L cap) vs' (xss ++ [[p, q]]) → Below lo wr w' → lo ≤ w'.heap.size → keptC l1 h1 w0 w' (.slice (some ⟨g, 0, none⟩) L cap) → wr.heap.size ≤ w'.heap.size →
      K (a.put o.dst (.slice (some ⟨g, 0, none⟩) L cap)) w') :
    o.wp Tryz.prog a ((wr.alloc (.cells #[.int .i64 p, .int .i64 q] 3)).alloc (.cells #[.slice (some ⟨wr.heap.size, 0, none⟩) 2 2] 27)) K Q := by
  obtain ⟨i0, hi, hz0, hz1, hz2⟩ := info_parts Tryz.infoS
  have hR2 := (hR.alloc (.cells #[.int .i64 p, .int .i64 q] 3)).alloc (.cells #[.slice (some ⟨wr.heap.size, 0, none⟩) 2 2] 27)
  have hU : OwnI ((wr.alloc (.cells #[.int .i64 p, .int .i64 q] 3)).alloc (.cells #[.slice (some ⟨wr.heap.size, 0, none⟩) 2 2] 27)) wr.heap.size ((wr.alloc (.cells #[.int .i64 p, .int .i64 q] 3)).alloc (.cells #[.slice (some ⟨wr.heap.size, 0, none⟩) 2 2] 27)).heap.size (.slice (some ⟨wr.heap.size, 0, none⟩) 2 2) [p, q] :=
    Own.mono (Own.alloc (ownI_pair wr p q) _) (Nat.le_refl _) (by simp)
  have hblk : ((wr.alloc (.cells #[.int .i64 p, .int .i64 q] 3)).alloc (.cells #[.slice (some ⟨wr.heap.size, 0, none⟩) 2 2] 27)).heap[wr.heap.size + 1]? = some (.cells #[.slice (some ⟨wr.heap.size, 0, none⟩) 2 2] 27) := by
    have := blk_new (wr.alloc (.cells #[.int .i64 p, .int .i64 q] 3)) (.cells #[.slice (some ⟨wr.heap.size, 0, none⟩) 2 2] 27)
    rwa [show (wr.alloc (.cells #[.int .i64 p, .int .i64 q] 3)).heap.size = wr.heap.size + 1 from by simp] at this
  have hbel : Below lo wr ((wr.alloc (.cells #[.int .i64 p, .int .i64 q] 3)).alloc (.cells #[.slice (some ⟨wr.heap.size, 0, none⟩) 2 2] 27)) := ((Below.refl _ _).alloc hlo _).alloc (by simp; omega) _
  have hbw : Below wr.heap.size wr ((wr.alloc (.cells #[.int .i64 p, .int .i64 q] 3)).alloc (.cells #[.slice (some ⟨wr.heap.size, 0, none⟩) 2 2] 27)) := ((Below.refl _ _).alloc (Nat.le_refl _) _).alloc (by simp) _
  generalize ((wr.alloc (.cells #[.int .i64 p, .int .i64 q] 3)).alloc (.cells #[.slice (some ⟨wr.heap.size, 0, none⟩) 2 2] 27)) = W at *
  obtain ⟨v', w', hr, hown, hg, hlies⟩ := run_append_own2 (P := Tryz.prog) W lo 23 o.type 27 i0 (.slice none 0 0) 24 Tryz.underlying23 hi hz0 hz1 hz2 rfl v vs.length vs hR2.top.row ⟨wr.heap.size + 1, 0, none⟩ 1 1 [.slice (some ⟨wr.heap.size, 0, none⟩) 2 2] rfl
    (fun j u hj => by
      match j, hj with
      | 0, hj => simp at hj; subst hj; exact blk_cell hblk 0) (fun u hu => by simp at hu; subst hu; rfl) (by omega) (by have := hR.len; unfold maxLen; omega) (by have := hR.len; omega) (by have := hbel.size; omega)
  have ho2 : OwnR w' lo w'.heap.size v' (vs ++ [.slice (some ⟨wr.heap.size, 0, none⟩) 2 2]) (xss ++ [[p, q]]) :=
    hR2.app hlo rfl (fun i u xs a b => by
      match i, a, b with
      | 0, a, b => simp at a b; subst a b; exact hU) (.cons (by simp) .nil) hown hg
  have hsh : ∃ g cap, v' = .slice (some ⟨g, 0, none⟩) (xss.length + 1) cap := by
    rcases hown.2 with ⟨_, h0⟩ | ⟨g, cap, cur, e, _⟩
    · simp at h0
    · exact ⟨g, cap, by rw [e]; simp [hR.len]⟩
  obtain ⟨g, cap, rfl⟩ := hsh
  have hsz := hg.size
  have hbs := hbw.size
  have hfin := (h g _ cap w' _ rfl ho2 (hbel.grown hg (by have := hbel.size; omega) fun k hk => (hR2.top.row.lt k hk).1) (by have := hbel.size; omega)
    (fun k k1 k2 => by
      have hne := (hKB k k1 k2).2
      refine ⟨(hg.block k (by omega) (fun e => hne e.symm)).trans ((hbw.block k (by omega)).trans (hKB k k1 k2).1), fun e => ?_⟩
      rcases hlies with hl | hl
      · exact hne (hl.symm.trans e)
      · have := Option.some.inj (hl.symm.trans e)
        omega) (by omega))
  unfold Oper.wp
  simp [execOp, ho, resolve, invoke, builtin, hs, hx, hr, Result.andThen]
  exact hfin

/-- 'out = append(out, []int{p, q})' beside other memory that stays as it is. -/
theorem wpList_app_pairC {ops : Array Oper} {rest : List Oper} {o : Oper} {a : Act} {Q : Exit → Act → World → Prop} (hgd : o.guard = none) (s x : Operand)
    (ho : o.op = .call { callee := .builtin .append, args := #[s, x], argTypes := #[23, 23] })
    (wr : World) (p q : Int) (lo : Nat) (v : Value) (vs : List Value) (xss : List (List Int)) (l1 h1 : Nat) (w0 : World) (hR : OwnR wr lo wr.heap.size v vs xss) (hlo : lo ≤ wr.heap.size) (hK : keptC l1 h1 w0 wr v) (hh1 : h1 ≤ wr.heap.size) (hlen : xss.length ≤ 1000000)
    (hs : a.eval s = v) (hx : a.eval x = .slice (some ⟨wr.heap.size + 1, 0, none⟩) 1 1)
    (h : ∀ g L cap w' vs', Hid (L = xss.length + 1) → OwnR w' lo w'.heap.size (.slice (some ⟨g, 0, none⟩) L cap) vs' (xss ++ [[p, q]]) → Below lo wr w' → lo ≤ w'.heap.size → keptC l1 h1 w0 w' (.slice (some ⟨g, 0, none⟩) L cap) → wr.heap.size ≤ w'.heap.size →
      wpList Tryz.prog ops Q rest (a.put o.dst (.slice (some ⟨g, 0, none⟩) L cap)) w') :
    wpList Tryz.prog ops Q (o :: rest) a ((wr.alloc (.cells #[.int .i64 p, .int .i64 q] 3)).alloc (.cells #[.slice (some ⟨wr.heap.size, 0, none⟩) 2 2] 27)) :=
  wpList_plain hgd fun _ hK2 => wp_app_pairC s x ho wr p q lo v vs xss l1 h1 w0 hR hlo hK hh1 hlen hs hx fun g L cap w' vs' e1 e2 e3 e4 e5 e6 => hK2 _ _ (h g L cap w' vs' e1 e2 e3 e4 e5 e6)

end Go.Proofs.YtiodolbgapjmkaaGreatDoor
