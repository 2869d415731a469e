/- A pair that is appended to a network's list of pairs, as one step of a walk. Conditions: none. -/
import Derived.Test.YtiodolbgapjmkaaGreatDoorLater
namespace Go.Proofs.YtiodolbgapjmkaaGreatDoor
open Go.RowKit

theorem OwnR.alloc {w : World} {lo hi : Nat} {v : Value} {vs : List Value} {xss : List (List Int)} (h : OwnR w lo hi v vs xss) (o : Obj) : OwnR (w.alloc o) lo hi v vs xss :=
  h.kept fun k _ _ h3 => Below.heap_alloc w o k h3

theorem ownI_pair (w : World) (p q : Int) : OwnI (w.alloc (.cells #[.int .i64 p, .int .i64 q] 3)) w.heap.size (w.heap.size + 1) (.slice (some ⟨w.heap.size, 0, none⟩) 2 2) [p, q] := by
  refine ⟨⟨rfl, .inr ⟨w.heap.size, 2, _, rfl, Nat.le_refl _, blk_new w _, Nat.le_refl _, by unfold maxLen; omega, rfl, rfl⟩⟩, fun k hk => ?_⟩
  simp [Value.ownBlock] at hk
  omega

/-- Rows appended: all news are rows from 'hi' on, the old ones lie below. -/
theorem OwnR.app {w w' : World} {lo hi : Nat} {v v' : Value} {vs news : List Value} {xss yss : List (List Int)} (h : OwnR w lo hi v vs xss) (hlo : lo ≤ hi)
    (hn : news.length = yss.length) (hrow : ∀ (i : Nat) (u : Value) (xs : List Int), news[i]? = some u → yss[i]? = some xs → OwnI w hi w.heap.size u xs) (hsep : news.Pairwise apartV)
    (hown : w'.ownsRow lo 27 1 v' (vs.length + news.length) (vs ++ news)) (hg : w.grownBy w' v.ownBlock) : OwnR w' lo w'.heap.size v' (vs ++ news) (xss ++ yss) := by
  have hmem : ∀ t ∈ news, ∃ xs, OwnI w hi w.heap.size t xs := by
    intro t ht
    obtain ⟨i, hi', rfl⟩ := List.getElem_of_mem ht
    exact ⟨_, hrow i news[i] (yss[i]'(by omega)) (List.getElem?_eq_getElem hi') (List.getElem?_eq_getElem (by omega))⟩
  have hbv : ∀ u ∈ vs, ∀ k, u.ownBlock = some k → k < hi := by
    intro u hu k hk
    obtain ⟨i, hi', rfl⟩ := List.getElem_of_mem hu
    have hx : i < xss.length := by rw [← h.len]; exact hi'
    exact (h.row i vs[i] xss[i] (List.getElem?_eq_getElem hi') (List.getElem?_eq_getElem hx)).lt k hk
  refine h.appended (hi2 := w.heap.size) hn (fun i u xs a b => Own.mono (hrow i u xs a b) hlo (Nat.le_refl _)) hsep ?_ ?_ hown hg
  · intro u hu t ht
    obtain ⟨xs, hxs⟩ := hmem t ht
    unfold apartV
    cases hob : u.ownBlock with
    | none => exact Or.inl rfl
    | some k =>
      right
      intro e
      have l1 := hbv u hu k hob
      have l2 := (hxs.row.lt k e.symm).1
      omega
  · intro t ht
    obtain ⟨xs, hxs⟩ := hmem t ht
    cases hob : t.ownBlock with
    | none => exact Or.inl rfl
    | some k =>
      right
      intro e
      have l1 := h.top.lt k e.symm
      have l2 := (hxs.row.lt k hob).1
      omega

/-- 'out = append(out, []int{p, q})', out a list of pairs that the call itself has built. -/
theorem wpList_app_pair {ops : Array Oper} {rest : List Oper} {o : Oper} {a : Act} {Q : Exit → Act → World → Prop} (hgd : o.guard = none) (s x : Operand)
    (ho : o.op = .call { callee := .builtin .append, args := #[s, x], argTypes := #[23, 23] })
    (wr : World) (p q : Int) (lo : Nat) (v : Value) (vs : List Value) (xss : List (List Int)) (hR : OwnR wr lo wr.heap.size v vs xss) (hlo : lo ≤ wr.heap.size) (hlen : xss.length ≤ 1000000)
    (hs : a.eval s = v) (hx : a.eval x = .slice (some ⟨wr.heap.size + 1, 0, none⟩) 1 1)
    (h : ∀ g L cap w' vs', Hid (L = xss.length + 1) → OwnR w' lo w'.heap.size (.slice (some ⟨g, 0, none⟩) L cap) vs' (xss ++ [[p, q]]) → Below lo wr w' → lo ≤ w'.heap.size →
      wpList Tryz.prog ops Q rest (a.put o.dst (.slice (some ⟨g, 0, none⟩) L cap)) w') :
    wpList Tryz.prog ops Q (o :: rest) a ((wr.alloc (.cells #[.int .i64 p, .int .i64 q] 3)).alloc (.cells #[.slice (some ⟨wr.heap.size, 0, none⟩) 2 2] 27)) := by
  obtain ⟨i0, hi, hz0, hz1, hz2⟩ := info_parts Tryz.infoS
  have hR2 := (hR.alloc (.cells #[.int .i64 p, .int .i64 q] 3)).alloc (.cells #[.slice (some ⟨wr.heap.size, 0, none⟩) 2 2] 27)
  have hU : OwnI ((wr.alloc (.cells #[.int .i64 p, .int .i64 q] 3)).alloc (.cells #[.slice (some ⟨wr.heap.size, 0, none⟩) 2 2] 27)) wr.heap.size ((wr.alloc (.cells #[.int .i64 p, .int .i64 q] 3)).alloc (.cells #[.slice (some ⟨wr.heap.size, 0, none⟩) 2 2] 27)).heap.size (.slice (some ⟨wr.heap.size, 0, none⟩) 2 2) [p, q] :=
    Own.mono (Own.alloc (ownI_pair wr p q) _) (Nat.le_refl _) (by simp)
  have hblk : ((wr.alloc (.cells #[.int .i64 p, .int .i64 q] 3)).alloc (.cells #[.slice (some ⟨wr.heap.size, 0, none⟩) 2 2] 27)).heap[wr.heap.size + 1]? = some (.cells #[.slice (some ⟨wr.heap.size, 0, none⟩) 2 2] 27) := by
    have := blk_new (wr.alloc (.cells #[.int .i64 p, .int .i64 q] 3)) (.cells #[.slice (some ⟨wr.heap.size, 0, none⟩) 2 2] 27)
    rwa [show (wr.alloc (.cells #[.int .i64 p, .int .i64 q] 3)).heap.size = wr.heap.size + 1 from by simp] at this
  have hbel : Below lo wr ((wr.alloc (.cells #[.int .i64 p, .int .i64 q] 3)).alloc (.cells #[.slice (some ⟨wr.heap.size, 0, none⟩) 2 2] 27)) := ((Below.refl _ _).alloc hlo _).alloc (by simp; omega) _
  generalize ((wr.alloc (.cells #[.int .i64 p, .int .i64 q] 3)).alloc (.cells #[.slice (some ⟨wr.heap.size, 0, none⟩) 2 2] 27)) = W at *
  refine wpList_append_own W hgd s x 23 ho lo 27 i0 (.slice none 0 0) 1 24 Tryz.underlying23 hi hz0 hz1 hz2 rfl (by decide) v vs.length vs hs hR2.top.row ⟨wr.heap.size + 1, 0, none⟩ 1 1 [.slice (some ⟨wr.heap.size, 0, none⟩) 2 2] hx rfl ?_ ?_ ?_ ?_ ?_ ?_
  · intro j u hj
    match j, hj with
    | 0, hj => simp at hj; subst hj; exact blk_cell hblk 0
  · intro u hu; simp at hu; subst hu; rfl
  · have := hR.len; unfold maxLen; omega
  · have := hR.len; omega
  · have := hbel.size; omega
  · intro v' w' hown hg hnil
    have ho2 : OwnR w' lo w'.heap.size v' (vs ++ [.slice (some ⟨wr.heap.size, 0, none⟩) 2 2]) (xss ++ [[p, q]]) :=
      hR2.app hlo rfl (fun i u xs a b => by
        match i, a, b with
        | 0, a, b => simp at a b; subst a b; exact hU) (.cons (by simp) .nil) hown hg
    have hsh : ∃ g cap, v' = .slice (some ⟨g, 0, none⟩) (xss.length + 1) cap := by
      rcases hown.2 with ⟨_, h0⟩ | ⟨g, cap, cur, e, _⟩
      · simp at h0
      · exact ⟨g, cap, by rw [e]; simp [hR.len]⟩
    obtain ⟨g, cap, rfl⟩ := hsh
    refine h g _ cap w' _ rfl ho2 (hbel.grown hg (by have := hbel.size; omega) fun k hk => (hR2.top.row.lt k hk).1) ?_
    have := hbel.size; have := hg.size; omega

/-- A variable that holds a network: its block X, and the list of pairs in blocks behind it. -/
structure NB (w : World) (X : Nat) (n : Int) (v : Value) (vs : List Value) (xss : List (List Int)) : Prop where
  box : w.heap[X]? = some (.cells #[.int .i64 n, v] 25 (0, 0))
  own : OwnR w (X + 1) w.heap.size v vs xss

theorem NB.lt {w : World} {X : Nat} {n : Int} {v : Value} {vs : List Value} {xss : List (List Int)} (h : NB w X n v vs xss) : X < w.heap.size := lt_of_block h.box

theorem NB.store {w : World} {X : Nat} {n : Int} {v0 v : Value} {vs : List Value} {xss : List (List Int)} (h : w.heap[X]? = some (.cells #[.int .i64 n, v0] 25 (0, 0))) (o : OwnR w (X + 1) w.heap.size v vs xss) :
    NB (w.setCell ⟨X, 1, none⟩ v) X n v vs xss := by
  have hlt : X < w.heap.size := lt_of_block h
  have hsz : (w.setCell ⟨X, 1, none⟩ v).heap.size = w.heap.size := by simp [World.setCell]
  refine ⟨?_, ?_⟩
  · have h' : w.heap[X] = .cells #[.int .i64 n, v0] 25 (0, 0) := by simpa [Array.getElem?_eq_getElem hlt] using h
    show (w.heap.modify X _)[X]? = _
    rw [Array.getElem?_eq_getElem (by simpa using hlt), Array.getElem_modify_self, h']
    rfl
  · rw [hsz]
    exact o.kept fun k k1 _ _ => Below.heap_setCell _ _ _ _ (by show k ≠ X; omega)

theorem NB.cells {w : World} {X : Nat} {n : Int} {v : Value} {vs : List Value} {xss : List (List Int)} (h : NB w X n v vs xss) :
    w.cell? ⟨X, 0, none⟩ = some (.int .i64 n) ∧ w.cell? ⟨X, 1, none⟩ = some v ∧ w.frozen? ⟨X, 0, none⟩ = false ∧ w.frozen? ⟨X, 1, none⟩ = false :=
  ⟨blk_cell h.box 0, blk_cell h.box 1, blk_free h.box 0, blk_free h.box 1⟩

/-- The start of a function that builds a network: its result's place and its variable. -/
theorem netInit (w : World) (n : Int) : ∃ W, (w.alloc (.cells #[.int .i64 0, .slice none 0 0] 25)).alloc (.cells #[.int .i64 n, .slice none 0 0] 25) = W ∧
    NB W (w.heap.size + 1) n (.slice none 0 0) [] [] ∧ W.heap[w.heap.size]? = some (.cells #[.int .i64 0, .slice none 0 0] 25 (0, 0)) ∧ Below w.heap.size w W ∧ W.heap.size = w.heap.size + 2 := by
  have h1 := blk_new w (.cells #[.int .i64 0, .slice none 0 0] 25)
  have h2 := blk_new (w.alloc (.cells #[.int .i64 0, .slice none 0 0] 25)) (.cells #[.int .i64 n, .slice none 0 0] 25)
  rw [show (w.alloc (.cells #[.int .i64 0, .slice none 0 0] 25)).heap.size = w.heap.size + 1 from by simp] at h2
  exact ⟨_, rfl, ⟨h2, OwnR.nil _ _ _⟩, blk_old h1 _, ((Below.refl _ _).alloc (Nat.le_refl _) _).alloc (by simp) _, by simp⟩

/-- The end of such a function. -/
theorem netFin {w wr : World} {X : Nat} {n m : Int} {v u : Value} {vs : List Value} {xss : List (List Int)} (h : NB wr X n v vs xss) (hX : w.heap.size ≤ X) (hr : wr.heap[w.heap.size]? = some (.cells #[.int .i64 m, u] 25 (0, 0))) (hb : Below w.heap.size w wr) :
    OwnR ((wr.setCell ⟨w.heap.size, 0, none⟩ (.int .i64 n)).setCell ⟨w.heap.size, 1, none⟩ v) w.heap.size ((wr.setCell ⟨w.heap.size, 0, none⟩ (.int .i64 n)).setCell ⟨w.heap.size, 1, none⟩ v).heap.size v vs xss ∧
    Below w.heap.size w ((wr.setCell ⟨w.heap.size, 0, none⟩ (.int .i64 n)).setCell ⟨w.heap.size, 1, none⟩ v) ∧
    wr.cell? ⟨w.heap.size, 0, none⟩ = some (.int .i64 m) ∧ wr.cell? ⟨w.heap.size, 1, none⟩ = some u ∧ wr.frozen? ⟨w.heap.size, 0, none⟩ = false ∧ wr.frozen? ⟨w.heap.size, 1, none⟩ = false := by
  have hs : ((wr.setCell ⟨w.heap.size, 0, none⟩ (.int .i64 n)).setCell ⟨w.heap.size, 1, none⟩ v).heap.size = wr.heap.size := by simp [World.setCell]
  refine ⟨?_, (hb.setCell (Nat.le_refl _) _).setCell (Nat.le_refl _) _, blk_cell hr 0, blk_cell hr 1, blk_free hr 0, blk_free hr 1⟩
  rw [hs]
  refine (h.own.kept fun k k1 _ _ => ?_).mono (by omega) (Nat.le_refl _)
  rw [Below.heap_setCell _ _ _ _ (by show k ≠ w.heap.size; omega), Below.heap_setCell _ _ _ _ (by show k ≠ w.heap.size; omega)]

/-- The call hands back the network of n wires with the pairs 'xss', in new memory, and the Bool 'b'. -/
def NetC (w : World) (n : Int) (xss : List (List Int)) (b : Bool) (e : Ending) (w' : World) : Prop :=
  ∃ v vs, e = .returned (.tuple #[.agg #[.int .i64 n, v], .bool b]) ∧ OwnR w' w.heap.size w'.heap.size v vs xss ∧ Below w.heap.size w w'

end Go.Proofs.YtiodolbgapjmkaaGreatDoor
