/- Networks that often sort, as the laws draw them, and their standard forms. Conditions: the code has at most 1048576 bytes. -/
import Derived.Test.YtiodolbgapjmkaaStdS
import Derived.Test.YtiodolbgapjmkaaPast
import Derived.Lib.SliceRun
import Derived.Deep.RegionHeld3
namespace Go.Proofs.Ytiodolbgapjmkaa
open Go.RowKit
set_option maxRecDepth 100000
set_option linter.unusedVariables false

/-- Cells of a list of lists appended to another such list of the call's own: what becomes of the list's own block. -/
theorem wp_app_cells {o : Oper} {a : Act} {K : Act → World → Prop} {Q : Exit → Act → World → Prop} (s x : Operand)
    (ho : o.op = .call { callee := .builtin .append, args := #[s, x], argTypes := #[28, 28] })
    (W : World) (lo hi : Nat) (v : Value) (vs : List Value) (ad : Addr) (m c : Nat) (ws : List Value) (hR : Own 22 W lo hi v vs) (hlo : lo ≤ W.heap.size)
    (hm : ws.length = m) (hcell : ∀ (j : Nat) (t : Value), ws[j]? = some t → W.cell? (ad.add j) = some t) (h1 : ∀ t ∈ ws, t.oneCell' = true) (hlen : vs.length + ws.length ≤ 1000000)
    (hs : a.eval s = v) (hx : a.eval x = .slice (some ad) m c)
    (h : ∀ ao L cap w', Hid (L = vs.length + ws.length) → Own 22 w' lo w'.heap.size (.slice ao L cap) (vs ++ ws) → W.grownBy w' v.ownBlock → K (a.put o.dst (.slice ao L cap)) w') :
    o.wp Try.prog a W K Q := by
  obtain ⟨i0, hi0, hz0, hz1, hz2⟩ := info_parts Try.infoS
  refine wp_append_own W s x 28 ho lo 22 i0 (.slice none 0 0) 1 24 Try.underlying28 hi0 hz0 hz1 hz2 rfl (by decide) v vs.length vs hs hR.row ad m c ws (by rw [hx]) (by omega) hcell h1 (by unfold maxLen; omega) (by omega) hlo ?_
  intro v' w' hown hg hnil
  have ho2 : Own 22 w' lo w'.heap.size v' (vs ++ ws) := by
    refine Own.of_row ?_
    rw [List.length_append, hm]
    exact hown
  obtain ⟨ao, g2, cap2, e, -, -, -⟩ := ho2.view
  rw [List.length_append] at e
  subst e
  exact h ao _ cap2 w' rfl ho2 hg
theorem own_emptyS (w : World) : Own 22 (w.alloc (.cells #[] 22)) w.heap.size (w.heap.size + 1) (.slice (some ⟨w.heap.size, 0, none⟩) 0 0) [] := (ownR_empty w).top
theorem grown_below {w w' : World} {D : Nat} {row : Option Nat} (h : w.grownBy w' row) (hD : D ≤ w.heap.size) (hr : ∀ k, row = some k → D ≤ k) : Below D w w' :=
  ⟨h.os, h.tape, h.output, h.size, fun k hk => h.block k (by omega) (fun e => by have := hr k e.symm; omega)⟩
/-- A list of lists without one of its rows, whose cells lie in a new block. -/
theorem ownR_without {w w' : World} {lo hi : Nat} {v v' : Value} {vs : List Value} {xss : List (List Int)} (h : OwnR w lo hi v vs xss) (k : Nat) (hk : k < xss.length) (hb : Below hi w w') (hlo : lo ≤ hi) (hh : hi ≤ w.heap.size)
    (ht : Own 22 w' lo w'.heap.size v' (vs.take k ++ vs.drop (k + 1))) : OwnR w' lo w'.heap.size v' (vs.take k ++ vs.drop (k + 1)) (xss.take k ++ xss.drop (k + 1)) := by
  have hl := h.len
  have hz := hb.size
  refine ⟨ht, by simp [hl], fun i u xs h1 h2 => ?_, ?_⟩
  · have hvl : (vs.take k).length = k := by rw [List.length_take]; omega
    have hxl : (xss.take k).length = k := by rw [List.length_take]; omega
    rcases (by omega : i < k ∨ k ≤ i) with hi' | hi'
    · rw [List.getElem?_append_left (by omega), List.getElem?_take_of_lt hi'] at h1 h2
      exact Own.mono (Own.below (h.row i u xs h1 h2) hb (Nat.le_refl _)) (Nat.le_refl _) (by omega)
    · rw [List.getElem?_append_right (by omega), List.getElem?_drop, hvl] at h1
      rw [List.getElem?_append_right (by omega), List.getElem?_drop, hxl] at h2
      exact Own.mono (Own.below (h.row _ u xs h1 h2) hb (Nat.le_refl _)) (Nat.le_refl _) (by omega)
  · have := h.sep
    refine List.Pairwise.sublist ?_ this
    have e : vs.take k ++ vs.drop (k + 1) = vs.eraseIdx k := by rw [List.eraseIdx_eq_take_drop_succ]
    rw [e]
    exact List.eraseIdx_sublist vs k
theorem pairUp_without {n : Nat} {up : Bool} {xss : List (List Int)} (h : pairUp n up xss) (k : Nat) : pairUp n up (xss.take k ++ xss.drop (k + 1)) := by
  intro r hr
  rw [List.mem_append] at hr
  rcases hr with hr | hr
  · exact h r (List.mem_of_mem_take hr)
  · exact h r (List.mem_of_mem_drop hr)
theorem box_new {w : World} {X : Nat} {c : Array Value} {T : TypeId} {f : Nat × Nat} (h : w.heap[X]? = some (.cells c T f)) {w' : World} (hb : Below w.heap.size w w') : w'.heap[X]? = some (.cells c T f) := (hb.block X (lt_of_block h)).trans h

/-- A drawn standard network. -/
def drawnS (n : Nat) (xss : List (List Int)) : Prop := 1 ≤ n ∧ n ≤ 6 ∧ pairUp n true xss ∧ xss.length ≤ 40
end Go.Proofs.Ytiodolbgapjmkaa
