/- Lists of pairs put together: 'append(out, more...)' as one step of a walk, and what it means that a call hands back a list of pairs of its own. Conditions: none. -/
import Derived.Test.YtiodolbgapjmkaaGreatDoorApp
namespace Go.Proofs.YtiodolbgapjmkaaGreatDoor
open Go.RowKit

/-- The call hands back the rows 'xss' in new memory. -/
def RowC (w : World) (xss : List (List Int)) (e : Ending) (w' : World) : Prop :=
  ∃ v vs, e = .returned v ∧ OwnR w' w.heap.size w'.heap.size v vs xss ∧ Below w.heap.size w w'

theorem undrew {B : Nat} {w w' : World} (h : Below B w.drew w') : Below B w w' := ⟨h.os, h.tape, h.output, h.size, h.block⟩

theorem ownR_empty (w : World) : OwnR (w.alloc (.cells #[] 27)) w.heap.size (w.heap.size + 1) (.slice (some ⟨w.heap.size, 0, none⟩) 0 0) [] [] := by
  refine ⟨⟨⟨rfl, .inr ⟨w.heap.size, 0, #[], rfl, Nat.le_refl _, blk_new w _, Nat.le_refl _, by unfold maxLen; omega, rfl, rfl⟩⟩, fun k hk => ?_⟩, rfl, by simp, .nil⟩
  simp [Value.ownBlock] at hk
  omega

theorem wp_app_rows {o : Oper} {a : Act} {K : Act → World → Prop} {Q : Exit → Act → World → Prop} (s x : Operand)
    (ho : o.op = .call { callee := .builtin .append, args := #[s, x], argTypes := #[23, 23] })
    (W : World) (lo mid : Nat) (v u : Value) (vs us : List Value) (xss yss : List (List Int)) (hR : OwnR W lo mid v vs xss) (hS : OwnR W mid W.heap.size u us yss) (hlo : lo ≤ mid) (hmid : mid ≤ W.heap.size)
    (hlen : xss.length + yss.length ≤ 1000000) (hs : a.eval s = v) (hx : a.eval x = u)
    (h : ∀ ao L cap w' vs', Hid (L = xss.length + yss.length) → OwnR w' lo w'.heap.size (.slice ao L cap) vs' (xss ++ yss) → Below lo W w' → lo ≤ w'.heap.size → K (a.put o.dst (.slice ao L cap)) w') :
    o.wp Tryz.prog a W K Q := by
  obtain ⟨i0, hi, hz0, hz1, hz2⟩ := info_parts Tryz.infoS
  have hl1 := hR.len
  have hl2 := hS.len
  rcases hS.top.row.2 with ⟨hu, hn⟩ | ⟨g, cap, cur, hu, hg, hh, hnc, hm, hcs, ht⟩
  · have hus : us = [] := List.eq_nil_of_length_eq_zero hn
    have hys : yss = [] := List.eq_nil_of_length_eq_zero (by omega)
    have hrun := run_append_owned_none (P := Tryz.prog) (w := W) lo 23 o.type 27 i0 1 Tryz.underlying23 hi v vs.length vs hR.top.row
    have hK : K (a.put o.dst v) W := by
      obtain ⟨ao, g, cap, e, -, -, -⟩ := hR.rows
      rw [e]
      refine h ao _ cap W vs (by show _ = _; rw [hys]; rfl) ?_ (Below.refl _ _) (by omega)
      rw [← e, hys, List.append_nil]
      exact hR.mono (Nat.le_refl _) hmid
    rw [hu] at hx
    unfold Oper.wp
    simp [execOp, ho, resolve, invoke, builtin, hs, hx, hrun, Result.andThen]
    exact hK
  · have hcell : ∀ (j : Nat) (t : Value), us[j]? = some t → W.cell? ((⟨g, 0, none⟩ : Addr).add j) = some t := hS.top.row.cells (g := g) (by rw [hu]; rfl)
    refine wp_append_own W s x 23 ho lo 27 i0 (.slice none 0 0) 1 24 Tryz.underlying23 hi hz0 hz1 hz2 rfl (by decide) v vs.length vs hs hR.top.row ⟨g, 0, none⟩ us.length cap us (by rw [hx, hu]) (by simp) ?_ ?_ ?_ ?_ ?_ ?_
    · exact hcell
    · exact hS.oneCell
    · unfold maxLen; omega
    · omega
    · omega
    · intro v' w' hown hg hnil
      have ho2 : OwnR w' lo w'.heap.size v' (vs ++ us) (xss ++ yss) := hR.app hlo hl2 (fun i t xs a b => hS.row i t xs a b) hS.sep hown hg
      obtain ⟨ao, g2, cap2, e, -, -, -⟩ := ho2.rows
      rw [List.length_append] at e
      subst e
      refine h ao _ cap2 w' _ rfl ho2 ((Below.refl _ _).grown hg (by omega) fun k hk => (hR.top.row.lt k hk).1) ?_
      have := hg.size; omega

theorem wpList_app_rows {ops : Array Oper} {rest : List Oper} {o : Oper} {a : Act} {Q : Exit → Act → World → Prop} (hgd : o.guard = none) (s x : Operand)
    (ho : o.op = .call { callee := .builtin .append, args := #[s, x], argTypes := #[23, 23] })
    (W : World) (lo mid : Nat) (v u : Value) (vs us : List Value) (xss yss : List (List Int)) (hR : OwnR W lo mid v vs xss) (hS : OwnR W mid W.heap.size u us yss) (hlo : lo ≤ mid) (hmid : mid ≤ W.heap.size)
    (hlen : xss.length + yss.length ≤ 1000000) (hs : a.eval s = v) (hx : a.eval x = u)
    (h : ∀ ao L cap w' vs', Hid (L = xss.length + yss.length) → OwnR w' lo w'.heap.size (.slice ao L cap) vs' (xss ++ yss) → Below lo W w' → lo ≤ w'.heap.size →
      wpList Tryz.prog ops Q rest (a.put o.dst (.slice ao L cap)) w') :
    wpList Tryz.prog ops Q (o :: rest) a W :=
  wpList_plain hgd fun _ hK => wp_app_rows s x ho W lo mid v u vs us xss yss hR hS hlo hmid hlen hs hx fun ao L cap w' vs' h1 h2 h3 h4 => hK _ _ (h ao L cap w' vs' h1 h2 h3 h4)
end Go.Proofs.YtiodolbgapjmkaaGreatDoor
