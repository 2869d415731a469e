/- The reference's standard form of a network: its comparators are standard ones. Conditions: the network is valid. -/
import Derived.Test.YtiodolbgapjmkaaDraw
import Derived.Test.YtiodolbgapjmkaaApply
import Derived.Test.YtiodolbgapjmkaaWires
namespace Go.Proofs.Ytiodolbgapjmkaa
open Go.RowKit
set_option maxRecDepth 100000
set_option linter.unusedVariables false

/-- 'out = append(out, []int{p, q})', where the world's size is known by another name. -/
theorem wpList_app_pair_z {ops : Array Oper} {rest : List Oper} {o : Oper} {a : Act} {Q : Exit → Act → World → Prop} (hgd : o.guard = none) (s x : Operand)
    (ho : o.op = .call { callee := .builtin .append, args := #[s, x], argTypes := #[28, 28] })
    (wr : World) (z : Nat) (hz : Hid (z = wr.heap.size)) (p q : Int) (lo : Nat) (v : Value) (vs : List Value) (xss : List (List Int)) (hR : OwnR wr lo wr.heap.size v vs xss) (hlo : lo ≤ wr.heap.size) (hlen : xss.length ≤ 1000000)
    (hs : a.eval s = v) (hx : a.eval x = .slice (some ⟨z + 1, 0, none⟩) 1 1)
    (h : ∀ g L cap w' vs', Hid (L = xss.length + 1) → OwnR w' lo w'.heap.size (.slice (some ⟨g, 0, none⟩) L cap) vs' (xss ++ [[p, q]]) → Below lo wr w' → lo ≤ w'.heap.size →
      wpList Try.prog ops Q rest (a.put o.dst (.slice (some ⟨g, 0, none⟩) L cap)) w') :
    wpList Try.prog ops Q (o :: rest) a ((wr.alloc (.cells #[.int .i64 p, .int .i64 q] 3)).alloc (.cells #[.slice (some ⟨z, 0, none⟩) 2 2] 22)) := by
  have e := hz.out
  subst e
  exact wpList_app_pair hgd s x ho wr p q lo v vs xss hR hlo hlen hs hx h
theorem NB.far {w : World} {X g i : Nat} {n : Int} {v y : Value} {vs : List Value} {xss : List (List Int)} (h : NB w X n v vs xss) (hg : g < X) : NB (w.setCell ⟨g, i, none⟩ y) X n v vs xss := by
  refine ⟨(Below.heap_setCell _ _ _ _ (by show X ≠ g; omega)).trans h.box, ?_⟩
  rw [show (w.setCell ⟨g, i, none⟩ y).heap.size = w.heap.size from by simp [World.setCell]]
  exact h.own.kept fun k h1 _ _ => Below.heap_setCell _ _ _ _ (by show k ≠ g; omega)
theorem size_two (w : World) (a b : Addr) (x y : Value) : w.heap.size = ((w.setCell a x).setCell b y).heap.size := by simp [World.setCell]
/-- n different numbers below n. -/
def permP (n : Nat) (ns : List Int) : Prop := ns.length = n ∧ (∀ i, i < n → 0 ≤ ns.getD i 0 ∧ ns.getD i 0 < n) ∧ ∀ i j, i < n → j < n → i ≠ j → ns.getD i 0 ≠ ns.getD j 0
theorem upI_getD (n i : Nat) (h : i < n) : (upI 0 n).getD i 0 = (i : Int) := by simp [upI, h]
theorem permP_up (n : Nat) : permP n (upI 0 n) := by
  refine ⟨upI_length _ _, fun i hi => ?_, fun i j hi hj hne => ?_⟩
  · rw [upI_getD n i hi]; omega
  · rw [upI_getD n i hi, upI_getD n j hj]; omega
theorem getD_set_eq' (xs : List Int) (i : Nat) (x : Int) (h : i < xs.length) : (xs.set i x).getD i 0 = x := by simp [List.getD, h]
theorem swap_getD (ns : List Int) (i j k : Nat) (hi : i < ns.length) (hj : j < ns.length) (hne : i ≠ j) :
    ((ns.set i (ns.getD j 0)).set j (ns.getD i 0)).getD k 0 = if k = i then ns.getD j 0 else if k = j then ns.getD i 0 else ns.getD k 0 := by
  by_cases h1 : k = i
  · rw [if_pos h1, h1, getD_set_ne' _ _ _ _ (Ne.symm hne), getD_set_eq' _ _ _ hi]
  · rw [if_neg h1]
    by_cases h2 : k = j
    · rw [if_pos h2, h2, getD_set_eq' _ _ _ (by simpa using hj)]
    · rw [if_neg h2, getD_set_ne' _ _ _ _ (fun e => h2 e.symm), getD_set_ne' _ _ _ _ (fun e => h1 e.symm)]
theorem permP_swap {n : Nat} {ns : List Int} (h : permP n ns) {i j : Nat} (hi : i < n) (hj : j < n) (hne : i ≠ j) : permP n ((ns.set i (ns.getD j 0)).set j (ns.getD i 0)) := by
  obtain ⟨h1, h2, h3⟩ := h
  have e := fun k => swap_getD ns i j k (by omega) (by omega) hne
  refine ⟨by simp [h1], fun k hk => ?_, fun k l hk hl hkl => ?_⟩
  · rw [e k]
    split
    · exact h2 j hj
    · split
      · exact h2 i hi
      · exact h2 k hk
  · rw [e k, e l]
    have a1 := h3 i j hi hj hne
    have a2 := h3 j i hj hi (Ne.symm hne)
    have a3 := fun q : k ≠ i => h3 k i hk hi q
    have a4 := fun q : k ≠ j => h3 k j hk hj q
    have a5 := fun q : i ≠ l => h3 i l hi hl q
    have a6 := fun q : j ≠ l => h3 j l hj hl q
    have a7 := h3 k l hk hl hkl
    split <;> split <;> (try split) <;> (try split) <;> (try omega) <;> first | (apply a6; omega) | (apply a5; omega) | (apply a4; omega) | (apply a3; omega) | exact a7 | exact a2 | exact a1
end Go.Proofs.Ytiodolbgapjmkaa
