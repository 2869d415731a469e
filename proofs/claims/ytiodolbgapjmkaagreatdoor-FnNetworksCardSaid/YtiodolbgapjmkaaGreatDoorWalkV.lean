/- A region whose order is open, with two stores in it: facts that hold until the first store, and others that hold until the last. Conditions: those facts hold behind every other operation. -/
import Derived.Test.YtiodolbgapjmkaaGreatDoorWalkU
namespace Go.Proofs.YtiodolbgapjmkaaGreatDoor
open Go
set_option linter.unusedVariables false
section
variable {P : Program} {ops : Array Oper} {Q : Exit → Act → World → Prop} {md : Region.Mode} {S S2 : World → Prop} {m m2 : Nat}

/-- Whatever order is picked from here on; the fact S holds until number m is done, the fact S2 until number m2 is. -/
def wpV (P : Program) (md : Region.Mode) (ops : Array Oper) (Q : Exit → Act → World → Prop) (S : World → Prop) (m : Nat) (S2 : World → Prop) (m2 : Nat) : Nat → Array Bool → Act → World → Prop
  | 0, L, a, w => Region.ready md ops L = [] ∧ Q .normal a w
  | k + 1, L, a, w => (Region.ready md ops L = [] → Q .normal a w) ∧
      ∀ i ∈ Region.ready md ops L, wpOp P ops Q i (fun a' w' => ((i = m ∨ L.getD m true = true ∨ S w') ∧ (i = m2 ∨ L.getD m2 true = true ∨ S2 w')) ∧ wpV P md ops Q S m S2 m2 k (L.setIfInBounds i true) a' w') a w

theorem wpV_any : ∀ (k : Nat) (L : Array Bool) (a : Act) (w : World), wpV P md ops Q S m S2 m2 k L a w → wpAny P md ops Q k L a w
  | 0, _, _, _, h => h
  | k + 1, _, _, _, h => ⟨h.1, fun i hi => wpOp_mono (fun a' w' x => wpV_any k _ a' w' x.2) (h.2 i hi)⟩
theorem wpV_swap : ∀ {k : Nat} {L : Array Bool} {a : Act} {w : World}, wpV P md ops Q S m S2 m2 k L a w → wpV P md ops Q S2 m2 S m k L a w
  | 0, _, _, _, h => h
  | k + 1, _, _, _, h => ⟨h.1, fun i hi => wpOp_mono (fun a' w' x => ⟨⟨x.1.2, x.1.1⟩, wpV_swap x.2⟩) (h.2 i hi)⟩

theorem wpV_first {i : Nat} (hi2 : i ≠ m2) {oi : Oper} {v : Value} (hi : ops[i]? = some oi) (hsel : ∀ (j : Nat) (o : Oper) cs b, ops[j]? = some o → o.op ≠ .select cs b)
    (hQ : ∀ c a w, Q (.panic c) (a.put oi.dst v) w → Q (.panic c) a w) (hw : waitsB md ops m i = true) :
    ∀ (k : Nat) (L : Array Bool) (a : Act) (w : World),
      (∀ j oj, ops[j]? = some oj → j ≠ i → L.getD j true = false → (∀ e ∈ oj.after, Region.binds md e = true → e.on ≠ i) → oi.apart ops oj = true) →
      i ∈ Region.ready md ops L → L.getD m true = false → YieldsIf P ops S oi v a → S w → (L.getD m2 true = true ∨ S2 w) →
      wpV P md ops Q S m S2 m2 k (L.setIfInBounds i true) (a.put oi.dst v) w → wpV P md ops Q S m S2 m2 (k + 1) L a w := by
  intro k
  induction k with
  | zero =>
    intro L a w _ hr _ hy hS hS2 H
    refine ⟨fun h => (by rw [h] at hr; cases hr), fun j hj => ?_⟩
    by_cases hji : j = i
    · subst hji
      exact hy.wpOp hi hS ⟨⟨.inr (.inr hS), .inr hS2⟩, H⟩
    · have := ready_mono hj hji
      rw [H.1] at this
      cases this
  | succ k ih =>
    intro L a w hfree hr hm hy hS hS2 H
    refine ⟨fun h => (by rw [h] at hr; cases hr), fun j hj => ?_⟩
    by_cases hji : j = i
    · subst hji
      exact hy.wpOp hi hS ⟨⟨.inr (.inr hS), .inr hS2⟩, H⟩
    · have hun := (mem_ready.1 hr).1
      have hun2 : L.getD i false = false := by
        rcases Nat.lt_or_ge i L.size with h | h
        · simpa [h] using hun
        · simp [Array.getElem?_eq_none h]
      have hjm : j ≠ m := fun h => not_ready_of_waits hw hun2 (h ▸ hj)
      have him : i ≠ m := fun h => not_ready_of_waits hw hun2 (by rw [← h]; exact hr)
      obtain ⟨hjun, oj, hoj, hall⟩ := mem_ready.1 hj
      have hnot : ∀ e ∈ oj.after, Region.binds md e = true → e.on ≠ i := fun e he hb heq => by
        have h1 := hall e he hb
        rw [heq, hun2] at h1
        cases h1
      have h2 := wpOp_putIf hoj (hfree j oj hoj hji hjun hnot) (fun cs b => hsel i oi cs b hi) (fun cs b => hsel j oj cs b hoj) hQ hy (H.2 j (ready_mono hj hji))
      refine wpOp_mono (fun a' w' x => ?_) h2
      obtain ⟨x1, ⟨x2, x4⟩, x3⟩ := x
      have hS' : S w' := by
        rcases x2 with h | h | h
        · exact absurd h hjm
        · rw [getD_set_ne true him, hm] at h
          cases h
        · exact h
      rw [getD_set_ne true hi2] at x4
      have x6 : (L.setIfInBounds j true).getD m2 true = true ∨ S2 w' := by
        rcases x4 with h | h | h
        · subst h
          refine .inl ?_
          rcases Nat.lt_or_ge j L.size with q | q
          · simp [q]
          · simp [q]
        · refine .inl ?_
          by_cases hj2 : j = m2
          · subst hj2
            rcases Nat.lt_or_ge j L.size with q | q
            · simp [q]
            · simp [q]
          · rw [getD_set_ne true hj2]; exact h
        · exact .inr h
      refine ⟨⟨.inr (.inr hS'), x4⟩, ih (L.setIfInBounds j true) a' w' (fun q oq hq hqi hu hno => hfree q oq hq hqi ?_ hno) (ready_mono hr (Ne.symm hji)) (by rw [getD_set_ne true hjm]; exact hm) x1 hS' x6 (by rw [Array.setIfInBounds_comm _ _ hji]; exact x3)⟩
      by_cases hjq : j = q
      · subst hjq; exact hjun
      · rw [getD_set_ne true hjq] at hu; exact hu
/-- Number i is taken first; m waits for it. -/
theorem wpV_take {i : Nat} {oi : Oper} {v : Value} {k : Nat} {L : Array Bool} {a : Act} {w : World} (hi' : ops.toList[i]? = some oi)
    (hc : (Region.noSelect ops && Region.free md ops L i && (Region.ready md ops L).contains i && waitsB md ops m i && !L.getD m true && !(i == m2)) = true)
    (hQ : ∀ c a w, Q (.panic c) (a.put oi.dst v) w → Q (.panic c) a w) (hy : Region.wanted oi (yielded ops a.tmps) = true ∧ ∀ w, S w → (execOp a.eval oi).run P w = .ok (.value v) w) (hS : S w ∧ S2 w)
    (h : wpV P md ops Q S m S2 m2 k (L.setIfInBounds i true) (a.put oi.dst v) w) : wpV P md ops Q S m S2 m2 (k + 1) L a w := by
  have hi : ops[i]? = some oi := by simpa using hi'
  simp only [Bool.and_eq_true, Bool.not_eq_true'] at hc
  obtain ⟨⟨⟨⟨⟨h1, h2⟩, h3⟩, h4⟩, h5⟩, h6⟩ := hc
  exact wpV_first (by simpa using h6) hi (Region.noSelect_spec h1) hQ h4 k L a w (Region.free_spec hi h2) (by simpa using h3) h5 (.inl hy) hS.1 (.inr hS.2) h
/-- Number m alone may come up. -/
theorem wpV_one {o : Oper} {k : Nat} {L : Array Bool} {a : Act} {w : World} (hr : Region.ready md ops L = [m]) (ho' : ops.toList[m]? = some o)
    (h : ∀ K' : Act → World → Prop, Shut (∀ a w, S2 w → wpV P md ops Q S m S2 m2 k (L.setIfInBounds m true) a w → K' a w) →
      if Region.wanted o (yielded ops a.tmps) = true then Oper.wp P o a w K' Q else K' (a.put o.dst undef) w) : wpV P md ops Q S m S2 m2 (k + 1) L a w := by
  refine ⟨fun h0 => (by rw [hr] at h0; cases h0), fun j hj => ?_⟩
  rw [hr] at hj
  simp at hj
  subst hj
  have ho : ops[j]? = some o := by simpa using ho'
  exact wpOp_step ho fun K' hK => h K' fun a w h1 h2 => hK a w ⟨⟨.inl rfl, .inr (.inr h1)⟩, h2⟩
/-- Behind number m: one operation alone may come up, and the fact S2 holds behind it, or it is m2. -/
theorem wpV_next {i : Nat} {o : Oper} {k : Nat} {L : Array Bool} {a : Act} {w : World} (hr : Region.ready md ops L = [i]) (ho' : ops.toList[i]? = some o) (hm : L.getD m true = true)
    (h : ∀ K' : Act → World → Prop, Shut (∀ a w, (i = m2 ∨ S2 w) → wpV P md ops Q S m S2 m2 k (L.setIfInBounds i true) a w → K' a w) →
      if Region.wanted o (yielded ops a.tmps) = true then Oper.wp P o a w K' Q else K' (a.put o.dst undef) w) : wpV P md ops Q S m S2 m2 (k + 1) L a w := by
  refine ⟨fun h0 => (by rw [hr] at h0; cases h0), fun j hj => ?_⟩
  rw [hr] at hj
  simp at hj
  subst hj
  have ho : ops[j]? = some o := by simpa using ho'
  exact wpOp_step ho fun K' hK => h K' fun a w h1 h2 => hK a w ⟨⟨.inr (.inl hm), h1.elim .inl fun q => .inr (.inr q)⟩, h2⟩
theorem wpV_done {L : Array Bool} {a : Act} {w : World} (hr : Region.ready md ops L = []) (h : Q .normal a w) : ∀ k, wpV P md ops Q S m S2 m2 k L a w
  | 0 => ⟨hr, h⟩
  | _ + 1 => ⟨fun _ => h, by rw [hr]; simp⟩
theorem wpV_start {id : Nat} {a : Act} {w : World} (hm : P.follows .mixedOrders = true)
    (h : wpV P .any ops Q S m S2 m2 ops.size (Array.replicate ops.size false) a w.drew) : (Code.region id ops true).wp P Q a w :=
  wp_region_any hm (wpV_any _ _ _ _ h)
end
end Go.Proofs.YtiodolbgapjmkaaGreatDoor
