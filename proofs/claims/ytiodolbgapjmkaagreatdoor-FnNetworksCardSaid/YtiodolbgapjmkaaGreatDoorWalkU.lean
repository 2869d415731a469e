/- A region whose order is open, where what it reads stays as it is until its last operation stores: the reads may be taken first. Conditions: the facts on cells hold behind every operation but the last. -/
import Derived.Deep.RegionHeld
import Derived.NoCompiler
namespace Go.Proofs.YtiodolbgapjmkaaGreatDoor
open Go
section
variable {P : Program} {ops : Array Oper} {Q : Exit → Act → World → Prop} {md : Region.Mode} {S : World → Prop} {m : Nat}

/-- Whatever order is picked from here on; behind each operation but number m the fact S holds. -/
def wpU (P : Program) (md : Region.Mode) (ops : Array Oper) (Q : Exit → Act → World → Prop) (S : World → Prop) (m : Nat) : Nat → Array Bool → Act → World → Prop
  | 0, L, a, w => Region.ready md ops L = [] ∧ Q .normal a w
  | k + 1, L, a, w => (Region.ready md ops L = [] → Q .normal a w) ∧
      ∀ i ∈ Region.ready md ops L, wpOp P ops Q i (fun a' w' => (i = m ∨ L.getD m true = true ∨ S w') ∧ wpU P md ops Q S m k (L.setIfInBounds i true) a' w') a w

theorem wpU_any : ∀ (k : Nat) (L : Array Bool) (a : Act) (w : World), wpU P md ops Q S m k L a w → wpAny P md ops Q k L a w
  | 0, _, _, _, h => h
  | k + 1, _, _, _, h => ⟨h.1, fun i hi => wpOp_mono (fun a' w' x => wpU_any k _ a' w' x.2) (h.2 i hi)⟩

/-- Number m waits for number i. -/
def waitsB (md : Region.Mode) (ops : Array Oper) (m i : Nat) : Bool := ((ops[m]?).map fun o => o.after.any fun e => Region.binds md e && e.on == i).getD false

theorem not_ready_of_waits {i : Nat} {L : Array Bool} (hw : waitsB md ops m i = true) (hL : L.getD i false = false) : m ∉ Region.ready md ops L := by
  intro hm
  obtain ⟨-, o, ho, hall⟩ := mem_ready.1 hm
  unfold waitsB at hw
  rw [ho] at hw
  simp only [Option.map_some, Option.getD_some, Array.any_eq_true] at hw
  obtain ⟨k, hk, he⟩ := hw
  simp only [Bool.and_eq_true, beq_iff_eq] at he
  have := hall o.after[k] (Array.getElem_mem hk) he.1
  rw [he.2, hL] at this
  cases this

theorem wpU_first {i : Nat} {oi : Oper} {v : Value} (hi : ops[i]? = some oi) (hsel : ∀ (j : Nat) (o : Oper) cs b, ops[j]? = some o → o.op ≠ .select cs b)
    (hQ : ∀ c a w, Q (.panic c) (a.put oi.dst v) w → Q (.panic c) a w) (hw : waitsB md ops m i = true) :
    ∀ (k : Nat) (L : Array Bool) (a : Act) (w : World),
      (∀ j oj, ops[j]? = some oj → j ≠ i → L.getD j true = false → (∀ e ∈ oj.after, Region.binds md e = true → e.on ≠ i) → oi.apart ops oj = true) →
      i ∈ Region.ready md ops L → L.getD m true = false → YieldsIf P ops S oi v a → S w →
      wpU P md ops Q S m k (L.setIfInBounds i true) (a.put oi.dst v) w → wpU P md ops Q S m (k + 1) L a w := by
  intro k
  induction k with
  | zero =>
    intro L a w _ hr _ hy hS H
    refine ⟨fun h => (by rw [h] at hr; cases hr), fun j hj => ?_⟩
    by_cases hji : j = i
    · subst hji
      exact hy.wpOp hi hS ⟨.inr (.inr hS), H⟩
    · have := ready_mono hj hji
      rw [H.1] at this
      cases this
  | succ k ih =>
    intro L a w hfree hr hm hy hS H
    refine ⟨fun h => (by rw [h] at hr; cases hr), fun j hj => ?_⟩
    by_cases hji : j = i
    · subst hji
      exact hy.wpOp hi hS ⟨.inr (.inr hS), H⟩
    · have hun := (mem_ready.1 hr).1
      have hun2 : L.getD i false = false := by
        rcases Nat.lt_or_ge i L.size with h | h
        · simpa [h] using hun
        · simp [Array.getElem?_eq_none h]
      have hjm : j ≠ m := fun h => not_ready_of_waits hw hun2 (h ▸ hj)
      have him : i ≠ m := fun h => not_ready_of_waits hw hun2 (by rw [← h]; exact hr)
      obtain ⟨hjun, oj, hoj, hall⟩ := mem_ready.1 hj
      have hnot : ∀ e ∈ oj.after, Region.binds md e = true → e.on ≠ i := fun e he hb heq => by
        have h1 := hall e he hb
        rw [heq, hun2] at h1
        cases h1
      have h2 := wpOp_putIf hoj (hfree j oj hoj hji hjun hnot) (fun cs b => hsel i oi cs b hi) (fun cs b => hsel j oj cs b hoj) hQ hy (H.2 j (ready_mono hj hji))
      refine wpOp_mono (fun a' w' x => ?_) h2
      obtain ⟨x1, x2, x3⟩ := x
      have hS' : S w' := by
        rcases x2 with h | h | h
        · exact absurd h hjm
        · rw [getD_set_ne true him, hm] at h
          cases h
        · exact h
      refine ⟨.inr (.inr hS'), ih (L.setIfInBounds j true) a' w' (fun q oq hq hqi hu hno => hfree q oq hq hqi ?_ hno) (ready_mono hr (Ne.symm hji)) (by rw [getD_set_ne true hjm]; exact hm) x1 hS' (by rw [Array.setIfInBounds_comm _ _ hji]; exact x3)⟩
      by_cases hjq : j = q
      · subst hjq; exact hjun
      · rw [getD_set_ne true hjq] at hu; exact hu

/-- Number i is taken first. -/
theorem wpU_take {i : Nat} {oi : Oper} {v : Value} {k : Nat} {L : Array Bool} {a : Act} {w : World} (hi' : ops.toList[i]? = some oi)
    (hc : (Region.noSelect ops && Region.free md ops L i && (Region.ready md ops L).contains i && waitsB md ops m i && !L.getD m true) = true)
    (hQ : ∀ c a w, Q (.panic c) (a.put oi.dst v) w → Q (.panic c) a w) (hy : Region.wanted oi (yielded ops a.tmps) = true ∧ ∀ w, S w → (execOp a.eval oi).run P w = .ok (.value v) w) (hS : S w)
    (h : wpU P md ops Q S m k (L.setIfInBounds i true) (a.put oi.dst v) w) : wpU P md ops Q S m (k + 1) L a w := by
  have hi : ops[i]? = some oi := by simpa using hi'
  simp only [Bool.and_eq_true, Bool.not_eq_true'] at hc
  obtain ⟨⟨⟨⟨h1, h2⟩, h3⟩, h4⟩, h5⟩ := hc
  exact wpU_first hi (Region.noSelect_spec h1) hQ h4 k L a w (Region.free_spec hi h2) (by simpa using h3) h5 (.inl hy) hS h
/-- Only number i may come up, and behind it S holds. -/
theorem wpU_one {i : Nat} {o : Oper} {k : Nat} {L : Array Bool} {a : Act} {w : World} (hr : Region.ready md ops L = [i]) (ho' : ops.toList[i]? = some o)
    (h : ∀ K' : Act → World → Prop, Shut (∀ a w, S w → (S w → wpU P md ops Q S m k (L.setIfInBounds i true) a w) → K' a w) →
      if Region.wanted o (yielded ops a.tmps) = true then Oper.wp P o a w K' Q else K' (a.put o.dst undef) w) : wpU P md ops Q S m (k + 1) L a w := by
  refine ⟨fun h0 => (by rw [hr] at h0; cases h0), fun j hj => ?_⟩
  rw [hr] at hj
  simp at hj
  subst hj
  have ho : ops[j]? = some o := by simpa using ho'
  exact wpOp_step ho fun K' hK => h K' fun a w h1 h2 => hK a w ⟨.inr (.inr h1), h2 h1⟩
/-- Two may come up. -/
theorem wpU_two {i j : Nat} {o p : Oper} {k : Nat} {L : Array Bool} {a : Act} {w : World} (hr : Region.ready md ops L = [i, j]) (ho' : ops.toList[i]? = some o) (hp' : ops.toList[j]? = some p)
    (h : ∀ K' : Act → World → Prop, Shut (∀ a w, S w → (S w → wpU P md ops Q S m k (L.setIfInBounds i true) a w) → K' a w) →
      if Region.wanted o (yielded ops a.tmps) = true then Oper.wp P o a w K' Q else K' (a.put o.dst undef) w)
    (h' : ∀ K' : Act → World → Prop, Shut (∀ a w, S w → (S w → wpU P md ops Q S m k (L.setIfInBounds j true) a w) → K' a w) →
      if Region.wanted p (yielded ops a.tmps) = true then Oper.wp P p a w K' Q else K' (a.put p.dst undef) w) : wpU P md ops Q S m (k + 1) L a w := by
  refine ⟨fun h0 => (by rw [hr] at h0; cases h0), fun q hq => ?_⟩
  rw [hr] at hq
  simp at hq
  rcases hq with hq | hq
  · subst hq
    have ho : ops[q]? = some o := by simpa using ho'
    exact wpOp_step ho fun K' hK => h K' fun a w h1 h2 => hK a w ⟨.inr (.inr h1), h2 h1⟩
  · subst hq
    have hp : ops[q]? = some p := by simpa using hp'
    exact wpOp_step hp fun K' hK => h' K' fun a w h1 h2 => hK a w ⟨.inr (.inr h1), h2 h1⟩
/-- Only number m is left. -/
theorem wpU_last {o : Oper} {k : Nat} {L : Array Bool} {a : Act} {w : World} (hr : Region.ready md ops L = [m]) (ho' : ops.toList[m]? = some o)
    (h : ∀ K' : Act → World → Prop, Shut (∀ a w, wpU P md ops Q S m k (L.setIfInBounds m true) a w → K' a w) →
      if Region.wanted o (yielded ops a.tmps) = true then Oper.wp P o a w K' Q else K' (a.put o.dst undef) w) : wpU P md ops Q S m (k + 1) L a w := by
  refine ⟨fun h0 => (by rw [hr] at h0; cases h0), fun j hj => ?_⟩
  rw [hr] at hj
  simp at hj
  subst hj
  have ho : ops[j]? = some o := by simpa using ho'
  exact wpOp_step ho fun K' hK => h K' fun a w h1 => hK a w ⟨.inl rfl, h1⟩
theorem wpU_done {L : Array Bool} {a : Act} {w : World} (hr : Region.ready md ops L = []) (h : Q .normal a w) : ∀ k, wpU P md ops Q S m k L a w
  | 0 => ⟨hr, h⟩
  | _ + 1 => ⟨fun _ => h, by rw [hr]; simp⟩
theorem wpU_start {id : Nat} {a : Act} {w : World} (hm : P.follows .mixedOrders = true)
    (h : wpU P .any ops Q S m ops.size (Array.replicate ops.size false) a w.drew) : (Code.region id ops true).wp P Q a w :=
  wp_region_any hm (wpU_any _ _ _ _ h)
end
end Go.Proofs.YtiodolbgapjmkaaGreatDoor
