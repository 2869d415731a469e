/- The walk over all networks of some comparators, as plain recursion with a state: counting, finding the first, collecting what is reached. Conditions: none. -/
import Derived.Test.YtiodolbgapjmkaaCountP
namespace Go.Proofs.Ytiodolbgapjmkaa
open Go.RowKit Go.Sort
set_option linter.unusedVariables false

def loopV {σ : Type} (f : List Int → σ → σ × Bool) : List (List Int) → σ → σ × Bool
  | [], s => (s, false)
  | r :: rs, s => if (f r s).2 then ((f r s).1, true) else loopV f rs (f r s).1
/-- What a comparator's row makes of a set. -/
def nxr (n : Nat) (S r : List Int) : List Int := nxt n S (r.getD 0 0).toNat (r.getD 1 0).toNat
def visit {σ : Type} (n : Nat) (see : σ → List (List Int) → List Int → σ × Bool) : Nat → List Int → List (List Int) → σ → σ × Bool
  | 0, S, path, s => see s path S
  | p + 1, S, path, s => loopV (fun r s => visit n see p (nxr n S r) (path ++ [r]) s) (prs n) s
theorem loopV_nil {σ : Type} (f : List Int → σ → σ × Bool) (s : σ) : loopV f [] s = (s, false) := rfl
theorem loopV_no {σ : Type} {f : List Int → σ → σ × Bool} {r : List Int} {rs : List (List Int)} {s : σ} (h : (f r s).2 = false) : loopV f (r :: rs) s = loopV f rs (f r s).1 := by
  show (if (f r s).2 then _ else _) = _
  rw [h]; rfl
theorem loopV_yes {σ : Type} {f : List Int → σ → σ × Bool} {r : List Int} {rs : List (List Int)} {s : σ} (h : (f r s).2 = true) : loopV f (r :: rs) s = ((f r s).1, true) := by
  show (if (f r s).2 then _ else _) = _
  rw [h]; rfl

/-- The comparators from wire i on with the second wire from k on. -/
def rowF (n i k : Nat) : List (List Int) := (List.range' k (n - k)).map fun (k : Nat) => [(i : Int), (k : Int)]
def allF (n i : Nat) : List (List Int) := (List.range' i (n - i)).flatMap fun i => rowF n i (i + 1)
theorem rowF_cons {n i k : Nat} (h : k < n) : rowF n i k = [(i : Int), (k : Int)] :: rowF n i (k + 1) := by
  unfold rowF
  rw [show n - k = (n - (k + 1)) + 1 by omega, List.range'_succ]
  rfl
theorem rowF_nil {n i k : Nat} (h : n ≤ k) : rowF n i k = [] := by
  unfold rowF
  rw [show n - k = 0 by omega]
  rfl
theorem allF_cons {n i : Nat} (h : i < n) : allF n i = rowF n i (i + 1) ++ allF n (i + 1) := by
  unfold allF
  rw [show n - i = (n - (i + 1)) + 1 by omega, List.range'_succ]
  rfl
theorem allF_nil {n i : Nat} (h : n ≤ i) : allF n i = [] := by
  unfold allF
  rw [show n - i = 0 by omega]
  rfl
theorem prs_allF (n : Nat) : prs n = allF n 0 := by
  unfold prs net2 allF
  rw [Nat.sub_zero, ← List.range_eq_range']
  refine congrArg (fun f => (List.range n).flatMap f) (funext fun s => ?_)
  unfold rowF
  rw [List.range'_eq_map_range, List.map_map, show n - (s + 1) = n - 1 - s by omega]
  rfl

/- Counting. -/
def seeCnt (n : Nat) (s : Nat) (_path : List (List Int)) (S : List Int) : Nat × Bool := (if S.length = n + 1 then s + 1 else s, false)
theorem loopV_sum (f : List Int → Nat → Nat × Bool) (g : List Int → Nat) (h : ∀ r s, f r s = (s + g r, false)) : ∀ (rs : List (List Int)) (s : Nat), loopV f rs s = (s + (rs.map g).sum, false)
  | [], s => by simp [loopV_nil]
  | r :: rs, s => by
    rw [loopV_no (by rw [h]), h, loopV_sum f g h rs]
    simp [Nat.add_assoc]
theorem visit_cnt (n : Nat) : ∀ (p : Nat) (S : List Int) (path : List (List Int)) (s : Nat), visit n (seeCnt n) p S path s = (s + cntL n p S, false)
  | 0, S, path, s => by
    show (if S.length = n + 1 then s + 1 else s, false) = _
    unfold cntL
    split <;> rfl
  | p + 1, S, path, s => loopV_sum _ (fun r => cntL n p (nxr n S r)) (fun r s => visit_cnt n p _ _ s) _ _

/- Collecting. -/
def seeSet (s : List (List Int)) (_path : List (List Int)) (S : List Int) : List (List Int) × Bool := (if S ∈ s then s else s ++ [S], false)
/-- x can be made of the set S by p comparators. -/
def reach (n : Nat) : Nat → List Int → List Int → Prop
  | 0, S, x => x = S
  | p + 1, S, x => ∃ r ∈ prs n, reach n p (nxr n S r) x
theorem loopV_set (f : List Int → List (List Int) → List (List Int) × Bool) (R : List Int → List Int → Prop)
    (h : ∀ r s, (f r s).2 = false ∧ (s.Nodup → (f r s).1.Nodup) ∧ ∀ x, x ∈ (f r s).1 ↔ x ∈ s ∨ R r x) : ∀ (rs : List (List Int)) (s : List (List Int)),
    (loopV f rs s).2 = false ∧ (s.Nodup → (loopV f rs s).1.Nodup) ∧ ∀ x, x ∈ (loopV f rs s).1 ↔ x ∈ s ∨ ∃ r ∈ rs, R r x
  | [], s => by simp [loopV_nil]
  | r :: rs, s => by
    obtain ⟨h1, h2, h3⟩ := h r s
    obtain ⟨i1, i2, i3⟩ := loopV_set f R h rs (f r s).1
    rw [loopV_no h1]
    refine ⟨i1, fun hs => i2 (h2 hs), fun x => ?_⟩
    rw [i3, h3]
    simp [or_assoc]
theorem visit_set (n : Nat) : ∀ (p : Nat) (S : List Int) (path : List (List Int)) (s : List (List Int)),
    (visit n seeSet p S path s).2 = false ∧ (s.Nodup → (visit n seeSet p S path s).1.Nodup) ∧ ∀ x, x ∈ (visit n seeSet p S path s).1 ↔ x ∈ s ∨ reach n p S x
  | 0, S, path, s => by
    show (seeSet s path S).2 = false ∧ (s.Nodup → (seeSet s path S).1.Nodup) ∧ ∀ x, x ∈ (seeSet s path S).1 ↔ x ∈ s ∨ x = S
    unfold seeSet
    refine ⟨rfl, fun hs => ?_, fun x => ?_⟩
    · show (if S ∈ s then s else s ++ [S]).Nodup
      split
      · exact hs
      · rename_i hne
        rw [List.nodup_append]
        refine ⟨hs, by simp, fun a ha b hb e => hne ?_⟩
        rw [List.mem_singleton] at hb
        rw [← hb, ← e]; exact ha
    · show x ∈ (if S ∈ s then s else s ++ [S]) ↔ _
      split
      · rename_i he
        exact ⟨.inl, fun h => h.elim id fun e => e ▸ he⟩
      · simp
  | p + 1, S, path, s => loopV_set _ (fun r x => reach n p (nxr n S r) x) (fun r s => visit_set n p _ _ s) _ _
/-- A row of different elements out of a list is no longer than the list. -/
theorem nodup_le {α : Type} [DecidableEq α] : ∀ (l m : List α), l.Nodup → (∀ x ∈ l, x ∈ m) → l.length ≤ m.length
  | [], m, _, _ => Nat.zero_le _
  | a :: l, m, hn, hs => by
    have ha := hs a (by simp)
    rw [List.nodup_cons] at hn
    have := nodup_le l (m.erase a) hn.2 fun x hx => (List.mem_erase_of_ne (fun e => hn.1 (by rw [← e]; exact hx))).2 (hs x (by simp [hx]))
    rw [List.length_erase_of_mem ha] at this
    have := List.length_pos_of_mem ha
    rw [List.length_cons]
    omega
theorem nodup_same {α : Type} [DecidableEq α] {l m : List α} (hl : l.Nodup) (hm : m.Nodup) (h : ∀ x, x ∈ l ↔ x ∈ m) : l.length = m.length :=
  Nat.le_antisymm (nodup_le l m hl fun x hx => (h x).1 hx) (nodup_le m l hm fun x hx => (h x).2 hx)

/- The first that sorts. -/
def seeFst (n : Nat) (_s : List (List Int)) (path : List (List Int)) (S : List Int) : List (List Int) × Bool := (path, decide (S.length = n + 1))
def fstF (f : List Int → List (List Int) × Bool) : List (List Int) → List (List Int) × Bool
  | [] => ([], false)
  | r :: rs => if (f r).2 then (r :: (f r).1, true) else fstF f rs
/-- The reference's search. -/
def fstL (n : Nat) : Nat → List Int → List (List Int) × Bool
  | 0, S => if S.length = n + 1 then ([], true) else ([], false)
  | p + 1, S => if S.length = n + 1 then ([], false) else fstF (fun r => fstL n p (nxr n S r)) (prs n)
/-- A set of masks as a number. -/
def setB (n B : Nat) : List Int := setI n fun m => B.testBit m
def popB (n B : Nat) : Nat := ((List.range (2 ^ n)).filter fun m => B.testBit m).length
theorem setB_len (n B : Nat) : (setB n B).length = popB n B := by unfold setB setI popB; rw [List.length_map]
theorem setI_congr {n : Nat} {P Q : Nat → Bool} (h : ∀ m, m < 2 ^ n → P m = Q m) : setI n P = setI n Q := by
  unfold setI
  refine congrArg _ (List.filter_congr fun m hm => h m (by simpa using hm))
/-- The comparators of n wires: both wires, the masks that are exchanged, the others, and how far they go. -/
def tabB : Nat → List (Nat × Nat × Nat × Nat × Nat)
  | 1 => []
  | 2 => [(0, 1, 2, 13, 1)]
  | 3 => [(0, 1, 34, 221, 1), (0, 2, 10, 245, 3), (1, 2, 12, 243, 2)]
  | 4 => [(0, 1, 8738, 56797, 1), (0, 2, 2570, 62965, 3), (0, 3, 170, 65365, 7), (1, 2, 3084, 62451, 2), (1, 3, 204, 65331, 6), (2, 3, 240, 65295, 4)]
  | _ => []
def nxB (B : Nat) (t : Nat × Nat × Nat × Nat × Nat) : Nat := (B &&& t.2.2.2.1) ||| ((B &&& t.2.2.1) <<< t.2.2.2.2)
theorem nxt_B {n i k M K sh : Nat} (h : ∀ x, x < 2 ^ n → stp x i k = if M.testBit x then x + sh else x) (hK : ∀ x, x < 2 ^ n → K.testBit x = !M.testBit x) (B : Nat) :
    nxt n (setB n B) i k = setB n (nxB B (i, k, M, K, sh)) := by
  unfold nxt
  refine setI_congr fun m hm => ?_
  show _ = ((B &&& K) ||| ((B &&& M) <<< sh)).testBit m
  rw [Nat.testBit_or, Nat.testBit_and, Nat.testBit_shiftLeft, Nat.testBit_and, hK m hm, Bool.eq_iff_iff, List.any_eq_true]
  simp only [Bool.or_eq_true, Bool.and_eq_true, beq_iff_eq, decide_eq_true_eq, Bool.not_eq_true', ge_iff_le]
  constructor
  · rintro ⟨x, hx, e⟩
    obtain ⟨y, rfl, hy, hb⟩ := mem_setI.1 hx
    rw [Int.toNat_natCast, h y hy] at e
    by_cases hM : M.testBit y = true
    · rw [if_pos hM] at e
      refine .inr ⟨by omega, ?_⟩
      rw [show m - sh = y by omega]
      exact ⟨hb, hM⟩
    · rw [if_neg hM] at e
      subst e
      exact .inl ⟨hb, by simpa using hM⟩
  · rintro (⟨h1, h2⟩ | ⟨h1, h2, h3⟩)
    · exact ⟨(m : Int), mem_setI.2 ⟨m, rfl, hm, h1⟩, by rw [Int.toNat_natCast, h m hm, h2]; rfl⟩
    · exact ⟨((m - sh : Nat) : Int), mem_setI.2 ⟨m - sh, rfl, by omega, h2⟩, by rw [Int.toNat_natCast, h _ (by omega), h3, if_pos rfl]; omega⟩
def okB (n : Nat) (t : Nat × Nat × Nat × Nat × Nat) : Bool := (List.range (2 ^ n)).all fun x => (stp x t.1 t.2.1 == if t.2.2.1.testBit x then x + t.2.2.2.2 else x) && (t.2.2.2.1.testBit x == !t.2.2.1.testBit x)
def rowB (t : Nat × Nat × Nat × Nat × Nat) : List Int := [(t.1 : Int), (t.2.1 : Int)]
theorem okB_all : ∀ n, 1 ≤ n → n ≤ 4 → (tabB n).all (okB n) = true ∧ (tabB n).map rowB = prs n := by
  intro n h1 h4
  rcases (by omega : n = 1 ∨ n = 2 ∨ n = 3 ∨ n = 4) with rfl | rfl | rfl | rfl <;> decide +kernel
theorem nxr_B {n : Nat} (h1 : 1 ≤ n) (h4 : n ≤ 4) {t : Nat × Nat × Nat × Nat × Nat} (ht : t ∈ tabB n) (B : Nat) : nxr n (setB n B) (rowB t) = setB n (nxB B t) := by
  have h := List.all_eq_true.1 (okB_all n h1 h4).1 t ht
  unfold okB at h
  rw [List.all_eq_true] at h
  obtain ⟨i, k, M, K, sh⟩ := t
  refine nxt_B (fun x hx => ?_) (fun x hx => ?_) B <;>
  · have := h x (by simpa using hx)
    simp only [Bool.and_eq_true, beq_iff_eq] at this
    first | exact this.1 | exact this.2
def fndB {α : Type} (f : α → Option (List α)) : List α → Option (List α)
  | [] => none
  | r :: rs => match f r with
    | some l => some (r :: l)
    | none => fndB f rs
theorem fndB_no {α : Type} {f : α → Option (List α)} {r : α} {rs : List α} (h : f r = none) : fndB f (r :: rs) = fndB f rs := by simp [fndB, h]
theorem fndB_yes {α : Type} {f : α → Option (List α)} {r : α} {rs l : List α} (h : f r = some l) : fndB f (r :: rs) = some (r :: l) := by simp [fndB, h]
def impB (n : Nat) : Nat → Nat → Option (List (Nat × Nat × Nat × Nat × Nat))
  | 0, B => if popB n B = n + 1 then some [] else none
  | p + 1, B => fndB (fun t => impB n p (nxB B t)) (tabB n)
def refB (n : Nat) : Nat → Nat → Option (List (Nat × Nat × Nat × Nat × Nat))
  | 0, B => if popB n B = n + 1 then some [] else none
  | p + 1, B => if popB n B = n + 1 then none else fndB (fun t => refB n p (nxB B t)) (tabB n)
theorem visit_impB {n : Nat} (h1 : 1 ≤ n) (h4 : n ≤ 4) : ∀ (p B : Nat) (path s : List (List Int)),
    (impB n p B = none → (visit n (seeFst n) p (setB n B) path s).2 = false) ∧ ∀ l, impB n p B = some l → visit n (seeFst n) p (setB n B) path s = (path ++ l.map rowB, true)
  | 0, B, path, s => by
    show (impB n 0 B = none → decide ((setB n B).length = n + 1) = false) ∧ ∀ l, impB n 0 B = some l → (path, decide ((setB n B).length = n + 1)) = _
    unfold impB
    rw [setB_len]
    by_cases h : popB n B = n + 1
    · rw [if_pos h]
      refine ⟨(fun e => by cases e), fun l e => ?_⟩
      cases e
      simp [h]
    · rw [if_neg h]
      exact ⟨fun _ => by simpa using h, fun l e => by cases e⟩
  | p + 1, B, path, s => by
    have key : ∀ (ts : List (Nat × Nat × Nat × Nat × Nat)), (∀ t ∈ ts, t ∈ tabB n) → ∀ s : List (List Int),
        (fndB (fun t => impB n p (nxB B t)) ts = none → (loopV (fun r s => visit n (seeFst n) p (nxr n (setB n B) r) (path ++ [r]) s) (ts.map rowB) s).2 = false) ∧
        ∀ l, fndB (fun t => impB n p (nxB B t)) ts = some l → loopV (fun r s => visit n (seeFst n) p (nxr n (setB n B) r) (path ++ [r]) s) (ts.map rowB) s = (path ++ l.map rowB, true) := by
      intro ts
      induction ts with
      | nil => intro _ s; exact ⟨fun _ => rfl, fun l e => by cases e⟩
      | cons t ts ih =>
        intro hts s
        obtain ⟨i1, i2⟩ := visit_impB h1 h4 p (nxB B t) (path ++ [rowB t]) s
        rw [← nxr_B h1 h4 (hts t (by simp)) B] at i1 i2
        rw [List.map_cons]
        cases hq : impB n p (nxB B t) with
        | none =>
          have e : fndB (fun t => impB n p (nxB B t)) (t :: ts) = fndB (fun t => impB n p (nxB B t)) ts := fndB_no hq
          rw [e, loopV_no (i1 hq)]
          exact ih (fun t ht => hts t (by simp [ht])) _
        | some l =>
          have e : fndB (fun t => impB n p (nxB B t)) (t :: ts) = some (t :: l) := fndB_yes hq
          rw [e, loopV_yes (by rw [i2 l hq])]
          refine ⟨(fun e => by cases e), fun l2 e2 => ?_⟩
          cases e2
          rw [i2 l hq]
          simp
    have := key (tabB n) (fun _ h => h) s
    rw [(okB_all n h1 h4).2] at this
    exact this
theorem fst_refB {n : Nat} (h1 : 1 ≤ n) (h4 : n ≤ 4) : ∀ (p B : Nat),
    (refB n p B = none → fstL n p (setB n B) = ([], false)) ∧ ∀ l, refB n p B = some l → fstL n p (setB n B) = (l.map rowB, true)
  | 0, B => by
    unfold refB fstL
    rw [setB_len]
    by_cases h : popB n B = n + 1
    · rw [if_pos h, if_pos h]
      exact ⟨(fun e => by cases e), fun l e => by cases e; rfl⟩
    · rw [if_neg h, if_neg h]
      exact ⟨fun _ => rfl, fun l e => by cases e⟩
  | p + 1, B => by
    unfold refB fstL
    rw [setB_len]
    by_cases h : popB n B = n + 1
    · rw [if_pos h, if_pos h]
      exact ⟨fun _ => rfl, fun l e => by cases e⟩
    rw [if_neg h, if_neg h]
    have key : ∀ (ts : List (Nat × Nat × Nat × Nat × Nat)), (∀ t ∈ ts, t ∈ tabB n) →
        (fndB (fun t => refB n p (nxB B t)) ts = none → fstF (fun r => fstL n p (nxr n (setB n B) r)) (ts.map rowB) = ([], false)) ∧
        ∀ l, fndB (fun t => refB n p (nxB B t)) ts = some l → fstF (fun r => fstL n p (nxr n (setB n B) r)) (ts.map rowB) = (l.map rowB, true) := by
      intro ts
      induction ts with
      | nil => intro _; exact ⟨fun _ => rfl, fun l e => by cases e⟩
      | cons t ts ih =>
        intro hts
        obtain ⟨i1, i2⟩ := fst_refB h1 h4 p (nxB B t)
        rw [← nxr_B h1 h4 (hts t (by simp)) B] at i1 i2
        rw [List.map_cons]
        cases hq : refB n p (nxB B t) with
        | none =>
          have e : fndB (fun t => refB n p (nxB B t)) (t :: ts) = fndB (fun t => refB n p (nxB B t)) ts := fndB_no hq
          have e2 : fstF (fun r => fstL n p (nxr n (setB n B) r)) (rowB t :: ts.map rowB) = fstF (fun r => fstL n p (nxr n (setB n B) r)) (ts.map rowB) := by
            show (if (fstL n p (nxr n (setB n B) (rowB t))).2 then _ else _) = _
            rw [i1 hq]; rfl
          rw [e, e2]
          exact ih fun t ht => hts t (by simp [ht])
        | some l =>
          have e : fndB (fun t => refB n p (nxB B t)) (t :: ts) = some (t :: l) := fndB_yes hq
          have e2 : fstF (fun r => fstL n p (nxr n (setB n B) r)) (rowB t :: ts.map rowB) = (rowB t :: l.map rowB, true) := by
            show (if (fstL n p (nxr n (setB n B) (rowB t))).2 then (rowB t :: (fstL n p (nxr n (setB n B) (rowB t))).1, true) else _) = _
            rw [i2 l hq]; rfl
          rw [e, e2]
          refine ⟨(fun e => by cases e), fun l2 e2 => ?_⟩
          cases e2
          rfl
    have := key (tabB n) (fun _ h => h)
    rw [(okB_all n h1 h4).2] at this
    exact this
/-- The least number of comparators of a sorting network. -/
def leastP : Nat → Nat
  | 2 => 1
  | 3 => 3
  | 4 => 5
  | _ => 0
theorem find_B : ∀ n, 1 ≤ n → n ≤ 4 → impB n (leastP n) (2 ^ 2 ^ n - 1) = refB n (leastP n) (2 ^ 2 ^ n - 1) ∧ (refB n (leastP n) (2 ^ 2 ^ n - 1)).isSome = true := by
  intro n h1 h4
  rcases (by omega : n = 1 ∨ n = 2 ∨ n = 3 ∨ n = 4) with rfl | rfl | rfl | rfl <;> decide +kernel
theorem upI_setB (n : Nat) : upI 0 (2 ^ n) = setB n (2 ^ 2 ^ n - 1) := by
  unfold setB
  rw [setI_congr (Q := fun _ => true) (fun m hm => by rw [Nat.testBit_two_pow_sub_one]; simpa using hm)]
  unfold setI upI
  rw [List.filter_eq_self.2 (fun _ _ => rfl)]
  simp
/-- The program's search and the reference's find one network. -/
theorem find_same {n : Nat} (h1 : 1 ≤ n) (h4 : n ≤ 4) : ∃ l : List (List Int), visit n (seeFst n) (leastP n) (upI 0 (2 ^ n)) [] [] = (l, true) ∧ fstL n (leastP n) (upI 0 (2 ^ n)) = (l, true) ∧ ∀ r ∈ l, r ∈ prs n := by
  obtain ⟨e1, e2⟩ := find_B n h1 h4
  obtain ⟨l, hl⟩ := Option.isSome_iff_exists.1 e2
  rw [upI_setB]
  have a := (visit_impB h1 h4 (leastP n) _ [] []).2 l (e1.trans hl)
  have b := (fst_refB h1 h4 (leastP n) _).2 l hl
  refine ⟨l.map rowB, by simpa using a, b, ?_⟩
  have hm : ∀ (p B : Nat) (l : List (Nat × Nat × Nat × Nat × Nat)), refB n p B = some l → ∀ t ∈ l, t ∈ tabB n := by
    intro p
    induction p with
    | zero => intro B l h; unfold refB at h; split at h <;> cases h; simp
    | succ p ih =>
      intro B l h
      unfold refB at h
      split at h
      · cases h
      have key : ∀ (ts : List (Nat × Nat × Nat × Nat × Nat)), (∀ t ∈ ts, t ∈ tabB n) → ∀ l, fndB (fun t => refB n p (nxB B t)) ts = some l → ∀ t ∈ l, t ∈ tabB n := by
        intro ts
        induction ts with
        | nil => intro _ l e; cases e
        | cons t ts ih2 =>
          intro hts l e
          cases hq : refB n p (nxB B t) with
          | none =>
            refine ih2 (fun t ht => hts t (by simp [ht])) l ?_
            rw [← e]
            exact (fndB_no hq).symm
          | some l2 =>
            have e2 : fndB (fun t => refB n p (nxB B t)) (t :: ts) = some (t :: l2) := fndB_yes hq
            rw [e2] at e
            cases e
            intro x hx
            rcases List.mem_cons.1 hx with rfl | hx
            · exact hts _ (by simp)
            · exact ih _ l2 hq x hx
      exact key _ (fun _ h => h) l h
  intro r hr
  obtain ⟨t, ht, rfl⟩ := List.mem_map.1 hr
  rw [← (okB_all n h1 h4).2]
  exact List.mem_map_of_mem (hm _ _ l hl t ht)
end Go.Proofs.Ytiodolbgapjmkaa
