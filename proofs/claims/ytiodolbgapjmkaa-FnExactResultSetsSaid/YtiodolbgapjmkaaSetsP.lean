/- The plain law of the sets that are reached. Conditions: none. -/
import Derived.Test.YtiodolbgapjmkaaVisit
import Derived.Test.YtiodolbgapjmkaaHasC
import Derived.Test.YtiodolbgapjmkaaCountP
namespace Go.Proofs.Ytiodolbgapjmkaa
open Go.RowKit
set_option linter.unusedVariables false

theorem reach_snoc (n : Nat) : ∀ (p : Nat) (S x : List Int), reach n (p + 1) S x ↔ ∃ y, reach n p S y ∧ ∃ r ∈ prs n, x = nxr n y r
  | 0, S, x => by
    constructor
    · rintro ⟨r, hr, h⟩
      exact ⟨S, rfl, r, hr, h⟩
    · rintro ⟨y, h, r, hr, e⟩
      have h' : y = S := h
      subst h'
      exact ⟨r, hr, e⟩
  | p + 1, S, x => by
    constructor
    · rintro ⟨r, hr, h⟩
      obtain ⟨y, h1, h2⟩ := (reach_snoc n p _ x).1 h
      exact ⟨y, ⟨r, hr, h1⟩, h2⟩
    · rintro ⟨y, ⟨r, hr, h1⟩, h2⟩
      exact ⟨r, hr, (reach_snoc n p _ x).2 ⟨y, h1, h2⟩⟩
theorem withinB_iff (xs ys : List Int) : withinB xs ys = true ↔ ∀ x ∈ xs, x ∈ ys := by
  unfold withinB hasX
  rw [List.all_eq_true]
  constructor
  · intro h x hx
    obtain ⟨y, hy, e⟩ := List.any_eq_true.1 (h x hx)
    have : x = y := by simpa using e
    rw [this]; exact hy
  · intro h x hx
    exact List.any_eq_true.2 ⟨x, h x hx, by simp⟩
theorem setI_nodup (n : Nat) (P : Nat → Bool) : (setI n P).Nodup := by
  unfold setI
  rw [List.nodup_iff_pairwise_ne, List.pairwise_map]
  have h : ((List.range (2 ^ n)).filter P).Nodup := List.Nodup.sublist List.filter_sublist List.nodup_range
  exact (List.nodup_iff_pairwise_ne.1 h).imp fun h e => h (by omega)
theorem mem_setN {n : Nat} {P : Nat → Bool} {m : Nat} : (m : Int) ∈ setI n P ↔ m < 2 ^ n ∧ P m = true := by
  unfold setI
  simp only [List.mem_map, List.mem_filter, List.mem_range]
  constructor
  · rintro ⟨k, ⟨h1, h2⟩, e⟩
    have : k = m := by omega
    subst this
    exact ⟨h1, h2⟩
  · rintro ⟨h1, h2⟩
    exact ⟨m, ⟨h1, h2⟩, rfl⟩
/-- Two sets of one size, one within the other, are one. -/
theorem sameL_set {n : Nat} {P Q : Nat → Bool} : sameL (setI n P) (setI n Q) = true ↔ setI n P = setI n Q := by
  unfold sameL
  rw [Bool.and_eq_true, decide_eq_true_eq, withinB_iff]
  constructor
  · rintro ⟨hl, hs⟩
    have hback : ∀ y ∈ setI n Q, y ∈ setI n P := by
      intro y hy
      apply Classical.byContradiction
      intro hn
      have := nodup_le (y :: setI n P) (setI n Q) (List.nodup_cons.2 ⟨hn, setI_nodup n P⟩) fun x hx => by
        rcases List.mem_cons.1 hx with rfl | hx
        · exact hy
        · exact hs x hx
      rw [List.length_cons] at this
      omega
    refine setI_congr fun m hm => ?_
    cases hp : P m
    · cases hq : Q m
      · rfl
      · have := mem_setN.1 (hback _ (mem_setN.2 ⟨hm, hq⟩))
        rw [hp] at this
        exact this.2
    · have := mem_setN.1 (hs _ (mem_setN.2 ⟨hm, hp⟩))
      rw [this.2]
  · intro e
    rw [e]
    exact ⟨rfl, fun x hx => hx⟩
def insAt (l : List (List Int)) (k : Nat) (x : List Int) : List (List Int) := l.take k ++ [x] ++ l.drop k
theorem insAt_perm (l : List (List Int)) (k : Nat) (x : List Int) : (insAt l k x).Perm (x :: l) := by
  unfold insAt
  rw [List.append_assoc]
  refine (List.perm_middle (l₁ := l.take k) (a := x) (l₂ := l.drop k)).trans ?_
  rw [List.take_append_drop]
theorem insAt_mem {l : List (List Int)} {k : Nat} {x y : List Int} : y ∈ insAt l k x ↔ y = x ∨ y ∈ l := by rw [(insAt_perm l k x).mem_iff, List.mem_cons]
theorem insAt_nodup {l : List (List Int)} {k : Nat} {x : List Int} (h : l.Nodup) (hx : x ∉ l) : (insAt l k x).Nodup := (insAt_perm l k x).nodup_iff.2 (List.nodup_cons.2 ⟨hx, h⟩)
theorem insAt_len (l : List (List Int)) (k : Nat) (x : List Int) : (insAt l k x).length = l.length + 1 := by rw [(insAt_perm l k x).length_eq, List.length_cons]
/-- The images of the first i sets, and those of the next under the first j comparators. -/
structure NxtI (n : Nat) (now : List (List Int)) (i j : Nat) (next : List (List Int)) : Prop where
  nodup : next.Nodup
  mem : ∀ x, x ∈ next ↔ (∃ y ∈ now.take i, ∃ r ∈ prs n, x = nxr n y r) ∨ ∃ r ∈ (prs n).take j, x = nxr n (now.getD i []) r
  len : next.length ≤ i * (prs n).length + j
theorem NxtI.start (n : Nat) (now : List (List Int)) : NxtI n now 0 0 [] := ⟨List.nodup_nil, fun x => by simp, by simp⟩
theorem take_mem {α : Type} {l : List α} {j : Nat} {d x : α} (hj : j < l.length) : x ∈ l.take (j + 1) ↔ x ∈ l.take j ∨ x = l.getD j d := by
  rw [List.take_succ_eq_append_getElem hj, List.mem_append, List.mem_singleton, List.getD_eq_getElem?_getD, List.getElem?_eq_getElem hj, Option.getD_some]
theorem NxtI.hit {n i j : Nat} {now next : List (List Int)} (h : NxtI n now i j next) (hj : j < (prs n).length) (hx : nxr n (now.getD i []) ((prs n).getD j []) ∈ next) : NxtI n now i (j + 1) next := by
  refine ⟨h.nodup, fun x => ?_, by have := h.len; omega⟩
  rw [h.mem]
  constructor
  · rintro (a | ⟨r, hr, e⟩)
    · exact .inl a
    · exact .inr ⟨r, (take_mem (d := []) hj).2 (.inl hr), e⟩
  · rintro (a | ⟨r, hr, e⟩)
    · exact .inl a
    · rcases (take_mem (d := []) hj).1 hr with hr | hr
      · exact .inr ⟨r, hr, e⟩
      · rw [hr] at e
        rw [e]
        exact (h.mem _).1 hx
theorem NxtI.miss {n i j : Nat} {now next : List (List Int)} (h : NxtI n now i j next) (hj : j < (prs n).length) (hx : nxr n (now.getD i []) ((prs n).getD j []) ∉ next) (k : Nat) : NxtI n now i (j + 1) (insAt next k (nxr n (now.getD i []) ((prs n).getD j []))) := by
  refine ⟨insAt_nodup h.nodup hx, fun x => ?_, by rw [insAt_len]; have := h.len; omega⟩
  rw [insAt_mem, h.mem]
  constructor
  · rintro (e | a | ⟨r, hr, e⟩)
    · exact .inr ⟨_, (take_mem (d := []) hj).2 (.inr rfl), e⟩
    · exact .inl a
    · exact .inr ⟨r, (take_mem (d := []) hj).2 (.inl hr), e⟩
  · rintro (a | ⟨r, hr, e⟩)
    · exact .inr (.inl a)
    · rcases (take_mem (d := []) hj).1 hr with hr | hr
      · exact .inr (.inr ⟨r, hr, e⟩)
      · rw [hr] at e
        exact .inl e
theorem NxtI.row {n i : Nat} {now next : List (List Int)} (h : NxtI n now i (prs n).length next) (hi : i < now.length) : NxtI n now (i + 1) 0 next := by
  refine ⟨h.nodup, fun x => ?_, by have := h.len; rw [Nat.succ_mul]; omega⟩
  rw [h.mem, List.take_length]
  constructor
  · rintro (⟨y, hy, a⟩ | ⟨r, hr, e⟩)
    · exact .inl ⟨y, (take_mem (d := []) hi).2 (.inl hy), a⟩
    · exact .inl ⟨_, (take_mem (d := []) hi).2 (.inr rfl), r, hr, e⟩
  · rintro (⟨y, hy, r, hr, e⟩ | ⟨r, hr, -⟩)
    · rcases (take_mem (d := []) hi).1 hy with hy | hy
      · exact .inl ⟨y, hy, r, hr, e⟩
      · rw [hy] at e
        exact .inr ⟨r, hr, e⟩
    · simp at hr
/-- What p comparators reach, each set once. -/
structure ReachI (n p : Nat) (S : List Int) (now : List (List Int)) : Prop where
  nodup : now.Nodup
  mem : ∀ x, x ∈ now ↔ reach n p S x
  len : now.length ≤ (prs n).length ^ p
theorem ReachI.start (n : Nat) (S : List Int) : ReachI n 0 S [S] := ⟨by simp, fun x => by simp [reach], by simp⟩
theorem NxtI.fin {n p : Nat} {S : List Int} {now next : List (List Int)} (hr : ReachI n p S now) (h : NxtI n now now.length 0 next) : ReachI n (p + 1) S next := by
  refine ⟨h.nodup, fun x => ?_, ?_⟩
  · rw [h.mem, List.take_length, reach_snoc]
    constructor
    · rintro (⟨y, hy, a⟩ | ⟨r, hr, -⟩)
      · exact ⟨y, (hr.mem y).1 hy, a⟩
      · simp at hr
    · rintro ⟨y, hy, a⟩
      exact .inl ⟨y, (hr.mem y).2 hy, a⟩
  · have h1 := h.len
    have h2 := Nat.mul_le_mul_right (prs n).length hr.len
    rw [Nat.pow_succ]
    omega
theorem stp_in4 : ∀ n < 5, ∀ m < 2 ^ n, ∀ i < n, ∀ k < n, stp m i k < 2 ^ n := by decide +kernel
theorem mem_prs {n : Nat} {r : List Int} (h : r ∈ prs n) : ∃ a b : Nat, r = [(a : Int), (b : Int)] ∧ a < b ∧ b < n := by
  obtain ⟨j, hj, rfl⟩ := List.mem_iff_getElem.1 h
  obtain ⟨a, b, e, h1, h2⟩ := prs_pair hj
  refine ⟨a, b, ?_, h1, h2⟩
  rw [List.getD_eq_getElem?_getD, List.getElem?_eq_getElem hj] at e
  exact e
/-- What is reached is a set of masks, and not empty. -/
theorem reach_good {n : Nat} (hn : n ≤ 4) : ∀ (p : Nat) (S x : List Int), (∃ P, S = setI n P) → 0 < S.length → reach n p S x → (∃ Q, x = setI n Q) ∧ 0 < x.length
  | 0, S, x, hS, h0, h => by
    have h' : x = S := h
    rw [h']; exact ⟨hS, h0⟩
  | p + 1, S, x, hS, h0, ⟨r, hr, h⟩ => by
    obtain ⟨a, b, rfl, h1, h2⟩ := mem_prs hr
    obtain ⟨P, rfl⟩ := hS
    refine reach_good hn p _ x ⟨_, rfl⟩ ?_ h
    exact nxt_pos (setI_masks n P) h0 fun m hm => stp_in4 n (by omega) m hm _ (by simp; omega) _ (by simp; omega)
end Go.Proofs.Ytiodolbgapjmkaa
