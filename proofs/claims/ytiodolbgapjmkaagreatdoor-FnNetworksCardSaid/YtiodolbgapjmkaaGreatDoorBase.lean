/- What memory holds: slices of ints and of slices of ints that a call of the program has built, as predicates on the world, with the steps that keep them. Conditions: none. -/
import Derived.Test.YtiodolbgapjmkaaGreatDoorChecked
import Derived.WalkKit
import Derived.WalkLawsBesides
import Derived.Laws.AppendOwnNone
import Derived.Deep.OwnRows
namespace Go.Proofs.YtiodolbgapjmkaaGreatDoor
open Go.RowKit

theorem Tryz.infoI : (Tryz.prog.info? 3).map (fun i => (i.zero, i.size, i.bytes)) = some (some (.int .i64 0), 1, 8) := by kernel_rfl

theorem Tryz.infoS : (Tryz.prog.info? 27).map (fun i => (i.zero, i.size, i.bytes)) = some (some (.slice none 0 0), 1, 24) := by kernel_rfl

theorem take_snoc_getD {α : Type} {xs : List α} {k : Nat} (d : α) (h : k < xs.length) : xs.take (k + 1) = xs.take k ++ [xs.getD k d] := by
  rw [List.take_succ_eq_append_getElem h]; simp [List.getD, List.getElem?_eq_getElem h]

/-- Ints as cells. -/
def ivs (xs : List Int) : List Value := xs.map (Value.int .i64)
theorem ivs_length (xs : List Int) : (ivs xs).length = xs.length := by simp [ivs]
theorem ivs_append (xs ys : List Int) : ivs (xs ++ ys) = ivs xs ++ ivs ys := by simp [ivs]
theorem ivs_one (x : Int) : ivs [x] = [.int .i64 x] := rfl
theorem ivs_getElem? (xs : List Int) (i : Nat) : (ivs xs)[i]? = xs[i]?.map (Value.int .i64) := by simp [ivs]
theorem ivs_oneCell (xs : List Int) : ∀ u ∈ ivs xs, u.oneCell' = true := by
  intro u hu; simp [ivs] at hu; obtain ⟨x, _, rfl⟩ := hu; rfl

/-- A slice that a call has built: it owns the cells 'xs', in a block from 'lo' up to 'hi'. -/
structure Own (e : TypeId) (w : World) (lo hi : Nat) (v : Value) (xs : List Value) : Prop where
  row : w.ownsRow lo e 1 v xs.length xs
  lt : ∀ k, v.ownBlock = some k → k < hi

theorem ownsRow_of_block {w w' : World} {base : Nat} {e : TypeId} {size : Nat} {v : Value} {n : Nat} {xs : List Value} (h : w.ownsRow base e size v n xs)
    (hk : ∀ k, v.ownBlock = some k → w'.heap[k]? = w.heap[k]?) : w'.ownsRow base e size v n xs := by
  obtain ⟨h1, h2⟩ := h
  refine ⟨h1, ?_⟩
  rcases h2 with h2 | ⟨g, cap, cur, hv, hg, hh, r⟩
  · exact Or.inl h2
  · subst hv
    exact Or.inr ⟨g, cap, cur, rfl, hg, by rw [hk g (by simp [Value.ownBlock])]; exact hh, r⟩

theorem ownsRow_mono {w : World} {base base' : Nat} {e : TypeId} {size : Nat} {v : Value} {n : Nat} {xs : List Value} (h : w.ownsRow base e size v n xs)
    (hb : base' ≤ base) : w.ownsRow base' e size v n xs := by
  obtain ⟨h1, h2⟩ := h
  refine ⟨h1, ?_⟩
  rcases h2 with h2 | ⟨g, cap, cur, hv, hg, r⟩
  · exact Or.inl h2
  · exact Or.inr ⟨g, cap, cur, hv, by omega, r⟩

theorem ownsRow_lt {w : World} {base : Nat} {e : TypeId} {size : Nat} {v : Value} {n : Nat} {xs : List Value} (h : w.ownsRow base e size v n xs)
    : ∀ k, v.ownBlock = some k → k < w.heap.size := fun k hk => (h.lt k hk).2

namespace Own
variable {e : TypeId} {w w' : World} {lo hi : Nat} {v : Value} {xs : List Value}

theorem of_row (h : w.ownsRow lo e 1 v xs.length xs) : Own e w lo w.heap.size v xs := ⟨h, ownsRow_lt h⟩

theorem nil (e : TypeId) (w : World) (lo hi : Nat) : Own e w lo hi (.slice none 0 0) [] := ⟨World.ownsRow_nil _ _ _ _, by simp [Value.ownBlock]⟩

theorem kept (h : Own e w lo hi v xs) (hk : ∀ k, lo ≤ k → k < hi → k < w.heap.size → w'.heap[k]? = w.heap[k]?) : Own e w' lo hi v xs :=
  ⟨ownsRow_of_block h.row fun k hb => hk k (h.row.lt k hb).1 (h.lt k hb) (h.row.lt k hb).2, h.lt⟩

theorem below {B : Nat} (h : Own e w lo hi v xs) (hb : Below B w w') (hB : hi ≤ B) : Own e w' lo hi v xs :=
  h.kept fun k _ h2 _ => hb.block k (by omega)

theorem later (h : Own e w lo hi v xs) (hb : Below w.heap.size w w') : Own e w' lo hi v xs :=
  h.kept fun k _ _ h3 => hb.block k h3

theorem mono {lo' hi' : Nat} (h : Own e w lo hi v xs) (h1 : lo' ≤ lo) (h2 : hi ≤ hi') : Own e w lo' hi' v xs :=
  ⟨ownsRow_mono h.row h1, fun k hk => by have := h.lt k hk; omega⟩

theorem alloc (h : Own e w lo hi v xs) (o : Obj) : Own e (w.alloc o) lo hi v xs := ⟨h.row.alloc o, h.lt⟩
theorem drew (h : Own e w lo hi v xs) : Own e w.drew lo hi v xs := ⟨h.row.drew, h.lt⟩

/-- The slice's value, in one form for nil and any other. -/
theorem view (h : Own e w lo hi v xs) : ∃ ao g cap, v = .slice ao xs.length cap ∧ xs.length ≤ cap ∧ (0 < xs.length → ao = some ⟨g, 0, none⟩ ∧ lo ≤ g ∧ g < hi) ∧
    ∀ i, i < xs.length → w.cell? ⟨g, i, none⟩ = xs[i]? ∧ w.frozen? ⟨g, i, none⟩ = false := by
  obtain ⟨h, hlt⟩ := h
  have h0 := h
  rcases h.2 with ⟨rfl, hn⟩ | ⟨g, cap, cur, rfl, hg, hh, hn, hm, hs, ht⟩
  · exact ⟨none, 0, 0, by rw [hn], by omega, by omega, by omega⟩
  · refine ⟨some ⟨g, 0, none⟩, g, cap, rfl, hn, fun _ => ⟨rfl, hg, hlt g rfl⟩, fun i hi => ?_⟩
    exact ⟨by simpa using h0.cellAt i (by omega), h0.frozenAt i⟩
end Own

/-- A whole row that is known cell by cell is owned. -/
theorem own_of_rowIs {w : World} {b n lo : Nat} {e : TypeId} {f : Nat → Value} (h : w.rowIs b e n f) (hb : lo ≤ b) (hn : n ≤ maxLen) : Own e w lo w.heap.size (.slice (some ⟨b, 0, none⟩) n n) ((List.range n).map f) := by
  obtain ⟨c, hh, hs, hc⟩ := h
  have hlen : ((List.range n).map f).length = n := by simp
  refine Own.of_row ?_
  rw [hlen]
  refine ⟨by simp, .inr ⟨b, n, c, rfl, hb, hh, Nat.le_refl _, hn, by omega, ?_⟩⟩
  apply List.ext_getElem?
  intro i
  rw [List.getElem?_take]
  by_cases hi : i < n
  · rw [if_pos (by omega)]
    simp [hi, hc i hi]
  · rw [if_neg (by omega)]
    simp [hi]

theorem map_range_getD {α β : Type} (xs : List α) (d : α) (f : α → β) : (List.range xs.length).map (fun i => f (xs.getD i d)) = xs.map f := by
  apply List.ext_getElem?
  intro i
  by_cases hi : i < xs.length
  · simp [hi, List.getD]
  · simp [hi]

/-- A slice of ints that a call has built. -/
def OwnI (w : World) (lo hi : Nat) (v : Value) (xs : List Int) : Prop := Own 3 w lo hi v (ivs xs)

theorem OwnI.view {w : World} {lo hi : Nat} {v : Value} {xs : List Int} (h : OwnI w lo hi v xs) : ∃ ao g cap, v = .slice ao xs.length cap ∧ xs.length ≤ cap ∧ (0 < xs.length → ao = some ⟨g, 0, none⟩ ∧ lo ≤ g ∧ g < hi) ∧
    ∀ i, i < xs.length → w.cell? ⟨g, i, none⟩ = some (.int .i64 (xs.getD i 0)) ∧ w.frozen? ⟨g, i, none⟩ = false := by
  obtain ⟨ao, g, cap, e, h1, h2, h3⟩ := Own.view h
  rw [ivs_length] at e h1 h2 h3
  refine ⟨ao, g, cap, e, h1, h2, fun i hi => ⟨?_, (h3 i hi).2⟩⟩
  rw [(h3 i hi).1, ivs_getElem?]
  simp [List.getD, List.getElem?_eq_getElem hi]

/-- A slice of ints, wherever its cells lie in its block (a part of another slice, say). -/
def IntsV (w : World) (lo hi : Nat) (v : Value) (xs : List Int) : Prop :=
  ∃ ao b off cap, v = .slice ao xs.length cap ∧ xs.length ≤ cap ∧ (0 < cap → ao = some ⟨b, off, none⟩ ∧ lo ≤ b ∧ b < hi) ∧
    ∀ i, i < xs.length → w.cell? ⟨b, off + i, none⟩ = some (.int .i64 (xs.getD i 0))

theorem ne_of_apart {u v : Value} (hb : u.ownBlock = none ∨ u.ownBlock ≠ v.ownBlock) {k : Nat} (hk : u.ownBlock = some k) : some k ≠ v.ownBlock := by
  rcases hb with hb | hb
  · rw [hb] at hk; cases hk
  · rw [← hk]; exact hb

theorem OwnI.ints {w : World} {lo hi : Nat} {v : Value} {xs : List Int} (h : OwnI w lo hi v xs) : IntsV w lo hi v xs := by
  rcases h.row.2 with ⟨rfl, hn⟩ | ⟨g, cap, cur, rfl, hg, hh, hn, hm, hs, ht⟩
  · rw [ivs_length] at hn
    exact ⟨none, 0, 0, 0, by rw [hn], by omega, by omega, fun i hi => by omega⟩
  · obtain ⟨ao, g', cap', e, h1, h2, h3⟩ := h.view
    rw [ivs_length] at e hn
    rw [ivs_length]
    cases e
    refine ⟨some ⟨g, 0, none⟩, g, 0, cap, rfl, hn, fun _ => ⟨rfl, hg, h.lt g rfl⟩, fun i hi => ?_⟩
    obtain ⟨e2, _, _⟩ := h2 (by omega)
    cases e2
    rw [Nat.zero_add]
    exact (h3 i hi).1

theorem IntsV.below {w w' : World} {lo hi B : Nat} {v : Value} {xs : List Int} (h : IntsV w lo hi v xs) (hb : Below B w w') (hB : hi ≤ B) : IntsV w' lo hi v xs := by
  obtain ⟨ao, b, off, cap, e, h1, h2, h3⟩ := h
  refine ⟨ao, b, off, cap, e, h1, h2, fun i hi => ?_⟩
  have := (h2 (by omega)).2.2
  exact (hb.cell (p := ⟨b, off + i, none⟩) (by show b < B; omega)).trans (h3 i hi)

theorem IntsV.mono {w : World} {lo hi lo' hi' : Nat} {v : Value} {xs : List Int} (h : IntsV w lo hi v xs) (h1 : lo' ≤ lo) (h2 : hi ≤ hi') : IntsV w lo' hi' v xs := by
  obtain ⟨ao, b, off, cap, e, q1, q2, q3⟩ := h
  exact ⟨ao, b, off, cap, e, q1, fun hc => ⟨(q2 hc).1, by have := (q2 hc).2; omega, by have := (q2 hc).2; omega⟩, q3⟩

/-- Two slices' blocks are not one. -/
def apartV (u v : Value) : Prop := u.ownBlock = none ∨ u.ownBlock ≠ v.ownBlock

/-- A slice of slices of ints that a call has built: all rows in blocks of their own, from 'lo' up to 'hi'. -/
structure OwnR (w : World) (lo hi : Nat) (v : Value) (vs : List Value) (xss : List (List Int)) : Prop where
  top : Own 27 w lo hi v vs
  len : vs.length = xss.length
  row : ∀ (i : Nat) (u : Value) (xs : List Int), vs[i]? = some u → xss[i]? = some xs → OwnI w lo hi u xs
  sep : vs.Pairwise apartV

namespace OwnR
variable {w w' : World} {lo hi : Nat} {v : Value} {vs : List Value} {xss : List (List Int)}

theorem nil (w : World) (lo hi : Nat) : OwnR w lo hi (.slice none 0 0) [] [] := ⟨Own.nil _ _ _ _, rfl, by simp, .nil⟩

theorem kept (h : OwnR w lo hi v vs xss) (hk : ∀ k, lo ≤ k → k < hi → k < w.heap.size → w'.heap[k]? = w.heap[k]?) : OwnR w' lo hi v vs xss :=
  ⟨h.top.kept hk, h.len, fun i u xs h1 h2 => Own.kept (h.row i u xs h1 h2) hk, h.sep⟩

theorem below {B : Nat} (h : OwnR w lo hi v vs xss) (hb : Below B w w') (hB : hi ≤ B) : OwnR w' lo hi v vs xss :=
  h.kept fun k _ h2 _ => hb.block k (by omega)

theorem later (h : OwnR w lo hi v vs xss) (hb : Below w.heap.size w w') : OwnR w' lo hi v vs xss :=
  h.kept fun k _ _ h3 => hb.block k h3

theorem mono {lo' hi' : Nat} (h : OwnR w lo hi v vs xss) (h1 : lo' ≤ lo) (h2 : hi ≤ hi') : OwnR w lo' hi' v vs xss :=
  ⟨h.top.mono h1 h2, h.len, fun i u xs a b => Own.mono (h.row i u xs a b) h1 h2, h.sep⟩

/-- The rows' elements are slices, one cell each. -/
theorem oneCell (h : OwnR w lo hi v vs xss) : ∀ u ∈ vs, u.oneCell' = true := by
  intro u hu
  obtain ⟨i, hi, rfl⟩ := List.getElem_of_mem hu
  have hx : i < xss.length := by rw [← h.len]; exact hi
  obtain ⟨ao, g, cap, e, _⟩ := (h.row i vs[i] xss[i] (List.getElem?_eq_getElem hi) (List.getElem?_eq_getElem hx)).view
  rw [e]; rfl

theorem top_apart (h : OwnR w lo hi v vs xss) : ∀ u ∈ vs, u.ownBlock = none ∨ u.ownBlock ≠ v.ownBlock := by
  intro u hu
  obtain ⟨i, hi, rfl⟩ := List.getElem_of_mem hu
  have hx : i < xss.length := by rw [← h.len]; exact hi
  have hr := h.row i vs[i] xss[i] (List.getElem?_eq_getElem hi) (List.getElem?_eq_getElem hx)
  rcases hr.row.2 with ⟨e, _⟩ | ⟨g, cap, cur, e, _, hh, _⟩
  · left; rw [e]; rfl
  · right
    rcases h.top.row.2 with ⟨e', _⟩ | ⟨g', cap', cur', e', _, hh', _⟩
    · rw [e, e']; simp [Value.ownBlock]
    · rw [e, e']
      simp only [Value.ownBlock, ne_eq, Option.some.injEq]
      intro hc; subst hc
      rw [hh] at hh'
      simp at hh'

/-- Behind an append of more rows to the slice: 'news' are rows in blocks that are not among the old ones. -/
theorem appended {news : List Value} {yss : List (List Int)} {v' : Value} {hi2 : Nat} (h : OwnR w lo hi v vs xss)
    (hn : news.length = yss.length) (hrow : ∀ (i : Nat) (u : Value) (xs : List Int), news[i]? = some u → yss[i]? = some xs → OwnI w lo hi2 u xs) (hsep : news.Pairwise apartV)
    (hx : ∀ u ∈ vs, ∀ t ∈ news, apartV u t) (htop : ∀ t ∈ news, t.ownBlock = none ∨ t.ownBlock ≠ v.ownBlock)
    (hown : w'.ownsRow lo 27 1 v' (vs.length + news.length) (vs ++ news)) (hg : w.grownBy w' v.ownBlock) : OwnR w' lo w'.heap.size v' (vs ++ news) (xss ++ yss) := by
  refine ⟨Own.of_row (by rw [List.length_append]; exact hown), by simp [h.len, hn], fun i u xs h1 h2 => ?_, ?_⟩
  · by_cases hi' : i < vs.length
    · rw [List.getElem?_append_left hi'] at h1
      rw [List.getElem?_append_left (by rw [← h.len]; exact hi')] at h2
      have hr := h.row i u xs h1 h2
      have hb := h.top_apart u (List.mem_of_getElem? h1)
      exact Own.of_row (ownsRow_of_block hr.row fun k hk => hg.block k (hr.row.lt k hk).2 (ne_of_apart hb hk))
    · have hi2 : vs.length ≤ i := by omega
      rw [List.getElem?_append_right hi2] at h1
      rw [List.getElem?_append_right (by rw [← h.len]; exact hi2), ← h.len] at h2
      have hr := hrow _ u xs h1 h2
      have hb := htop u (List.mem_of_getElem? h1)
      exact Own.of_row (ownsRow_of_block hr.row fun k hk => hg.block k (hr.row.lt k hk).2 (ne_of_apart hb hk))
  · rw [List.pairwise_append]
    exact ⟨h.sep, hsep, hx⟩

/-- The slice's value, in one form for nil and any other; each row by its own word. -/
theorem rows (h : OwnR w lo hi v vs xss) : ∃ ao g cap, v = .slice ao xss.length cap ∧ xss.length ≤ cap ∧ (0 < xss.length → ao = some ⟨g, 0, none⟩ ∧ lo ≤ g ∧ g < hi) ∧
    ∀ i, i < xss.length → w.cell? ⟨g, i, none⟩ = some (vs.getD i undef) ∧ OwnI w lo hi (vs.getD i undef) (xss.getD i []) := by
  obtain ⟨ao, g, cap, e, h1, h2, h3⟩ := h.top.view
  rw [h.len] at e h1 h2 h3
  refine ⟨ao, g, cap, e, h1, h2, fun i hi => ?_⟩
  have hv : i < vs.length := by rw [h.len]; exact hi
  refine ⟨by rw [(h3 i hi).1, List.getElem?_eq_getElem hv]; simp [List.getD, List.getElem?_eq_getElem hv], ?_⟩
  exact h.row i _ _ (by simp [List.getD, List.getElem?_eq_getElem hv]) (by simp [List.getD, List.getElem?_eq_getElem hi])

/-- The slice's value and its rows', in one form for nil and any other. -/
theorem view (h : OwnR w lo hi v vs xss) : ∃ ao g cap, ∃ (A : Nat → Option Addr) (G C : Nat → Nat), v = .slice ao xss.length cap ∧ xss.length ≤ cap ∧
    (0 < xss.length → ao = some ⟨g, 0, none⟩ ∧ lo ≤ g ∧ g < hi) ∧
    ∀ i, i < xss.length → w.cell? ⟨g, i, none⟩ = some (.slice (A i) (xss.getD i []).length (C i)) ∧ (xss.getD i []).length ≤ C i ∧
      (0 < (xss.getD i []).length → A i = some ⟨G i, 0, none⟩ ∧ lo ≤ G i ∧ G i < hi) ∧
      ∀ j, j < (xss.getD i []).length → w.cell? ⟨G i, j, none⟩ = some (.int .i64 ((xss.getD i []).getD j 0)) := by
  obtain ⟨ao, g, cap, rfl, hcap, hao, hcell⟩ := h.top.view
  have hrow : ∀ i, i < xss.length → ∃ (y : Option Addr × Nat × Nat), vs[i]? = some (.slice y.1 (xss.getD i []).length y.2.2) ∧ (xss.getD i []).length ≤ y.2.2 ∧
      (0 < (xss.getD i []).length → y.1 = some ⟨y.2.1, 0, none⟩ ∧ lo ≤ y.2.1 ∧ y.2.1 < hi) ∧
      ∀ j, j < (xss.getD i []).length → w.cell? ⟨y.2.1, j, none⟩ = some (.int .i64 ((xss.getD i []).getD j 0)) := by
    intro i hi'
    have hv : i < vs.length := by rw [h.len]; exact hi'
    have hr := h.row i vs[i] xss[i] (List.getElem?_eq_getElem hv) (List.getElem?_eq_getElem hi')
    obtain ⟨a', g', c', e, h1, h2, h3⟩ := hr.view
    have ex : xss.getD i [] = xss[i] := by simp [List.getD, List.getElem?_eq_getElem hi']
    refine ⟨(a', g', c'), ?_, ?_, ?_, ?_⟩
    · rw [ex, List.getElem?_eq_getElem hv, e]
    · rw [ex]; exact h1
    · rw [ex]; exact h2
    · rw [ex]; exact fun j hj => (h3 j hj).1
  have ch : ∃ y : Nat → (Option Addr × Nat × Nat), ∀ i, i < xss.length → vs[i]? = some (.slice (y i).1 (xss.getD i []).length (y i).2.2) ∧ (xss.getD i []).length ≤ (y i).2.2 ∧
      (0 < (xss.getD i []).length → (y i).1 = some ⟨(y i).2.1, 0, none⟩ ∧ lo ≤ (y i).2.1 ∧ (y i).2.1 < hi) ∧
      ∀ j, j < (xss.getD i []).length → w.cell? ⟨(y i).2.1, j, none⟩ = some (.int .i64 ((xss.getD i []).getD j 0)) :=
    ⟨fun i => if hi : i < xss.length then (hrow i hi).choose else (none, 0, 0), fun i hi => by simp only [hi, dif_pos]; exact (hrow i hi).choose_spec⟩
  obtain ⟨y, hy⟩ := ch
  rw [h.len] at hcap hao hcell ⊢
  refine ⟨ao, g, cap, fun i => (y i).1, fun i => (y i).2.1, fun i => (y i).2.2, rfl, hcap, hao, fun i hi => ?_⟩
  obtain ⟨e1, e2, e3, e4⟩ := hy i hi
  exact ⟨by rw [(hcell i hi).1, e1], e2, e3, e4⟩
end OwnR

/-- A slice of slices of ints, wherever its cells lie in their blocks. -/
def RowsV (w : World) (lo hi : Nat) (v : Value) (vs : List Value) (xss : List (List Int)) : Prop :=
  ∃ ao b off cap, v = .slice ao xss.length cap ∧ xss.length ≤ cap ∧ vs.length = xss.length ∧ (0 < xss.length → ao = some ⟨b, off, none⟩ ∧ lo ≤ b ∧ b < hi) ∧
    ∀ i, i < xss.length → w.cell? ⟨b, off + i, none⟩ = some (vs.getD i undef) ∧ IntsV w lo hi (vs.getD i undef) (xss.getD i [])

theorem RowsV.later {w w' : World} {lo hi B : Nat} {v : Value} {vs : List Value} {xss : List (List Int)} (h : RowsV w lo hi v vs xss) (hb : Below B w w') (hB : hi ≤ B) : RowsV w' lo hi v vs xss := by
  obtain ⟨ao, b, off, cap, e, q1, q2, q3, q4⟩ := h
  exact ⟨ao, b, off, cap, e, q1, q2, q3, fun i hi => ⟨(hb.cell (p := ⟨b, off + i, none⟩) (by show b < B; have := (q3 (by omega)).2.2; omega)).trans (q4 i hi).1, (q4 i hi).2.below hb hB⟩⟩

end Go.Proofs.YtiodolbgapjmkaaGreatDoor
