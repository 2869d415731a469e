/- Wires that differ, and Batcher's comparators on them, in plain terms. Conditions: at most eight wires. -/
import Derived.Test.YtiodolbgapjmkaaBatN
import Derived.Test.YtiodolbgapjmkaaLive
import Derived.Test.YtiodolbgapjmkaaRenamed
import Derived.Test.YtiodolbgapjmkaaOut
namespace Go.Proofs.Ytiodolbgapjmkaa
open Go.RowKit
set_option maxRecDepth 100000
set_option linter.unusedVariables false

/-- The k-th wire is one of the network's and no earlier one. -/
def okAt (n : Nat) (xs : List Int) (k : Nat) : Bool := inB (xs.getD k 0) 0 ((n : Int) - 1) && !(xs.take k).contains (xs.getD k 0)
def seqB (n : Nat) (xs : List Int) : Bool := decide (0 < xs.length) && allB (okAt n xs) xs.length
theorem seqB_at {n : Nat} {xs : List Int} (h : seqB n xs = true) {k : Nat} (hk : k < xs.length) : ∃ i : Nat, xs.getD k 0 = (i : Int) ∧ i < n ∧ wantB xs k i = false := by
  simp only [seqB, allB, Bool.and_eq_true, List.all_eq_true, List.mem_range, decide_eq_true_eq] at h
  have h2 := h.2 k hk
  simp only [okAt, Bool.and_eq_true, Bool.not_eq_true'] at h2
  have h3 := inB_of h2.1
  refine ⟨(xs.getD k 0).toNat, by omega, by omega, ?_⟩
  unfold wantB
  rw [Int.toNat_of_nonneg h3.1]
  exact h2.2
theorem seqB_pos {n : Nat} {xs : List Int} (h : seqB n xs = true) : 0 < xs.length := by
  simp only [seqB, Bool.and_eq_true, decide_eq_true_eq] at h
  exact h.1
/-- The first wire that is not so. -/
theorem seqB_no {n : Nat} {xs : List Int} (h : seqB n xs = false) (h0 : 0 < xs.length) : ∃ K, K < xs.length ∧ okAt n xs K = false ∧ ∀ k, k < K → okAt n xs k = true := by
  have h1 : allB (okAt n xs) xs.length = false := by
    unfold seqB at h
    rw [decide_eq_true h0, Bool.true_and] at h
    exact h
  unfold allB at h1
  rw [List.all_eq_false] at h1
  obtain ⟨K0, a, b⟩ := h1
  have a' := List.mem_range.1 a
  have : ∀ K0, okAt n xs K0 = false → ∃ K, K ≤ K0 ∧ okAt n xs K = false ∧ ∀ k, k < K → okAt n xs k = true := by
    intro K0
    induction K0 using Nat.strongRecOn with
    | ind K0 ih =>
      intro b
      by_cases hc : ∃ m, m < K0 ∧ okAt n xs m = false
      · obtain ⟨m, hm, hp⟩ := hc
        obtain ⟨K, c1, c2, c3⟩ := ih m hm hp
        exact ⟨K, by omega, c2, c3⟩
      · refine ⟨K0, Nat.le_refl _, b, fun k hk => ?_⟩
        cases e : okAt n xs k with
        | true => rfl
        | false => exact absurd ⟨k, hk, e⟩ hc
  obtain ⟨K, c1, c2, c3⟩ := this K0 (by simpa using b)
  exact ⟨K, by omega, c2, c3⟩
theorem few_below : ∀ (n : Nat) (xs : List Int), xs.Nodup → (∀ x ∈ xs, 0 ≤ x ∧ x < n) → xs.length ≤ n := by
  intro n
  induction n with
  | zero =>
    intro xs _ h
    cases xs with
    | nil => simp
    | cons x r => have := h x (List.mem_cons_self ..); omega
  | succ n ih =>
    intro xs hd h
    have h1 := ih (xs.erase (n : Int)) (hd.erase _) (fun x hx => by
      have h2 := (List.Nodup.mem_erase_iff hd).1 hx
      have h3 := h x h2.2
      have : x ≠ (n : Int) := h2.1
      omega)
    have h4 : xs.length ≤ (xs.erase (n : Int)).length + 1 := by
      rw [List.length_erase]
      split <;> omega
    omega
theorem seqB_nodup {n : Nat} {xs : List Int} (h : seqB n xs = true) : ∀ k, k ≤ xs.length → (xs.take k).Nodup := by
  intro k
  induction k with
  | zero => intro _; simp
  | succ k ih =>
    intro hk
    obtain ⟨i, h1, h2, h3⟩ := seqB_at h (k := k) (by omega)
    rw [take_snoc_getD 0 (by omega), List.nodup_append]
    refine ⟨ih (by omega), by simp, fun a ha b hb => ?_⟩
    have hb' := List.mem_singleton.1 hb
    intro e
    rw [hb', h1] at e
    rw [e] at ha
    unfold wantB at h3
    rw [← Bool.not_eq_true] at h3
    exact h3 (by simpa using ha)
theorem seqB_len {n : Nat} {xs : List Int} (h : seqB n xs = true) : xs.length ≤ n := by
  have h1 := seqB_nodup h xs.length (Nat.le_refl _)
  rw [List.take_length] at h1
  refine few_below n xs h1 fun x hx => ?_
  obtain ⟨k, hk, rfl⟩ := List.getElem_of_mem hx
  obtain ⟨i, h2, h3, -⟩ := seqB_at h hk
  have : xs[k] = xs.getD k 0 := by simp [List.getD, hk]
  rw [this, h2]
  omega
theorem getD_map_lt (g : Int → Int) (xs : List Int) (i : Nat) (h : i < xs.length) : (xs.map g).getD i 0 = g (xs.getD i 0) := by simp [List.getD, List.getElem?_eq_getElem h]
theorem mrgL_map (g : Int → Int) (a b : List Int) : mrgL (a.map g) (b.map g) = renP g (mrgL a b) := by
  unfold mrgL renP
  rw [List.length_map, List.length_map, List.map_map]
  apply List.map_congr_left
  intro r hr
  obtain ⟨k, hk, rfl⟩ := List.getElem_of_mem hr
  obtain ⟨i, j, e, hi, hj⟩ := mrg_rows a.length b.length k hk
  have e2 : (mrg (a.length + b.length) (upI 0 a.length) (upI a.length b.length))[k] = [(i : Int), (j : Int)] := by rw [← e]; simp [List.getD, hk]
  rw [e2]
  simp only [Function.comp]
  unfold lookP
  rw [← List.map_append]
  simp only [List.getD_cons_zero, List.getD_cons_succ, Int.toNat_natCast, List.map_cons, List.map_nil]
  rw [getD_map_lt _ _ _ (by rw [List.length_append]; omega), getD_map_lt _ _ _ (by rw [List.length_append]; omega)]
theorem renP_append (g : Int → Int) (a b : List (List Int)) : renP g (a ++ b) = renP g a ++ renP g b := by simp [renP]
theorem batL_map (g : Int → Int) : ∀ (f : Nat) (l : List Int), batL f (l.map g) = renP g (batL f l) := by
  intro f
  induction f with
  | zero => intro l; rfl
  | succ f ih =>
    intro l
    unfold batL
    rw [List.length_map]
    split
    · rfl
    · rw [List.map_take.symm, List.map_drop.symm, ih, ih, mrgL_map, renP_append, renP_append]
def lookI (xs : List Int) (x : Int) : Int := xs.getD x.toNat 0
theorem map_look (xs : List Int) : (upI 0 xs.length).map (lookI xs) = xs := by
  apply List.ext_getElem?
  intro i
  by_cases hi : i < xs.length
  · simp [upI, lookI, hi, List.getD]
  · simp [upI, hi]
/-- Batcher's comparators on a list of wires are those on the first ones, renamed. -/
theorem batL_look (xs : List Int) (h : xs.length ≤ 8) : batL xs.length xs = renP (lookI xs) (bat xs.length (upI 0 xs.length)) := by
  have h1 := batL_map (lookI xs) xs.length (upI 0 xs.length)
  rw [map_look, batEq xs.length h] at h1
  exact h1
/-- The network with the sorter behind it. -/
def sortOnX (xss : List (List Int)) (xs : List Int) : List (List Int) := xss ++ renP (lookI xs) (bat xs.length (upI 0 xs.length))
theorem bat_ok2 (n : Nat) (h1 : 1 ≤ n) (h8 : n ≤ 8) : netOk n (bat n (upI 0 n)) = true := by
  have : ∀ n < 9, 1 ≤ n → netOk (n : Nat) (bat n (upI 0 n)) = true := by decide +kernel
  exact this n (by omega) h1
end Go.Proofs.Ytiodolbgapjmkaa
