/- Lists of ints as the laws handle them: sorted by insertion, looked through, held against each other; by their contracts. Conditions: the lists are short. -/
import Derived.Test.YtiodolbgapjmkaaGreatDoorSortI
import Derived.Test.YtiodolbgapjmkaaGreatDoorInts
import Derived.Test.YtiodolbgapjmkaaGreatDoorBatch
namespace Go.Proofs.YtiodolbgapjmkaaGreatDoor
open Go.RowKit
set_option maxRecDepth 100000
set_option linter.unusedVariables false
set_option linter.unusedSimpArgs false

/-- The first q of a list's ints, and the others, in the same memory. -/
theorem IntsV.fore {w : World} {lo hi b off L cap : Nat} {l : List Int} (h : IntsV w lo hi (.slice (some ⟨b, off, none⟩) L cap) l) (hL : l.length = L) (q : Nat) (hq : q ≤ L) : IntsV w lo hi (.slice (some ⟨b, off, none⟩) q cap) (l.take q) := by
  subst hL
  by_cases h0 : 0 < cap
  · exact h.take q hq h0
  · obtain ⟨ao, b', off', cap', e, hcap, hao, hc⟩ := h
    injection e with e1 e2 e3
    subst e3
    have hl : (l.take q).length = q := by rw [List.length_take]; omega
    exact ⟨_, b, off, cap, by rw [hl], by omega, fun h9 => absurd h9 h0, fun i hi' => by omega⟩
theorem IntsV.aft {w : World} {lo hi b off L cap : Nat} {l : List Int} (h : IntsV w lo hi (.slice (some ⟨b, off, none⟩) L cap) l) (hL : l.length = L) (q : Nat) (hq : q ≤ L) : (cap = q → IntsV w lo hi (.slice (some ⟨b, off, none⟩) (L - q) (cap - q)) (l.drop q)) ∧ (cap ≠ q → IntsV w lo hi (.slice (some ⟨b, off + q, none⟩) (L - q) (cap - q)) (l.drop q)) := by
  subst hL
  obtain ⟨ao, b', off', cap', e, hcap, hao, hc⟩ := h
  injection e with e1 e2 e3
  subst e3
  constructor
  · intro hc2
    exact ⟨_, b, off, cap - q, by rw [List.length_drop], by rw [List.length_drop]; omega, fun h9 => by omega, fun i hi' => by rw [List.length_drop] at hi'; omega⟩
  · intro hc2
    obtain ⟨rfl, q1, q2⟩ := hao (by omega)
    injection e1 with e1
    injection e1 with e1 e4
    subst e1 e4
    exact ⟨_, b, off + q, cap - q, by rw [List.length_drop], by rw [List.length_drop]; omega, fun _ => ⟨rfl, q1, q2⟩, fun i hi' => by
      rw [List.length_drop] at hi'
      rw [Nat.add_assoc, hc (q + i) (by omega)]
      simp [List.getD, List.getElem?_drop]⟩

theorem rises_no' {l : List Int} {i : Nat} (hi : i + 1 < l.length) (h : l.getD (i + 1) 0 < l.getD i 0) : risesB l = false := by
  rw [Bool.eq_false_iff]
  intro hr
  have := (risesB_iff l).1 hr i hi
  omega
set_option maxHeartbeats 1000000 in
theorem same_c (lo hi lo' hi' : Nat) (v u : Value) (xs ys : List Int) (w : World) (hv : IntsV w lo hi v xs) (hu : IntsV w lo' hi' u ys) (h1 : hi ≤ w.heap.size) (h2 : hi' ≤ w.heap.size) (hl : xs.length ≤ 1000000000) :
    Calls Tryz.prog 12 #[v, u] w fun e w' => e = .returned (.bool (decide (xs = ys))) ∧ Below w.heap.size w w' := by
  obtain ⟨ao, g, off, cap, rfl, hcp, hao, hc⟩ := hv
  obtain ⟨bo, f, off2, cap', rfl, hcp2, hbo, hd⟩ := hu
  have HC := Lib.hid hc
  have HD := Lib.hid hd
  clear hc hd
  by_cases hlen : xs.length = ys.length
  · obtain ⟨L, hL⟩ : ∃ L, L = xs.length := ⟨_, rfl⟩
    have hL2 : L = ys.length := by omega
    have HL := Lib.hid hL
    have HL2 := Lib.hid hL2
    rw [← hL] at hcp HC hl
    rw [← hL2] at hcp2 HD
    rw [← hL, ← hL2]
    clear hL hL2 hlen
    go_enter Tryz.func12, Tryz.ntmps12
    go_wp2_with fail
    go_loopw [14] (fun i wr => ∃ k : Nat, k ≤ L ∧ i = .int .i64 k ∧ Hid (xs.take k = ys.take k) ∧ w = wr) (fun i _ => L - (intOf i).toNat)
    case atStart => exact ⟨0, Nat.zero_le _, rfl, rfl, rfl⟩
    case round =>
      obtain ⟨k, hk, rfl, HT, rfl⟩ := hrel
      by_cases hlt : k < L
      · obtain ⟨rfl, q1, q2⟩ := hao (by omega)
        obtain ⟨rfl, q3, q4⟩ := hbo (by omega)
        have hki : (k : Int) < (L : Int) := by omega
        obtain ⟨x, hx⟩ : ∃ x, x = xs.getD k 0 := ⟨_, rfl⟩
        obtain ⟨y, hy⟩ : ∃ y, y = ys.getD k 0 := ⟨_, rfl⟩
        have c1 : w.cell? ⟨g, off + k, none⟩ = some (.int .i64 x) := by rw [hx]; exact HC.out k hlt
        have c2 : w.cell? ⟨f, off2 + k, none⟩ = some (.int .i64 y) := by rw [hy]; exact HD.out k hlt
        have HX := Lib.hid hx
        have HY := Lib.hid hy
        clear hx hy
        by_cases hxy : x = y
        · have e1 : (x == y) = true := by rw [beq_iff_eq]; exact hxy
          have e2 : (x != y) = false := by rw [bne_eq_false_iff_eq]; exact hxy
          have HXY := Lib.hid hxy
          clear hxy
          go_wp2
          go_roundw
          case rel => exact ⟨k + 1, by omega, by go_num, (by show _ = _; rw [take_snoc_getD 0 (by rw [← HL.out]; exact hlt), take_snoc_getD 0 (by rw [← HL2.out]; exact hlt), HT.out, ← HX.out, ← HY.out, HXY.out]), by trivial⟩
          case measure => simp [intOf]; omega
        · have HNE : Hid (¬ xs = ys) := by
            intro h
            apply hxy
            rw [HX.out, HY.out, h]
          have e1 : (x == y) = false := by rw [beq_eq_false_iff_ne]; exact hxy
          have e2 : (x != y) = true := by rw [bne_iff_ne]; exact hxy
          clear hxy
          go_wp2
          go_ret
          exact ⟨congrArg (fun b => Ending.returned (.bool b)) (decide_eq_false HNE.out).symm, Below.refl _ _⟩
      · have HE : Hid (xs = ys) := by
          have := HT.out
          rw [List.take_of_length_le (by have := HL.out; omega), List.take_of_length_le (by have := HL2.out; omega)] at this
          exact this
        have hki : ¬ (k : Int) < (L : Int) := by omega
        go_wp2
        go_ret
        exact ⟨congrArg (fun b => Ending.returned (.bool b)) (decide_eq_true HE.out).symm, Below.refl _ _⟩
  · have HNE : Hid (¬ xs = ys) := fun h => hlen (by rw [h])
    have hl1 : ((xs.length : Int) == (ys.length : Int)) = false := by rw [beq_eq_false_iff_ne]; omega
    have hl2 : ((xs.length : Int) != (ys.length : Int)) = true := by rw [bne_iff_ne]; omega
    clear hlen
    go_enter Tryz.func12, Tryz.ntmps12
    go_wp2
    go_ret
    exact ⟨congrArg (fun b => Ending.returned (.bool b)) (decide_eq_false HNE.out).symm, Below.refl _ _⟩
end Go.Proofs.YtiodolbgapjmkaaGreatDoor
