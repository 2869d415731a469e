/- Whether a list of ints does not fall: the library's IsSorted and the reference's test, by their contracts. Conditions: the list is short. -/
import Derived.Test.YtiodolbgapjmkaaZero
namespace Go.Proofs.Ytiodolbgapjmkaa
open Go.RowKit
set_option maxRecDepth 100000
set_option linter.unusedVariables false

theorem rises_no {l : List Int} {i : Nat} (hi : i + 1 < l.length) (h : l.getD (i + 1) 0 < l.getD i 0) : risesB l = false := by
  rw [Bool.eq_false_iff]
  intro hr
  have := (risesB_iff l).1 hr i hi
  omega
theorem isNaN_c (x : Int) (w : World) : Calls Try.prog 185 #[.int .i64 x] w fun e w' => e = .returned (.bool false) ∧ w = w' := by
  have e1 : (x != x) = false := by simp
  go_enter Try.func185, Try.ntmps185
  go_wp2
  go_ret
  exact ⟨rfl, rfl⟩
theorem Less_c (x y : Int) (w : World) : Calls Try.prog 168 #[.int .i64 x, .int .i64 y] w fun e w' => e = .returned (.bool (decide (x < y))) ∧ w = w' := by
  by_cases h : x < y
  all_goals
    go_enter Try.func168, Try.ntmps168
    go_wp2_with (go_at_call 185; refine (isNaN_c _ _).mono ?_; rintro e w' ⟨rfl, rfl⟩)
    go_ret
    exact ⟨by simp [h], rfl⟩
set_option maxHeartbeats 1000000 in
theorem IsSorted_c (lo hi : Nat) (v : Value) (xs : List Int) (w : World) (hv : IntsV w lo hi v xs) (hh : hi ≤ w.heap.size) (hl : xs.length ≤ 1000000000) :
    Calls Try.prog 84 #[v] w fun e w' => e = .returned (.bool (risesB xs)) ∧ Below w.heap.size w w' := by
  obtain ⟨ao, b, off, cap, rfl, hcap, hao, hc⟩ := hv
  have HC := Lib.hid hc
  have HAO := Lib.hid hao
  obtain ⟨L, hL⟩ : ∃ L, L = xs.length := ⟨_, rfl⟩
  have HL := Lib.hid hL
  rw [← hL] at HC hcap hl ⊢
  clear hc hao hL
  go_enter Try.func84, Try.ntmps84
  go_wp2_with fail
  go_loopw [3] (fun i wr => ∃ k : Nat, k ≤ L - 1 ∧ i = .int .i64 ((L : Int) - 1 - k) ∧ Hid (∀ j, L - 1 - k ≤ j → j + 1 < L → xs.getD j 0 ≤ xs.getD (j + 1) 0) ∧ Below w.heap.size w wr) (fun i _ => (intOf i + 1).toNat)
  case atStart => exact ⟨0, Nat.zero_le _, by go_num, fun j h1 h2 => by omega, Below.refl _ _⟩
  case round =>
    obtain ⟨k, hk, rfl, HR, hb⟩ := hrel
    have HB := Lib.hid hb
    by_cases hlt : k + 1 < L
    · have hpos : (0 : Int) < (L : Int) - 1 - k := by omega
      obtain ⟨ha, q1, q2⟩ := HAO.out (by omega)
      subst ha
      obtain ⟨p, hp⟩ : ∃ p : Nat, p = L - 2 - k := ⟨_, rfl⟩
      have e1 : (L : Int) - 1 - k = (p : Int) + 1 := by omega
      rw [e1] at hpos ⊢
      have hp1 : (p : Int) + 1 < (L : Int) := by omega
      obtain ⟨x, hx⟩ : ∃ x, x = xs.getD p 0 := ⟨_, rfl⟩
      obtain ⟨y, hy⟩ : ∃ y, y = xs.getD (p + 1) 0 := ⟨_, rfl⟩
      have c1 : wr.cell? ⟨b, off + p, none⟩ = some (.int .i64 x) := by rw [hx]; exact (hb.cell (p := ⟨b, off + p, none⟩) (by show b < _; omega)).trans (HC.out p (by omega))
      have c2 : wr.cell? ⟨b, off + (p + 1), none⟩ = some (.int .i64 y) := by rw [hy]; exact (hb.cell (p := ⟨b, off + (p + 1), none⟩) (by show b < _; omega)).trans (HC.out (p + 1) (by omega))
      have hbw : b < wr.heap.size := by have := hb.size; omega
      have HX := Lib.hid hx
      have HY := Lib.hid hy
      have HP := Lib.hid hp
      have HE1 := Lib.hid e1
      clear hx hy hb hp e1
      by_cases hxy : y < x
      · have HXY := Lib.hid hxy
        have hd : decide (y < x) = true := decide_eq_true hxy
        go_wp2_with fail
        refine wp_region_later wr.heap.size wr (by kernel_rfl) (by kernel_rfl) (Below.refl _ _) ?_
        have hLW := LW.cells (B := wr.heap.size) (w0 := wr)
        repeat (go_big_quiet_step ((go_at_call 168; exact LW.call_same (Less_c _ _ _))))
        refine wpQuiet_nil ?_
        rintro w2 ⟨⟨w2s, hb2⟩, rfl⟩
        clear hLW
        go_wp2
        go_ret
        exact ⟨congrArg (fun b => Ending.returned (.bool b)) (rises_no (i := p) (by have := HL.out; omega) (by rw [← HX.out, ← HY.out]; exact HXY.out)).symm, HB.out.trans (hb2.mono HB.out.size)⟩
      · have HXY := Lib.hid hxy
        have hd : decide (y < x) = false := decide_eq_false hxy
        have hle : x ≤ y := by omega
        have hff : (y < x) = False := eq_false hxy
        go_wp2_with fail
        refine wp_region_later wr.heap.size wr (by kernel_rfl) (by kernel_rfl) (Below.refl _ _) ?_
        have hLW := LW.cells (B := wr.heap.size) (w0 := wr)
        repeat (go_big_quiet_step ((go_at_call 168; exact LW.call_same (Less_c _ _ _))))
        refine wpQuiet_nil ?_
        rintro w2 ⟨⟨w2s, hb2⟩, rfl⟩
        clear hLW
        go_wp2
        go_roundw
        case rel =>
          refine ⟨k + 1, by omega, by have := HE1.out; go_num, ?_, HB.out.trans (hb2.mono HB.out.size)⟩
          show ∀ j, _
          intro j h1 h2
          by_cases e : j = p
          · subst e
            have := HXY.out
            rw [← HX.out, ← HY.out]
            omega
          · exact HR.out j (by have := HP.out; omega) h2
        case measure => simp [intOf]; omega
    · have hneg : (L : Int) - 1 - k ≤ 0 := by omega
      have HE : Hid (risesB xs = true) := by
        show _ = _
        rw [risesB_iff]
        intro j hj
        exact HR.out j (by omega) (by have := HL.out; omega)
      clear hb
      go_wp2
      go_ret
      exact ⟨congrArg (fun b => Ending.returned (.bool b)) HE.out.symm, HB.out⟩
set_option maxHeartbeats 1000000 in
theorem l03Rises_c (lo hi : Nat) (v : Value) (xs : List Int) (w : World) (hv : IntsV w lo hi v xs) (hh : hi ≤ w.heap.size) (hl : xs.length ≤ 1000000000) :
    Calls Try.prog 83 #[v] w fun e w' => e = .returned (.bool (risesB xs)) ∧ Below w.heap.size w w' := by
  obtain ⟨ao, b, off, cap, rfl, hcap, hao, hc⟩ := hv
  have HC := Lib.hid hc
  have HAO := Lib.hid hao
  obtain ⟨L, hL⟩ : ∃ L, L = xs.length := ⟨_, rfl⟩
  have HL := Lib.hid hL
  rw [← hL] at HC hcap hl ⊢
  clear hc hao hL
  go_enter Try.func83, Try.ntmps83
  go_wp2_with fail
  go_loopw [3] (fun i wr => ∃ k : Nat, k ≤ L - 1 ∧ i = .int .i64 ((k : Int) + 1) ∧ Hid (∀ j, j < k → xs.getD j 0 ≤ xs.getD (j + 1) 0) ∧ Below w.heap.size w wr) (fun i _ => L + 1 - (intOf i).toNat)
  case atStart => exact ⟨0, Nat.zero_le _, by go_num, fun j h1 => by omega, Below.refl _ _⟩
  case round =>
    obtain ⟨k, hk, rfl, HR, hb⟩ := hrel
    have HB := Lib.hid hb
    by_cases hlt : k + 1 < L
    · have hpos : (k : Int) + 1 < (L : Int) := by omega
      obtain ⟨ha, q1, q2⟩ := HAO.out (by omega)
      subst ha
      obtain ⟨x, hx⟩ : ∃ x, x = xs.getD k 0 := ⟨_, rfl⟩
      obtain ⟨y, hy⟩ : ∃ y, y = xs.getD (k + 1) 0 := ⟨_, rfl⟩
      have c1 : wr.cell? ⟨b, off + k, none⟩ = some (.int .i64 x) := by rw [hx]; exact (hb.cell (p := ⟨b, off + k, none⟩) (by show b < _; omega)).trans (HC.out k (by omega))
      have c2 : wr.cell? ⟨b, off + (k + 1), none⟩ = some (.int .i64 y) := by rw [hy]; exact (hb.cell (p := ⟨b, off + (k + 1), none⟩) (by show b < _; omega)).trans (HC.out (k + 1) (by omega))
      have hbw : b < wr.heap.size := by have := hb.size; omega
      have HX := Lib.hid hx
      have HY := Lib.hid hy
      clear hx hy hb
      by_cases hxy : y < x
      · have HXY := Lib.hid hxy
        have hd : decide (y < x) = true := decide_eq_true hxy
        go_wp2_with fail
        refine wp_region_later wr.heap.size wr (by kernel_rfl) (by kernel_rfl) (Below.refl _ _) ?_
        have hLW := LW.cells (B := wr.heap.size) (w0 := wr)
        repeat (go_big_quiet_step (fail))
        refine wpQuiet_nil ?_
        rintro w2 ⟨⟨w2s, hb2⟩, rfl⟩
        clear hLW
        go_wp2
        go_ret
        exact ⟨congrArg (fun b => Ending.returned (.bool b)) (rises_no (i := k) (by have := HL.out; omega) (by rw [← HX.out, ← HY.out]; exact HXY.out)).symm, HB.out.trans (hb2.mono HB.out.size)⟩
      · have HXY := Lib.hid hxy
        have hd : decide (y < x) = false := decide_eq_false hxy
        have hle : x ≤ y := by omega
        have hff : (y < x) = False := eq_false hxy
        go_wp2_with fail
        refine wp_region_later wr.heap.size wr (by kernel_rfl) (by kernel_rfl) (Below.refl _ _) ?_
        have hLW := LW.cells (B := wr.heap.size) (w0 := wr)
        repeat (go_big_quiet_step (fail))
        refine wpQuiet_nil ?_
        rintro w2 ⟨⟨w2s, hb2⟩, rfl⟩
        clear hLW
        go_wp2
        go_roundw
        case rel =>
          refine ⟨k + 1, by omega, by go_num, ?_, HB.out.trans (hb2.mono HB.out.size)⟩
          show ∀ j, _
          intro j h1
          by_cases e : j = k
          · subst e
            have := HXY.out
            rw [← HX.out, ← HY.out]
            omega
          · exact HR.out j (by omega)
        case measure => simp [intOf]; omega
    · have hneg : (L : Int) ≤ (k : Int) + 1 := by omega
      have HE : Hid (risesB xs = true) := by
        show _ = _
        rw [risesB_iff]
        intro j hj
        exact HR.out j (by have := HL.out; omega)
      clear hb
      go_wp2
      go_ret
      exact ⟨congrArg (fun b => Ending.returned (.bool b)) HE.out.symm, HB.out⟩
end Go.Proofs.Ytiodolbgapjmkaa
