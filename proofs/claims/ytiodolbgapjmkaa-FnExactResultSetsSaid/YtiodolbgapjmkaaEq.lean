/- The comparisons of lists, of lists of lists and of networks that the laws use, by their contracts: the answer is whether the two are equal. Conditions: none. -/
import Derived.Test.YtiodolbgapjmkaaSmall
import Derived.Test.YtiodolbgapjmkaaLater
namespace Go.Proofs.Ytiodolbgapjmkaa
open Go.RowKit
set_option maxRecDepth 100000

theorem eqIntS_c (lo hi lo' hi' : Nat) (v u : Value) (xs ys : List Int) (w : World) (hv : OwnI w lo hi v xs) (hu : OwnI w lo' hi' u ys) (h1 : hi ≤ w.heap.size) (h2 : hi' ≤ w.heap.size) (hl : xs.length ≤ 9223372036854775806) :
    Calls Try.prog 15 #[v, u] w fun e w' => e = .returned (.bool (decide (xs = ys))) ∧ Below w.heap.size w w' := by
  obtain ⟨ao, g, cap, rfl, -, hao, hc⟩ := hv.view
  obtain ⟨bo, f, cap', rfl, -, hbo, hd⟩ := hu.view
  clear hv hu
  have HC := Lib.hid hc
  have HD := Lib.hid hd
  clear hc hd
  by_cases hlen : xs.length = ys.length
  · rw [← hlen] at hbo
    have hl1 : ((xs.length : Int) == (ys.length : Int)) = true := by rw [hlen]; simp
    have hl2 : ((xs.length : Int) != (ys.length : Int)) = false := by rw [hlen]; simp
    have HL := Lib.hid hlen
    clear hlen
    go_enter Try.func15, Try.ntmps15
    go_wp2
    go_loopw [5] (fun i wr => ∃ k : Nat, k ≤ xs.length ∧ i = .int .i64 k ∧ Hid (xs.take k = ys.take k) ∧ Below w.heap.size w wr) (fun i _ => xs.length - (intOf i).toNat)
    case atStart => exact ⟨0, Nat.zero_le _, rfl, rfl, Below.refl _ _⟩
    case round =>
      obtain ⟨k, hk, rfl, HT, hb⟩ := hrel
      by_cases hlt : k < xs.length
      · obtain ⟨rfl, q1, q2⟩ := hao (by omega)
        obtain ⟨rfl, q3, q4⟩ := hbo (by omega)
        have hklt : (k : Int) < (ys.length : Int) := by have := HL.out; omega
        obtain ⟨x, hx⟩ : ∃ x, x = xs.getD k 0 := ⟨_, rfl⟩
        obtain ⟨y, hy⟩ : ∃ y, y = ys.getD k 0 := ⟨_, rfl⟩
        have c1 : wr.cell? ⟨g, k, none⟩ = some (.int .i64 x) := by rw [hx]; exact (hb.cell (p := ⟨g, k, none⟩) (by show g < _; omega)).trans (HC.out k hlt).1
        have c2 : wr.cell? ⟨f, k, none⟩ = some (.int .i64 y) := by rw [hy]; exact (hb.cell (p := ⟨f, k, none⟩) (by show f < _; omega)).trans (HD.out k (by have := HL.out; omega)).1
        have HX := Lib.hid hx
        have HY := Lib.hid hy
        clear hx hy
        have q5 : g < wr.heap.size := by have := hb.size; omega
        have q6 : f < wr.heap.size := by have := hb.size; omega
        by_cases hxy : x = y
        · have e1 : (x == y) = true := by rw [beq_iff_eq]; exact hxy
          have e2 : (x != y) = false := by rw [bne_eq_false_iff_eq]; exact hxy
          have HXY := Lib.hid hxy
          clear hxy
          go_wp2_with fail
          refine wp_region_later wr.heap.size wr (by kernel_rfl) (by kernel_rfl) (Below.refl _ _) ?_
          have hLW := LW.cells (B := wr.heap.size) (w0 := wr)
          repeat (go_big_quiet_step (fail))
          refine wpQuiet_nil ?_
          rintro w2 ⟨⟨w2s, hb2⟩, rfl⟩
          clear hLW
          go_wp2
          go_roundw
          case rel => exact ⟨k + 1, by omega, by go_num, (by show _ = _; rw [take_snoc_getD 0 hlt, take_snoc_getD 0 (by have := HL.out; omega : k < ys.length), HT.out, ← HX.out, ← HY.out, HXY.out]), hb.trans (hb2.mono (hb.size))⟩
          case measure => simp [intOf]; omega
        · have HNE : Hid (¬ xs = ys) := by
            intro h
            apply hxy
            rw [HX.out, HY.out, h]
          have e1 : (x == y) = false := by rw [beq_eq_false_iff_ne]; exact hxy
          have e2 : (x != y) = true := by rw [bne_iff_ne]; exact hxy
          clear hxy
          go_wp2_with fail
          refine wp_region_later wr.heap.size wr (by kernel_rfl) (by kernel_rfl) (Below.refl _ _) ?_
          have hLW := LW.cells (B := wr.heap.size) (w0 := wr)
          repeat (go_big_quiet_step (fail))
          refine wpQuiet_nil ?_
          rintro w2 ⟨⟨w2s, hb2⟩, rfl⟩
          clear hLW
          go_wp2
          go_ret
          exact ⟨congrArg (fun b => Ending.returned (.bool b)) (decide_eq_false HNE.out).symm, hb.trans (hb2.mono hb.size)⟩
      · have HE : Hid (xs = ys) := by
          have := HT.out
          rw [List.take_of_length_le (by omega), List.take_of_length_le (by have := HL.out; omega)] at this
          exact this
        go_wp2
        go_ret
        exact ⟨congrArg (fun b => Ending.returned (.bool b)) (decide_eq_true HE.out).symm, hb⟩
  · have HNE : Hid (¬ xs = ys) := fun h => hlen (by rw [h])
    have hl1 : ((xs.length : Int) == (ys.length : Int)) = false := by rw [beq_eq_false_iff_ne]; omega
    have hl2 : ((xs.length : Int) != (ys.length : Int)) = true := by rw [bne_iff_ne]; omega
    clear hlen
    go_enter Try.func15, Try.ntmps15
    go_wp2
    go_ret
    exact ⟨congrArg (fun b => Ending.returned (.bool b)) (decide_eq_false HNE.out).symm, Below.refl _ _⟩

theorem eqIntSS_c (lo hi lo' hi' : Nat) (v u : Value) (vs us : List Value) (xss yss : List (List Int)) (w : World) (hv : OwnR w lo hi v vs xss) (hu : OwnR w lo' hi' u us yss) (h1 : hi ≤ w.heap.size) (h2 : hi' ≤ w.heap.size)
    (hl : xss.length ≤ 9223372036854775806) (hl2 : ∀ xs ∈ xss, xs.length ≤ 9223372036854775806) :
    Calls Try.prog 163 #[v, u] w fun e w' => e = .returned (.bool (decide (xss = yss))) ∧ Below w.heap.size w w' := by
  obtain ⟨ao, g, cap, rfl, -, hao, hc⟩ := hv.rows
  obtain ⟨bo, f, cap', rfl, -, hbo, hd⟩ := hu.rows
  clear hv hu
  have HC := Lib.hid hc
  have HD := Lib.hid hd
  clear hc hd
  by_cases hlen : xss.length = yss.length
  · rw [← hlen] at hbo
    have hl1 : ((xss.length : Int) == (yss.length : Int)) = true := by rw [hlen]; simp
    have hl2' : ((xss.length : Int) != (yss.length : Int)) = false := by rw [hlen]; simp
    have HL := Lib.hid hlen
    have HL2 := Lib.hid hl2
    clear hlen hl2
    go_enter Try.func163, Try.ntmps163
    go_wp2
    go_loopw [5] (fun i wr => ∃ k : Nat, k ≤ xss.length ∧ i = .int .i64 k ∧ Hid (xss.take k = yss.take k) ∧ Below w.heap.size w wr) (fun i _ => xss.length - (intOf i).toNat)
    case atStart => exact ⟨0, Nat.zero_le _, rfl, rfl, Below.refl _ _⟩
    case round =>
      obtain ⟨k, hk, rfl, HT, hb⟩ := hrel
      by_cases hlt : k < xss.length
      · obtain ⟨rfl, q1, q2⟩ := hao (by omega)
        obtain ⟨rfl, q3, q4⟩ := hbo (by omega)
        have hklt : (k : Int) < (yss.length : Int) := by have := HL.out; omega
        have r1 := (HC.out k hlt).2.below hb h1
        have r2 := (HD.out k (by have := HL.out; omega)).2.below hb h2
        have c1 := (hb.cell (p := ⟨g, k, none⟩) (by show g < _; omega)).trans (HC.out k hlt).1
        have c2 := (hb.cell (p := ⟨f, k, none⟩) (by show f < _; omega)).trans (HD.out k (by have := HL.out; omega)).1
        obtain ⟨x, hx⟩ : ∃ x, x = xss.getD k [] := ⟨_, rfl⟩
        obtain ⟨y, hy⟩ : ∃ y, y = yss.getD k [] := ⟨_, rfl⟩
        obtain ⟨s, hs⟩ : ∃ s, s = vs.getD k undef := ⟨_, rfl⟩
        obtain ⟨t, ht⟩ : ∃ t, t = us.getD k undef := ⟨_, rfl⟩
        rw [← hs] at c1
        rw [← hx, ← hs] at r1
        rw [← ht] at c2
        rw [← hy, ← ht] at r2
        clear hs ht
        have HX := Lib.hid hx
        have HY := Lib.hid hy
        have hxl : x.length ≤ 9223372036854775806 := HL2.out x (by rw [hx]; simp [List.getD, List.getElem?_eq_getElem hlt])
        clear hx hy
        have R1 := Lib.hid r1
        have R2 := Lib.hid r2
        clear r1 r2
        have q5 : hi ≤ wr.heap.size := by have := hb.size; omega
        have q6 : hi' ≤ wr.heap.size := by have := hb.size; omega
        have q7 : g < wr.heap.size := by omega
        have q8 : f < wr.heap.size := by omega
        by_cases hxy : x = y
        · have HXY := Lib.hid hxy
          have hdec : decide (x = y) = true := decide_eq_true hxy
          clear hxy
          go_wp2_with fail
          refine wp_region_later wr.heap.size wr (by kernel_rfl) (by kernel_rfl) (Below.refl _ _) ?_
          have hLW := LW.cells (B := wr.heap.size) (w0 := wr)
          repeat (go_big_quiet_step ((go_at_call 15; exact LW.call (Nat.le_refl _) (eqIntS_c lo hi lo' hi' s t x y _ (Own.below R1.out (LW.h _) q5) (Own.below R2.out (LW.h _) q6) (Nat.le_trans q5 (LW.h _).size) (Nat.le_trans q6 (LW.h _).size) hxl))))
          refine wpQuiet_nil ?_
          rintro w2 ⟨⟨w2s, hb2⟩, rfl⟩
          clear hLW
          go_wp2
          go_roundw
          case rel => exact ⟨k + 1, by omega, by go_num, (by show _ = _; rw [take_snoc_getD [] hlt, take_snoc_getD [] (by have := HL.out; omega : k < yss.length), HT.out, ← HX.out, ← HY.out, HXY.out]), hb.trans (hb2.mono (hb.size))⟩
          case measure => simp [intOf]; omega
        · have HNE : Hid (¬ xss = yss) := by
            intro h
            apply hxy
            rw [HX.out, HY.out, h]
          have hdec : decide (x = y) = false := decide_eq_false hxy
          clear hxy
          go_wp2_with fail
          refine wp_region_later wr.heap.size wr (by kernel_rfl) (by kernel_rfl) (Below.refl _ _) ?_
          have hLW := LW.cells (B := wr.heap.size) (w0 := wr)
          repeat (go_big_quiet_step ((go_at_call 15; exact LW.call (Nat.le_refl _) (eqIntS_c lo hi lo' hi' s t x y _ (Own.below R1.out (LW.h _) q5) (Own.below R2.out (LW.h _) q6) (Nat.le_trans q5 (LW.h _).size) (Nat.le_trans q6 (LW.h _).size) hxl))))
          refine wpQuiet_nil ?_
          rintro w2 ⟨⟨w2s, hb2⟩, rfl⟩
          clear hLW
          go_wp2
          go_ret
          exact ⟨congrArg (fun b => Ending.returned (.bool b)) (decide_eq_false HNE.out).symm, hb.trans (hb2.mono hb.size)⟩
      · have HE : Hid (xss = yss) := by
          have := HT.out
          rw [List.take_of_length_le (by omega), List.take_of_length_le (by have := HL.out; omega)] at this
          exact this
        go_wp2
        go_ret
        exact ⟨congrArg (fun b => Ending.returned (.bool b)) (decide_eq_true HE.out).symm, hb⟩
  · have HNE : Hid (¬ xss = yss) := fun h => hlen (by rw [h])
    have hl1 : ((xss.length : Int) == (yss.length : Int)) = false := by rw [beq_eq_false_iff_ne]; omega
    have hl2' : ((xss.length : Int) != (yss.length : Int)) = true := by rw [bne_iff_ne]; omega
    clear hlen hl2
    go_enter Try.func163, Try.ntmps163
    go_wp2
    go_ret
    exact ⟨congrArg (fun b => Ending.returned (.bool b)) (decide_eq_false HNE.out).symm, Below.refl _ _⟩

theorem eqNetwork_c (lo hi lo' hi' : Nat) (n m : Int) (v u : Value) (vs us : List Value) (xss yss : List (List Int)) (w : World) (hv : OwnR w lo hi v vs xss) (hu : OwnR w lo' hi' u us yss) (h1 : hi ≤ w.heap.size) (h2 : hi' ≤ w.heap.size)
    (hl : xss.length ≤ 9223372036854775806) (hl2 : ∀ xs ∈ xss, xs.length ≤ 9223372036854775806) :
    Calls Try.prog 78 #[.agg #[.int .i64 n, v], .agg #[.int .i64 m, u]] w fun e w' => e = .returned (.bool (decide (n = m ∧ xss = yss))) ∧ Below w.heap.size w w' := by
  obtain ⟨ao, -, cap, ev, -, -, -⟩ := hv.rows
  obtain ⟨bo, -, cap', eu, -, -, -⟩ := hu.rows
  have HV := Lib.hid hv
  have HU := Lib.hid hu
  have HL2 := Lib.hid hl2
  clear hv hu hl2
  subst ev eu
  have bx : Below w.heap.size w ((w.alloc (.cells #[.int .i64 n, .slice ao xss.length cap] 30)).alloc (.cells #[.int .i64 m, .slice bo yss.length cap'] 30)) :=
    ((Below.refl _ _).alloc (Nat.le_refl _) _).alloc (by simp) _
  have BX := Lib.hid bx
  clear bx
  by_cases hnm : n = m
  · have e1 : (n == m) = true := by rw [beq_iff_eq]; exact hnm
    have e2 : (n != m) = false := by rw [bne_eq_false_iff_eq]; exact hnm
    have HNM := Lib.hid hnm
    clear hnm
    by_cases hx : xss = yss
    · have hd : decide (xss = yss) = true := decide_eq_true hx
      have HX := Lib.hid hx
      clear hx
      go_enter Try.func78, Try.ntmps78
      go_wp2_with fail
      refine (eqIntSS_c lo hi lo' hi' _ _ vs us xss yss _ (HV.out.below BX.out h1) (HU.out.below BX.out h2) (by simp; omega) (by simp; omega) hl HL2.out).mono ?_
      rintro e w2 ⟨rfl, hb2⟩
      go_wp2
      go_ret
      exact ⟨congrArg (fun b => Ending.returned (.bool b)) (decide_eq_true ⟨HNM.out, HX.out⟩).symm, BX.out.trans (hb2.mono (by simp; omega))⟩
    · have hd : decide (xss = yss) = false := decide_eq_false hx
      have HX : Hid (¬ (n = m ∧ xss = yss)) := fun h => hx h.2
      clear hx
      go_enter Try.func78, Try.ntmps78
      go_wp2_with fail
      refine (eqIntSS_c lo hi lo' hi' _ _ vs us xss yss _ (HV.out.below BX.out h1) (HU.out.below BX.out h2) (by simp; omega) (by simp; omega) hl HL2.out).mono ?_
      rintro e w2 ⟨rfl, hb2⟩
      go_wp2
      go_ret
      exact ⟨congrArg (fun b => Ending.returned (.bool b)) (decide_eq_false HX.out).symm, BX.out.trans (hb2.mono (by simp; omega))⟩
  · have e1 : (n == m) = false := by rw [beq_eq_false_iff_ne]; exact hnm
    have e2 : (n != m) = true := by rw [bne_iff_ne]; exact hnm
    have HX : Hid (¬ (n = m ∧ xss = yss)) := fun h => hnm h.1
    clear hnm
    go_enter Try.func78, Try.ntmps78
    go_wp2_with fail
    go_ret
    exact ⟨congrArg (fun b => Ending.returned (.bool b)) (decide_eq_false HX.out).symm, BX.out⟩
end Go.Proofs.Ytiodolbgapjmkaa
