/- Whether two networks do the same, and whether a list has a number: by their contracts. Conditions: the networks are valid and of as many wires. -/
import Derived.Test.YtgdkihabphihoaaBitsC
import Derived.Test.YtgdkihabphihoaaMaskL
import Derived.Test.YtgdkihabphihoaaParts
import Derived.Test.YtgdkihabphihoaaNetOk
namespace Go.Proofs.Ytgdkihabphihoaa
open Go.RowKit
set_option maxRecDepth 100000
set_option linter.unusedVariables false

/-- Two networks do the same to all masks. -/
def sameB (n : Nat) (xss yss : List (List Int)) : Bool := allB (fun m => bitsP xss m == bitsP yss m) (2 ^ n)
set_option maxHeartbeats 4000000 in
theorem DoSame_y (n : Nat) (lo hi lo2 hi2 : Nat) (v u : Value) (vs us : List Value) (xss yss : List (List Int)) (w : World) (hv : OwnR w lo hi v vs xss) (hhi : hi ≤ w.heap.size) (hu : OwnR w lo2 hi2 u us yss) (hhi2 : hi2 ≤ w.heap.size) (hok : netOk n xss = true) (hok2 : netOk n yss = true) :
    Calls Try.prog 61 #[.agg #[.int .i64 n, v], .agg #[.int .i64 n, u]] w fun e w' => e = .returned (.bool (sameB n xss yss)) ∧ Below w.heap.size w w' := by
  have HC : Hid (∀ w, OwnR w lo hi v vs xss → hi ≤ w.heap.size → Calls Try.prog 104 #[.agg #[.int .i64 n, v]] w fun e w' => e = .returned (.bool true) ∧ Below w.heap.size w w') := fun w h1 h2 => by
    have := NetworkOk_c n lo hi v vs xss w h1 h2
    rwa [hok] at this
  have HD : Hid (∀ w, OwnR w lo2 hi2 u us yss → hi2 ≤ w.heap.size → Calls Try.prog 104 #[.agg #[.int .i64 n, u]] w fun e w' => e = .returned (.bool true) ∧ Below w.heap.size w w') := fun w h1 h2 => by
    have := NetworkOk_c n lo2 hi2 u us yss w h1 h2
    rwa [hok2] at this
  have CE0 : Hid (∀ (w : World) (m : Nat), OwnR w lo hi v vs xss → hi ≤ w.heap.size → m < 2 ^ n → Calls Try.prog 132 #[.agg #[.int .i64 n, v], .int .i64 m] w fun e w' => e = .returned (.int .i64 (bitsP xss m : Nat)) ∧ Below w.heap.size w w') := fun w m h1 h2 h3 => bits_c n lo hi v vs xss m w h1 h2 hok h3
  have CF0 : Hid (∀ (w : World) (m : Nat), OwnR w lo2 hi2 u us yss → hi2 ≤ w.heap.size → m < 2 ^ n → Calls Try.prog 132 #[.agg #[.int .i64 n, u], .int .i64 m] w fun e w' => e = .returned (.int .i64 (bitsP yss m : Nat)) ∧ Below w.heap.size w w') := fun w m h1 h2 h3 => bits_c n lo2 hi2 u us yss m w h1 h2 hok2 h3
  have hn8 : n ≤ 8 := by have := netOk_n hok; omega
  have h256 := pow_le_256 n hn8
  obtain ⟨RES, hRES⟩ : ∃ r, r = sameB n xss yss := ⟨_, rfl⟩
  have HRES := Lib.hid hRES
  rw [← hRES]
  obtain ⟨ao, g, cap, rfl, -, -, -⟩ := hv.rows
  obtain ⟨ao2, g2, cap2, rfl, -, -, -⟩ := hu.rows
  have HV := Lib.hid hv
  have HU := Lib.hid hu
  obtain ⟨L, hlen⟩ : ∃ l, l = xss.length := ⟨_, rfl⟩
  obtain ⟨M, hlen2⟩ : ∃ l, l = yss.length := ⟨_, rfl⟩
  rw [← hlen] at HV HC CE0 ⊢
  rw [← hlen2] at HU HD CF0 ⊢
  obtain ⟨N, hN⟩ : ∃ N, N = 2 ^ n := ⟨_, rfl⟩
  have hwp := wrap_pow n hn8
  rw [← hN] at hwp h256 CE0 CF0
  have HN := Lib.hid hN
  have hnn : ((n : Int) != (n : Int)) = false := by simp
  clear hv hu hlen hlen2 hok hok2 hN hRES
  go_enter Try.func61, Try.ntmps61
  go_wp2_with fail
  obtain ⟨W1, hW1, c0, c1, hsz, hB1, -, -⟩ := box2 w (.int .i64 n) (.slice ao L cap) 27
  obtain ⟨W2, hW2, d0, d1, hsz2, hB2, -, -⟩ := box2 W1 (.int .i64 n) (.slice ao2 M cap2) 27
  obtain ⟨c0, c1, hz1⟩ := boxC hB2 (by omega) c0 c1
  have hz2 : W1.heap.size < W2.heap.size := by omega
  rw [hsz] at d0 d1 hz2
  try rw [hW1, hW2]
  clear hW1 hW2
  have HB2 : Hid (Below w.heap.size w W2) := hB1.trans (hB2.mono (by omega))
  clear hB1 hB2 hsz hsz2
  refine (HC.out W2 (HV.out.below HB2.out hhi) (by omega)).mono ?_
  rintro e w3 ⟨rfl, b3⟩
  have z3 := b3.size
  replace c0 := (b3.cell (p := ⟨w.heap.size, 0, none⟩) (by show w.heap.size < _; omega)).trans c0
  replace c1 := (b3.cell (p := ⟨w.heap.size, 1, none⟩) (by show w.heap.size < _; omega)).trans c1
  replace d0 := (b3.cell (p := ⟨w.heap.size + 1, 0, none⟩) (by show w.heap.size + 1 < _; omega)).trans d0
  replace d1 := (b3.cell (p := ⟨w.heap.size + 1, 1, none⟩) (by show w.heap.size + 1 < _; omega)).trans d1
  have HB3 : Hid (Below w.heap.size w w3) := HB2.out.trans (b3.mono (by omega))
  clear b3
  go_wp2_with fail
  refine (HD.out w3 (HU.out.below HB3.out hhi2) (by omega)).mono ?_
  rintro e w4 ⟨rfl, b4⟩
  have z4 := b4.size
  replace c0 := (b4.cell (p := ⟨w.heap.size, 0, none⟩) (by show w.heap.size < _; omega)).trans c0
  replace c1 := (b4.cell (p := ⟨w.heap.size, 1, none⟩) (by show w.heap.size < _; omega)).trans c1
  replace d0 := (b4.cell (p := ⟨w.heap.size + 1, 0, none⟩) (by show w.heap.size + 1 < _; omega)).trans d0
  replace d1 := (b4.cell (p := ⟨w.heap.size + 1, 1, none⟩) (by show w.heap.size + 1 < _; omega)).trans d1
  have HB4 : Hid (Below w.heap.size w w4) := HB3.out.trans (b4.mono (by omega))
  have hz4 : w.heap.size + 1 < w4.heap.size := by omega
  clear b4
  go_wp2_with fail
  try simp only [hwp]
  go_loopw [24] (fun i wr => ∃ k : Nat, k ≤ N ∧ i = .int .i64 k ∧ Hid (allB (fun m => bitsP xss m == bitsP yss m) k = true) ∧ Below w4.heap.size w4 wr) (fun i _ => N - (intOf i).toNat)
  case atStart => exact ⟨0, Nat.zero_le _, rfl, rfl, Below.refl _ _⟩
  case round =>
    obtain ⟨k, hk, rfl, HA, hb⟩ := hrel
    have hz := hb.size
    replace c0 := (hb.cell (p := ⟨w.heap.size, 0, none⟩) (by show w.heap.size < _; omega)).trans c0
    replace c1 := (hb.cell (p := ⟨w.heap.size, 1, none⟩) (by show w.heap.size < _; omega)).trans c1
    replace d0 := (hb.cell (p := ⟨w.heap.size + 1, 0, none⟩) (by show w.heap.size + 1 < _; omega)).trans d0
    replace d1 := (hb.cell (p := ⟨w.heap.size + 1, 1, none⟩) (by show w.heap.size + 1 < _; omega)).trans d1
    have HBR := Lib.hid (HB4.out.trans (hb.mono (by omega)))
    have HB := Lib.hid hb
    have hl1 : hi ≤ wr.heap.size := by omega
    have hl2 : hi2 ≤ wr.heap.size := by omega
    have hx1 : w.heap.size < wr.heap.size := by omega
    have hx2 : w.heap.size + 1 < wr.heap.size := by omega
    have HVr := Lib.hid (HV.out.below HBR.out hhi)
    have HUr := Lib.hid (HU.out.below HBR.out hhi2)
    clear hb
    by_cases hlt : k < N
    · have hlt1 : (k : Int) < (N : Int) := by omega
      have CE := Lib.hid (fun w h1 h2 => CE0.out w k h1 h2 hlt)
      have CF := Lib.hid (fun w h1 h2 => CF0.out w k h1 h2 hlt)
      obtain ⟨a, ha⟩ : ∃ a, a = bitsP xss k := ⟨_, rfl⟩
      obtain ⟨b, hb⟩ : ∃ b, b = bitsP yss k := ⟨_, rfl⟩
      rw [← ha] at CE
      rw [← hb] at CF
      have HAA := Lib.hid ha
      have HBB := Lib.hid hb
      clear ha hb
      by_cases hab : a = b
      · have e1 : ((a : Int) != (b : Int)) = false := by rw [hab]; simp
        have HT : Hid (allB (fun m => bitsP xss m == bitsP yss m) (k + 1) = true) := allB_snoc HA.out (by show (_ == _) = true; rw [← HAA.out, ← HBB.out, hab]; simp)
        clear hab
        go_wp2_with fail
        refine wp_region_later wr.heap.size wr (by kernel_rfl) (by kernel_rfl) (Below.refl _ _) ?_
        have hLW := LW.cells (B := wr.heap.size) (w0 := wr)
        repeat (go_big_quiet_step ((first | (go_at_call 132; with_reducible refine LW.call (Nat.le_refl _) (CE.out _ (HVr.out.below (LW.h _) hl1) (Nat.le_trans hl1 (LW.h _).size))) | (go_at_call 132; with_reducible refine LW.call (Nat.le_refl _) (CF.out _ (HUr.out.below (LW.h _) hl2) (Nat.le_trans hl2 (LW.h _).size))) | fail)))
        refine wpQuiet_nil ?_
        rintro w5 ⟨⟨w2s, hb5⟩, rfl⟩
        clear hLW
        go_wp2
        go_roundw
        case rel => exact ⟨k + 1, by omega, by go_num, HT.out, HB.out.trans (hb5.mono (by omega))⟩
        case measure => simp [intOf]; omega
      · have e1 : ((a : Int) != (b : Int)) = true := by rw [bne_iff_ne]; omega
        have HT : Hid (RES = false) := by show _ = _; rw [HRES.out]; exact allB_no (k := k) (by rw [← HN.out]; exact hlt) (by show (_ == _) = false; rw [← HAA.out, ← HBB.out]; simpa using hab)
        clear hab
        go_wp2_with fail
        refine wp_region_later wr.heap.size wr (by kernel_rfl) (by kernel_rfl) (Below.refl _ _) ?_
        have hLW := LW.cells (B := wr.heap.size) (w0 := wr)
        repeat (go_big_quiet_step ((first | (go_at_call 132; with_reducible refine LW.call (Nat.le_refl _) (CE.out _ (HVr.out.below (LW.h _) hl1) (Nat.le_trans hl1 (LW.h _).size))) | (go_at_call 132; with_reducible refine LW.call (Nat.le_refl _) (CF.out _ (HUr.out.below (LW.h _) hl2) (Nat.le_trans hl2 (LW.h _).size))) | fail)))
        refine wpQuiet_nil ?_
        rintro w5 ⟨⟨w2s, hb5⟩, rfl⟩
        clear hLW
        go_wp2
        go_ret
        exact ⟨by rw [HT.out]; rfl, HBR.out.trans (hb5.mono (by omega))⟩
    · have hlt1 : ¬ (k : Int) < (N : Int) := by omega
      have HT : Hid (RES = true) := by show _ = _; rw [HRES.out, sameB, ← HN.out, show N = k by omega]; exact HA.out
      go_wp2
      go_ret
      exact ⟨by rw [HT.out]; rfl, HBR.out⟩
set_option maxHeartbeats 1000000 in
theorem has_c (lo hi : Nat) (v : Value) (xs : List Int) (x : Int) (w : World) (hv : IntsV w lo hi v xs) (hh : hi ≤ w.heap.size) (hl : xs.length ≤ 1000000) :
    Calls Try.prog 62 #[v, .int .i64 x] w fun e w' => e = .returned (.bool (xs.contains x)) ∧ Below w.heap.size w w' := by
  obtain ⟨ao, b, off, cap, rfl, hcap, hao, hc⟩ := hv
  have HC := Lib.hid hc
  have HAO := Lib.hid hao
  obtain ⟨L, hL⟩ : ∃ L, L = xs.length := ⟨_, rfl⟩
  have HL := Lib.hid hL
  obtain ⟨RES, hRES⟩ : ∃ r, r = xs.contains x := ⟨_, rfl⟩
  have HRES := Lib.hid hRES
  rw [← hRES]
  rw [← hL] at HC hcap hl ⊢
  clear hc hao hL hRES
  go_enter Try.func62, Try.ntmps62
  go_wp2_with fail
  go_loopw [9] (fun i wr => ∃ k : Nat, k ≤ L ∧ i = .int .i64 k ∧ Hid (∀ j, j < k → xs.getD j 0 ≠ x) ∧ Below w.heap.size w wr) (fun i _ => L - (intOf i).toNat)
  case atStart => exact ⟨0, Nat.zero_le _, rfl, fun j h => by omega, Below.refl _ _⟩
  case round =>
    obtain ⟨k, hk, rfl, HN, hb⟩ := hrel
    have HB := Lib.hid hb
    by_cases hlt : k < L
    · have hlt1 : (k : Int) < (L : Int) := by omega
      obtain ⟨ha, q1, q2⟩ := HAO.out (by omega)
      subst ha
      obtain ⟨y, hy⟩ : ∃ y, y = xs.getD k 0 := ⟨_, rfl⟩
      have c1 : wr.cell? ⟨b, off + k, none⟩ = some (.int .i64 y) := by rw [hy]; exact (hb.cell (p := ⟨b, off + k, none⟩) (by show b < _; omega)).trans (HC.out k hlt)
      have HY := Lib.hid hy
      clear hy hb
      by_cases hyx : y = x
      · have e1 : (y == x) = true := by rw [hyx]; simp
        have HT : Hid (RES = true) := by
          show _ = _
          rw [HRES.out, List.contains_iff_mem, ← hyx, HY.out, List.getD_eq_getElem?_getD, List.getElem?_eq_getElem (by have := HL.out; omega)]
          exact List.getElem_mem _
        clear hyx
        go_wp2
        go_ret
        exact ⟨by rw [HT.out]; rfl, HB.out⟩
      · have e1 : (y == x) = false := by rw [beq_eq_false_iff_ne]; exact hyx
        have HNN : Hid (∀ j, j < k + 1 → xs.getD j 0 ≠ x) := by
          show ∀ j, _
          intro j hj
          rcases (by omega : j < k ∨ j = k) with h | h
          · exact HN.out j h
          · rw [h, ← HY.out]; exact hyx
        clear hyx
        go_wp2
        go_roundw
        case rel => exact ⟨k + 1, by omega, by go_num, HNN.out, HB.out⟩
        case measure => simp [intOf]; omega
    · have hlt1 : ¬ (k : Int) < (L : Int) := by omega
      have HT : Hid (RES = false) := by
        show _ = _
        rw [HRES.out, Bool.eq_false_iff, Ne, List.contains_iff_mem]
        intro hm
        obtain ⟨j, hj, e⟩ := List.getElem_of_mem hm
        exact HN.out j (by have := HL.out; omega) (by rw [List.getD_eq_getElem?_getD, List.getElem?_eq_getElem hj]; exact e)
      clear hb
      go_wp2
      go_ret
      exact ⟨by rw [HT.out]; rfl, HB.out⟩
end Go.Proofs.Ytgdkihabphihoaa
