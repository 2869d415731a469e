/- A valid network with a fault, run on a mask: the program's and the reference's, by their contracts. Conditions: the network is valid, the mask is one of its wires, the fault is one of the three kinds at one of the comparators. -/
import Derived.Test.YtiodolbgapjmkaaBitsC
namespace Go.Proofs.Ytiodolbgapjmkaa
open Go.RowKit
set_option maxRecDepth 100000

/-- Two wires' bits exchanged where they differ. -/
def swp (m i j : Nat) : Nat := if m / 2 ^ i % 2 = m / 2 ^ j % 2 then m else if m / 2 ^ i % 2 = 1 then m - 2 ^ i + 2 ^ j else m - 2 ^ j + 2 ^ i
/-- What a faulty comparator does. -/
def fstp (kind : Int) (m i j : Nat) : Nat := if kind = 2 then stp m j i else if kind = 1 then swp m i j else m
/-- One comparator, the faulty one or another. -/
def fone (xss : List (List Int)) (idx : Nat) (kind : Int) (x t : Nat) : Nat :=
  if t = idx then fstp kind x ((xss.getD t []).getD 0 0).toNat ((xss.getD t []).getD 1 0).toNat else stp x ((xss.getD t []).getD 0 0).toNat ((xss.getD t []).getD 1 0).toNat
/-- A mask behind the first k comparators, one of them faulty. -/
def faultK (xss : List (List Int)) (idx : Nat) (kind : Int) (m k : Nat) : Nat := (List.range k).foldl (fone xss idx kind) m
/-- A mask behind a network with a fault. -/
def faultP (xss : List (List Int)) (idx : Nat) (kind : Int) (m : Nat) : Nat := faultK xss idx kind m xss.length
theorem faultK_succ (xss : List (List Int)) (idx : Nat) (kind : Int) (m k : Nat) {i j : Nat} (h : xss.getD k [] = [(i : Int), (j : Int)]) :
    faultK xss idx kind m (k + 1) = if k = idx then fstp kind (faultK xss idx kind m k) i j else stp (faultK xss idx kind m k) i j := by
  simp only [faultK, List.range_succ, List.foldl_append, List.foldl_cons, List.foldl_nil]
  rw [fone, h]
  rfl
theorem swp_facts (m i k : Nat) (h : m < 256) (hi : i < 8) (hk : k < 8) (hne : i ≠ k) : popc (swp m i k) = popc m ∧ swp m i k / 2 ^ (max i k + 1) = m / 2 ^ (max i k + 1) := by
  have : ∀ m < 256, ∀ i < 8, ∀ k < 8, i ≠ k → popc (swp m i k) = popc m ∧ swp m i k / 2 ^ (max i k + 1) = m / 2 ^ (max i k + 1) := by decide +kernel
  exact this m h i hi k hk hne
theorem swp_lt2 (n m i k : Nat) (hn : n ≤ 8) (h : m < 2 ^ n) (hi : i < n) (hk : k < n) (hne : i ≠ k) : swp m i k < 2 ^ n := by
  have h256 := pow_le_256 n hn
  have := (swp_facts m i k (by omega) (by omega) (by omega) hne).2
  obtain ⟨d, hd⟩ : ∃ d, n = (max i k + 1) + d := ⟨n - (max i k + 1), by omega⟩
  have e : swp m i k / 2 ^ n = m / 2 ^ n := by rw [hd, Nat.pow_add, ← Nat.div_div_eq_div_mul, ← Nat.div_div_eq_div_mul, this]
  rw [Nat.div_eq_of_lt h] at e
  exact (Nat.div_eq_zero_iff_lt (Nat.pow_pos (by omega))).1 e
theorem faultK_lt {n : Nat} {xss : List (List Int)} (hok : netOk n xss = true) (idx : Nat) (kind : Int) {m : Nat} (hm : m < 2 ^ n) : ∀ k, k ≤ xss.length → faultK xss idx kind m k < 2 ^ n ∧ popc (faultK xss idx kind m k) = popc m := by
  have hn := netOk_n hok
  have h256 := pow_le_256 n (by omega)
  intro k
  induction k with
  | zero => intro _; exact ⟨by simpa [faultK] using hm, by simp [faultK]⟩
  | succ k ih =>
    intro hk
    obtain ⟨i, j, hr, hi, hj, hne⟩ := netOk_pair hok k (by omega)
    obtain ⟨i1, i2⟩ := ih (by omega)
    rw [faultK_succ _ _ _ _ _ hr]
    split
    · unfold fstp
      split
      · exact ⟨stp_lt2 n _ j i (by omega) i1 hj hi (Ne.symm hne), by rw [(stp_facts _ j i (by omega) (by omega) (by omega) (Ne.symm hne)).1, i2]⟩
      · split
        · exact ⟨swp_lt2 n _ i j (by omega) i1 hi hj hne, by rw [(swp_facts _ i j (by omega) (by omega) (by omega) hne).1, i2]⟩
        · exact ⟨i1, i2⟩
    · exact ⟨stp_lt2 n _ i j (by omega) i1 hi hj hne, by rw [(stp_facts _ i j (by omega) (by omega) (by omega) hne).1, i2]⟩
theorem faultP_lt {n : Nat} {xss : List (List Int)} (hok : netOk n xss = true) (idx : Nat) (kind : Int) {m : Nat} (hm : m < 2 ^ n) : faultP xss idx kind m < 2 ^ n ∧ popc (faultP xss idx kind m) = popc m :=
  faultK_lt hok idx kind hm _ (Nat.le_refl _)
theorem swp_xor (m i k : Nat) (h : m < 256) (hi : i < 8) (hk : k < 8) (hd : m / 2 ^ i % 2 ≠ m / 2 ^ k % 2) :
    bits BinOp.xor IntKind.i64 (m : Int) (bits BinOp.or IntKind.i64 (wrap64 (2 ^ i)) (wrap64 (2 ^ k))) = ((swp m i k : Nat) : Int) ∧ bits BinOp.xor IntKind.i64 (bits BinOp.xor IntKind.i64 (m : Int) (wrap64 (2 ^ i))) (wrap64 (2 ^ k)) = ((swp m i k : Nat) : Int) := by
  have : ∀ m < 256, ∀ i < 8, ∀ k < 8, m / 2 ^ i % 2 ≠ m / 2 ^ k % 2 → bits BinOp.xor IntKind.i64 ((m : Nat) : Int) (bits BinOp.or IntKind.i64 (wrap64 (2 ^ i)) (wrap64 (2 ^ k))) = ((swp m i k : Nat) : Int) ∧ bits BinOp.xor IntKind.i64 (bits BinOp.xor IntKind.i64 ((m : Nat) : Int) (wrap64 (2 ^ i))) (wrap64 (2 ^ k)) = ((swp m i k : Nat) : Int) := by decide +kernel
  exact this m h i hi k hk hd

set_option maxHeartbeats 2000000 in
theorem faulty_c (n : Nat) (lo hi : Nat) (v : Value) (vs : List Value) (xss : List (List Int)) (idx : Nat) (kind : Int) (m : Nat) (w : World) (hv : OwnR w lo hi v vs xss) (hhi : hi ≤ w.heap.size) (hok : netOk n xss = true) (hm : m < 2 ^ n) (hkd : kind = 0 ∨ kind = 1 ∨ kind = 2) :
    Calls Try.prog 103 #[.agg #[.int .i64 n, v], .int .i64 idx, .int .i64 kind, .int .i64 m] w fun e w' => e = .returned (.int .i64 (faultP xss idx kind m)) ∧ Below w.heap.size w w' := by
  obtain ⟨ao, g, cap, A, G, C, rfl, hcap, hao, hrow⟩ := hv.view
  clear hv
  have HROW := Lib.hid hrow
  have HP := Lib.hid (netOk_pair hok)
  have HLT := Lib.hid (faultK_lt hok idx kind hm)
  have h256 := pow_le_256 n (by have := netOk_n hok; omega)
  have hn8 : n ≤ 8 := by have := netOk_n hok; omega
  have hlen := netOk_len hok
  obtain ⟨R, hR⟩ : ∃ R, R = faultP xss idx kind m := ⟨_, rfl⟩
  have HR := Lib.hid hR
  rw [← hR]
  obtain ⟨L, hL⟩ : ∃ L, L = xss.length := ⟨_, rfl⟩
  rw [← hL] at hao hcap hlen HROW HP HLT ⊢
  have HL := Lib.hid hL
  clear hrow hR hok hm hL
  go_enter Try.func103, Try.ntmps103
  go_wp2_with fail
  obtain ⟨W1, hW1, c0, c1, hsz, hB1, -, -⟩ := box2 w (.int .i64 n) (.slice ao L cap) 30
  try rw [hW1]
  clear hW1
  have HSZ : Hid (w.heap.size < W1.heap.size) := by show _ < _; omega
  clear hsz c0 c1
  go_loopw [3, 14] (fun x i wr => ∃ k : Nat, k ≤ L ∧ i = .int .i64 k ∧ x = .int .i64 (faultK xss idx kind m k) ∧ Below W1.heap.size W1 wr) (fun _ i _ => L - (intOf i).toNat)
  case atStart => exact ⟨0, by omega, rfl, by simp [faultK], Below.refl _ _⟩
  case round =>
    obtain ⟨k, hk, rfl, rfl, hb⟩ := hrel
    have HB := Lib.hid hb
    by_cases hlt : k < L
    · obtain ⟨i, j, hr, hi1, hj1, hne⟩ := HP.out k hlt
      obtain ⟨q1, q2, q3, q4⟩ := HROW.out k hlt
      obtain ⟨rfl, hg1, hg2⟩ := hao (by omega)
      have hx2 := (HLT.out k (by omega)).1
      have HX := Lib.hid (faultK_succ xss idx kind m k hr)
      obtain ⟨x, hx⟩ : ∃ x, x = faultK xss idx kind m k := ⟨_, rfl⟩
      rw [← hx] at HX hx2 ⊢
      have hx3 : x < 256 := by omega
      rw [hr] at q1 q2 q3 q4
      obtain ⟨ea, g3, g4⟩ := q3 (by simp)
      rw [ea] at q1
      have e0 := q4 0 (by simp)
      have e1 := q4 1 (by simp)
      have hbw : Below w.heap.size w wr := hB1.trans (hb.mono (by have := HSZ.out; omega))
      have hz : w.heap.size ≤ wr.heap.size := hbw.size
      have c0 : wr.cell? ⟨g, k, none⟩ = some (.slice (some ⟨G k, 0, none⟩) 2 (C k)) := (hbw.cell (p := ⟨g, k, none⟩) (by show g < _; omega)).trans q1
      have c1 : wr.cell? ⟨G k, 0, none⟩ = some (.int .i64 i) := (hbw.cell (p := ⟨G k, 0, none⟩) (by show G k < _; omega)).trans e0
      have c2 : wr.cell? ⟨G k, 1, none⟩ = some (.int .i64 j) := (hbw.cell (p := ⟨G k, 1, none⟩) (by show G k < _; omega)).trans e1
      have hGk : G k < wr.heap.size := by omega
      have HS : Hid (∀ w, Calls Try.prog 176 #[.int .i64 x, .int .i64 i, .int .i64 j] w fun e w' => e = .returned (.int .i64 (stp x i j)) ∧ Below w.heap.size w w') := fun w => step_c x i j w hx3 (by omega) (by omega)
      have HT : Hid (∀ w, Calls Try.prog 176 #[.int .i64 x, .int .i64 j, .int .i64 i] w fun e w' => e = .returned (.int .i64 (stp x j i)) ∧ Below w.heap.size w w') := fun w => step_c x j i w hx3 (by omega) (by omega)
      have b1 := bits_one x i hx3 (by omega)
      have b2 := bits_one x j hx3 (by omega)
      clear q1 q2 q3 q4 e0 e1 hx hr ea hb hx2 hbw
      by_cases hki : k = idx
      · rw [if_pos hki] at HX
        have t1 : ((k : Int) != (idx : Int)) = false := by rw [hki]; simp
        clear hki
        rcases hkd with rfl | rfl | rfl
        · have HY : Hid (fstp 0 x i j = x) := rfl
          clear b1 b2
          go_wp2_with fail
          refine wp_region_later wr.heap.size wr (by kernel_rfl) (by kernel_rfl) (Below.refl _ _) ?_
          have hLW := LW.cells (B := wr.heap.size) (w0 := wr)
          repeat (go_big_quiet_step (fail))
          refine wpQuiet_nil ?_
          rintro w2 ⟨⟨w2s, hb2⟩, rfl⟩
          clear hLW
          go_wp2
          go_roundw
          case rel => exact ⟨k + 1, by omega, by go_num, by rw [HX.out, HY.out], HB.out.trans (hb2.mono (by have := HB.out.size; omega))⟩
          case measure => simp [intOf]; omega
        · have HY : Hid (fstp 1 x i j = swp x i j) := rfl
          by_cases hd : x / 2 ^ i % 2 = x / 2 ^ j % 2
          · have HZ : Hid (swp x i j = x) := if_pos hd
            rw [← hd] at b2
            obtain ⟨p, hp⟩ : ∃ p : Nat, p = x / 2 ^ i % 2 := ⟨_, rfl⟩
            rw [← hp] at b1 b2
            clear hd hp
            go_wp2_with fail
            refine wp_region_later wr.heap.size wr (by kernel_rfl) (by kernel_rfl) (Below.refl _ _) ?_
            have hLW := LW.cells (B := wr.heap.size) (w0 := wr)
            repeat (go_big_quiet_step (fail))
            refine wpQuiet_nil ?_
            rintro w2 ⟨⟨w2s, hb2⟩, rfl⟩
            clear hLW
            go_wp2
            go_roundw
            case rel => exact ⟨k + 1, by omega, by go_num, by rw [HX.out, HY.out, HZ.out], HB.out.trans (hb2.mono (by have := HB.out.size; omega))⟩
            case measure => simp [intOf]; omega
          · have HZ := Lib.hid (swp_xor x i j hx3 (by omega) (by omega) hd)
            have hbb : (bits BinOp.and IntKind.i64 ((x : Int) / 2 ^ i) 1 = 0 ∧ bits BinOp.and IntKind.i64 ((x : Int) / 2 ^ j) 1 = 1) ∨ (bits BinOp.and IntKind.i64 ((x : Int) / 2 ^ i) 1 = 1 ∧ bits BinOp.and IntKind.i64 ((x : Int) / 2 ^ j) 1 = 0) := by
              rw [b1, b2]; omega
            clear hd b1 b2
            rcases hbb with ⟨b1, b2⟩ | ⟨b1, b2⟩
            all_goals
              go_wp2_with fail
              refine wp_region_later wr.heap.size wr (by kernel_rfl) (by kernel_rfl) (Below.refl _ _) ?_
              have hLW := LW.cells (B := wr.heap.size) (w0 := wr)
              repeat (go_big_quiet_step (fail))
              refine wpQuiet_nil ?_
              rintro w2 ⟨⟨w2s, hb2⟩, rfl⟩
              clear hLW
              replace c1 := (hb2.cell (p := ⟨G k, 0, none⟩) (by show G k < _; omega)).trans c1
              replace c2 := (hb2.cell (p := ⟨G k, 1, none⟩) (by show G k < _; omega)).trans c2
              have hb3 := hb2
              replace hGk : G k < w2.heap.size := by have := hb2.size; omega
              clear b1 b2
              go_wp2_with fail
              refine wp_region_later w2.heap.size w2 (by kernel_rfl) (by kernel_rfl) (Below.refl _ _) ?_
              have hLW := LW.cells (B := w2.heap.size) (w0 := w2)
              repeat (go_big_quiet_step (fail))
              refine wpQuiet_nil ?_
              rintro w2 ⟨⟨w2s, hb2⟩, rfl⟩
              clear hLW
              go_wp2
              go_roundw
              case rel => exact ⟨k + 1, by omega, by go_num, by rw [HX.out, HY.out, ← HZ.out.1], HB.out.trans ((hb3.trans (hb2.mono hb3.size)).mono (by have := HB.out.size; omega))⟩
              case measure => simp [intOf]; omega
        · have HY : Hid (fstp 2 x i j = stp x j i) := rfl
          clear b1 b2
          go_wp2_with fail
          refine wp_region_later wr.heap.size wr (by kernel_rfl) (by kernel_rfl) (Below.refl _ _) ?_
          have hLW := LW.cells (B := wr.heap.size) (w0 := wr)
          repeat (go_big_quiet_step ((go_at_call 176; refine LW.call (Nat.le_refl _) (HT.out _))))
          refine wpQuiet_nil ?_
          rintro w2 ⟨⟨w2s, hb2⟩, rfl⟩
          clear hLW
          go_wp2
          go_roundw
          case rel => exact ⟨k + 1, by omega, by go_num, by rw [HX.out, HY.out], HB.out.trans (hb2.mono (by have := HB.out.size; omega))⟩
          case measure => simp [intOf]; omega
      · rw [if_neg hki] at HX
        have t1 : ((k : Int) != (idx : Int)) = true := by rw [bne_iff_ne]; omega
        clear b1 b2
        go_wp2_with fail
        refine wp_region_later wr.heap.size wr (by kernel_rfl) (by kernel_rfl) (Below.refl _ _) ?_
        have hLW := LW.cells (B := wr.heap.size) (w0 := wr)
        repeat (go_big_quiet_step ((go_at_call 176; refine LW.call (Nat.le_refl _) (HS.out _))))
        refine wpQuiet_nil ?_
        rintro w2 ⟨⟨w2s, hb2⟩, rfl⟩
        clear hLW
        go_wp2
        go_roundw
        case rel => exact ⟨k + 1, by omega, by go_num, by rw [HX.out], HB.out.trans (hb2.mono (by have := HB.out.size; omega))⟩
        case measure => simp [intOf]; omega
    · have HE : Hid (faultK xss idx kind m k = R) := by show _ = _; rw [HR.out, faultP, show k = xss.length by have := HL.out; omega]
      clear hb
      rw [HE.out]
      go_wp2
      go_ret
      exact ⟨rfl, hB1.trans (HB.out.mono (by have := HSZ.out; omega))⟩
end Go.Proofs.Ytiodolbgapjmkaa
