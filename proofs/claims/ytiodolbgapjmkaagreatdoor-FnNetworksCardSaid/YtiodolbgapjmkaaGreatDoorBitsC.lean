/- A valid network run on a mask: the program's and the reference's, by their contracts. Conditions: the network is valid, the mask is one of its wires. -/
import Derived.Test.YtiodolbgapjmkaaGreatDoorNetBits
namespace Go.Proofs.YtiodolbgapjmkaaGreatDoor
open Go.RowKit
set_option maxRecDepth 100000

set_option maxHeartbeats 1000000 in
theorem bits_c (n : Nat) (lo hi : Nat) (v : Value) (vs : List Value) (xss : List (List Int)) (m : Nat) (w : World) (hv : OwnR w lo hi v vs xss) (hhi : hi ≤ w.heap.size) (hok : netOk n xss = true) (hm : m < 2 ^ n) :
    Calls Tryz.prog 30 #[.agg #[.int .i64 n, v], .int .i64 m] w fun e w' => e = .returned (.int .i64 (bitsP xss m)) ∧ Below w.heap.size w w' := by
  obtain ⟨ao, g, cap, A, G, C, rfl, hcap, hao, hrow⟩ := hv.view
  clear hv
  have HROW := Lib.hid hrow
  have HP := Lib.hid (netOk_pair hok)
  have HLT := Lib.hid (bitsP_lt hok hm)
  have h256 := pow_le_256 n (by have := netOk_n hok; omega)
  have hn8 : n ≤ 8 := by have := netOk_n hok; omega
  have hlen := netOk_len hok
  obtain ⟨R, hR⟩ : ∃ R, R = bitsP xss m := ⟨_, rfl⟩
  have HR := Lib.hid hR
  rw [← hR]
  obtain ⟨L, hL⟩ : ∃ L, L = xss.length := ⟨_, rfl⟩
  rw [← hL] at hao hcap hlen HROW HP HLT ⊢
  have HL := Lib.hid hL
  clear hrow hR hok hm hL
  go_enter Tryz.func30, Tryz.ntmps30
  obtain ⟨W1, hW1, c0, c1, hsz, hB1, -, -⟩ := box2 w (.int .i64 n) (.slice ao L cap) 25
  go_wp2_with fail
  try rw [hW1]
  clear hW1
  have HSZ : Hid (w.heap.size < W1.heap.size) := by show _ < _; omega
  clear hsz c0 c1
  go_loopw [1, 10] (fun x i wr => ∃ k : Nat, k ≤ L ∧ i = .int .i64 k ∧ x = .int .i64 (bitsP (xss.take k) m) ∧ Below W1.heap.size W1 wr) (fun _ i _ => L - (intOf i).toNat)
  case atStart => exact ⟨0, by omega, rfl, by simp [bitsP], Below.refl _ _⟩
  case round =>
    obtain ⟨k, hk, rfl, rfl, hb⟩ := hrel
    have HB := Lib.hid hb
    by_cases hlt : k < L
    · obtain ⟨i, j, hr, hi1, hj1, hne⟩ := HP.out k hlt
      obtain ⟨q1, q2, q3, q4⟩ := HROW.out k hlt
      obtain ⟨rfl, hg1, hg2⟩ := hao (by omega)
      obtain ⟨x, hx⟩ : ∃ x, x = bitsP (xss.take k) m := ⟨_, rfl⟩
      have hx2 : x < 2 ^ n := by rw [hx]; exact (HLT.out k (by omega)).1
      have hx3 : x < 256 := by omega
      have HX : Hid (bitsP (xss.take (k + 1)) m = stp x i j) := by show _ = _; rw [hx]; exact bitsP_take (by have := HL.out; omega) hr m
      rw [← hx]
      rw [hr] at q1 q2 q3 q4
      obtain ⟨ea, g3, g4⟩ := q3 (by simp)
      rw [ea] at q1
      have e0 := q4 0 (by simp)
      have e1 := q4 1 (by simp)
      have hbw : Below w.heap.size w wr := hB1.trans (hb.mono (by have := HSZ.out; omega))
      have hz : w.heap.size ≤ wr.heap.size := hbw.size
      have c0 : wr.cell? ⟨g, k, none⟩ = some (.slice (some ⟨G k, 0, none⟩) 2 (C k)) := (hbw.cell (p := ⟨g, k, none⟩) (by show g < _; omega)).trans q1
      have c1 : wr.cell? ⟨G k, 0, none⟩ = some (.int .i64 i) := (hbw.cell (p := ⟨G k, 0, none⟩) (by show G k < _; omega)).trans e0
      have c2 : wr.cell? ⟨G k, 1, none⟩ = some (.int .i64 j) := (hbw.cell (p := ⟨G k, 1, none⟩) (by show G k < _; omega)).trans e1
      have HS : Hid (∀ w, Calls Tryz.prog 55 #[.int .i64 x, .int .i64 i, .int .i64 j] w fun e w' => e = .returned (.int .i64 (stp x i j)) ∧ Below w.heap.size w w') := fun w => step_c x i j w hx3 (by omega) (by omega)
      have hGk : G k < wr.heap.size := by omega
      clear q1 q2 q3 q4 e0 e1 hx hr ea hb hx2 hbw
      go_wp2_with fail
      refine wp_region_later wr.heap.size wr (by kernel_rfl) (by kernel_rfl) (Below.refl _ _) ?_
      have hLW := LW.cells (B := wr.heap.size) (w0 := wr)
      repeat (go_big_quiet_step ((go_at_call 55; refine LW.call (Nat.le_refl _) (HS.out _))))
      refine wpQuiet_nil ?_
      rintro w2 ⟨⟨w2s, hb2⟩, rfl⟩
      clear hLW
      go_wp2
      go_roundw
      case rel => exact ⟨k + 1, by omega, by go_num, by rw [HX.out], HB.out.trans (hb2.mono (by have := HB.out.size; omega))⟩
      case measure => simp [intOf]; omega
    · have HE : Hid (bitsP (xss.take k) m = R) := by show _ = _; rw [HR.out, List.take_of_length_le (by have := HL.out; omega)]
      clear hb
      rw [HE.out]
      go_wp2
      go_ret
      exact ⟨rfl, hB1.trans (HB.out.mono (by have := HSZ.out; omega))⟩
end Go.Proofs.YtiodolbgapjmkaaGreatDoor
