/- BrickRounds: the least number of rounds that sort a list: both functions on all arguments, and the law. Conditions: none. -/
import Derived.Test.YtnheioohmcgpjaaBrickS
import Derived.Test.YtnheioohmcgpjaaNBrick
import Derived.Test.YtnheioohmcgpjaaRises
import Derived.Test.YtnheioohmcgpjaaMBrickRounds
namespace Go.Proofs.Ytnheioohmcgpjaa
open Go.RowKit
set_option maxRecDepth 100000
set_option linter.unusedVariables false

/-- The comparators of r rounds of bricks. -/
def bricks (n r : Nat) : List (List Int) := net2 (fun s => (n - s % 2) / 2) (fun (s k : Nat) => [((s % 2 : Nat) : Int) + 2 * k, ((s % 2 : Nat) : Int) + 2 * k + 1]) r
theorem bricks_succ (n r : Nat) : bricks n (r + 1) = bricks n r ++ brickR n (r % 2) ((n - r % 2) / 2) := by unfold bricks; rw [net2_succ]; rfl
theorem bricks_ok (n r : Nat) (h1 : 1 ≤ n) (h8 : n ≤ 8) (hr : r ≤ 8) : netOk n (bricks n r) = true := by
  have : ∀ n < 9, 1 ≤ n → ∀ r < 9, netOk (n : Nat) (bricks n r) = true := by decide +kernel
  exact this n (by omega) h1 r (by omega)
theorem brickR_ok (n r : Nat) (h1 : 1 ≤ n) (h8 : n ≤ 8) : netOk n (brickR n (r % 2) ((n - r % 2) / 2)) = true := by
  have : ∀ n < 9, 1 ≤ n → ∀ r < 2, netOk (n : Nat) (brickR n r ((n - r) / 2)) = true := by decide +kernel
  exact this n (by omega) h1 (r % 2) (by omega)
theorem bricks_sort (n : Nat) (h1 : 1 ≤ n) (h8 : n ≤ 8) : ∀ m, m < 2 ^ n → bitsP (bricks n n) m = srt n m := by
  have : ∀ n < 9, 1 ≤ n → ∀ m < 2 ^ n, bitsP (bricks n n) m = srt n m := by decide +kernel
  exact this n (by omega) h1
theorem bricks_step (n r : Nat) (l : List Int) : applyP (bricks n (r + 1)) l = applyP (brickR n (r % 2) ((n - r % 2) / 2)) (applyP (bricks n r) l) := by rw [bricks_succ, applyP, List.foldl_append]; rfl
theorem least_of {p : Nat → Bool} : ∀ {n : Nat}, p n = true → ∃ R, R ≤ n ∧ p R = true ∧ ∀ r, r < R → p r = false := by
  intro n
  induction n using Nat.strongRecOn with
  | ind n ih =>
    intro h
    by_cases hx : ∃ m, m < n ∧ p m = true
    · obtain ⟨m, hm, hp⟩ := hx
      obtain ⟨R, h1, h2, h3⟩ := ih m hm hp
      exact ⟨R, by omega, h2, h3⟩
    · exact ⟨n, Nat.le_refl _, h, fun r hr => by
        rw [Bool.eq_false_iff]
        exact fun h2 => hx ⟨r, hr, h2⟩⟩
theorem bricks_least (n : Nat) (l : List Int) (h1 : 1 ≤ n) (h8 : n ≤ 8) (hl : l.length = n) : ∃ R, R ≤ 8 ∧ risesB (applyP (bricks n R) l) = true ∧ ∀ r, r < R → risesB (applyP (bricks n r) l) = false := by
  obtain ⟨R, a, b, c⟩ := least_of (p := fun r => risesB (applyP (bricks n r) l)) (n := n) (zero_one (netOk_pair (bricks_ok n n h1 h8 h8)) h8 (bricks_sort n h1 h8) l hl)
  exact ⟨R, by omega, b, c⟩

theorem BrickRounds_none (lo hi : Nat) (v : Value) (xs : List Int) (w : World) (hv : OwnI w lo hi v xs) (hl : xs.length ≤ 1048576) (hb : inB (xs.length : Int) 1 8 = false) :
    (Calls Try.prog 17 #[v] w fun e w' => e = .returned (.int .i64 (-1)) ∧ Below w.heap.size w w') ∧ (Calls Try.prog 15 #[v] w fun e w' => e = .returned (.int .i64 (-1)) ∧ Below w.heap.size w w') := by
  obtain ⟨ao, g, cap, e, -, -, -⟩ := hv.view
  obtain ⟨n, hn⟩ : ∃ n, n = xs.length := ⟨_, rfl⟩
  rw [← hn] at e hl hb
  subst e
  clear hv hn
  constructor
  · go_enter Try.func17, Try.ntmps17
    go_wp2_with (go_at_call 52; refine (isWires_c _ _).mono ?_; rintro e w' ⟨rfl, rfl⟩)
    go_ret
    exact ⟨rfl, Below.refl _ _⟩
  · go_enter Try.func15, Try.ntmps15
    go_wp2_with (go_at_call 48; refine (l07N_c _ _).mono ?_; rintro e w' ⟨rfl, rfl⟩)
    go_ret
    exact ⟨rfl, Below.refl _ _⟩

set_option maxHeartbeats 2000000 in
theorem BrickRounds_i (n R lo hi : Nat) (v : Value) (xs : List Int) (w : World) (hv : OwnI w lo hi v xs) (hh : hi ≤ w.heap.size) (hn : n = xs.length) (hb : inB (n : Int) 1 8 = true)
    (hR8 : R ≤ 8) (hR : risesB (applyP (bricks n R) xs) = true) (hRf : ∀ r, r < R → risesB (applyP (bricks n r) xs) = false) :
    Calls Try.prog 17 #[v] w fun e w' => e = .returned (.int .i64 R) ∧ Below w.heap.size w w' := by
  obtain ⟨ao, g, cap, e, -, -, -⟩ := hv.view
  have HV := Lib.hid (OwnI.ints hv)
  have h1 : 1 ≤ n := by have := inB_of hb; omega
  have h8 : n ≤ 8 := by have := inB_of hb; omega
  rw [← hn] at e
  subst e
  have HN := Lib.hid hn
  have HB := Lib.hid hb
  have HR := Lib.hid hR
  have HRF := Lib.hid hRf
  have BC : Hid (∀ (k : Nat) (w : World), k ≤ 8 → Calls Try.prog 53 #[.int .i64 n, .int .i64 k] w (NetC w n (bricks n k) true)) := fun k w hk => BrickNetwork_i n k w h1 h8 hb hk (inB_mk ⟨by omega, by omega⟩)
  have HP : Hid (∀ k, k ≤ 8 → pairsOf n (bricks n k) ∧ (bricks n k).length ≤ 1000) := fun k hk => ⟨netOk_pair (bricks_ok n k h1 h8 hk), by have := netOk_len (bricks_ok n k h1 h8 hk); omega⟩
  clear hv hn hR hRf
  go_enter Try.func17, Try.ntmps17
  go_wp2_with (go_at_call 52; refine (isWires_c _ _).mono ?_; rintro e w' ⟨rfl, rfl⟩)
  clear hb
  go_loopw [10] (fun i wr => ∃ k : Nat, k ≤ R ∧ i = .int .i64 k ∧ Below w.heap.size w wr) (fun i _ => 9 - (intOf i).toNat)
  case atStart => exact ⟨0, Nat.zero_le _, rfl, Below.refl _ _⟩
  case round =>
    obtain ⟨k, hk, rfl, hb⟩ := hrel
    have HBW := Lib.hid hb
    have hk9 : (k : Int) < 9 := by omega
    have hk8 : k ≤ 8 := by omega
    have zb := hb.size
    have HVr := Lib.hid (HV.out.below hb hh)
    clear hb
    obtain ⟨X, hX⟩ : ∃ X, X = bricks n k := ⟨_, rfl⟩
    have BCk := Lib.hid (BC.out k wr hk8)
    have HPk := Lib.hid (HP.out k hk8)
    rw [← hX] at BCk HPk
    have HX := Lib.hid hX
    clear hX
    go_wp2_with fail
    refine BCk.out.mono ?_
    rintro e w1 ⟨u, us, rfl, o1, b1⟩
    obtain ⟨ao1, g1, cap1, e1, -, -, -⟩ := o1.rows
    obtain ⟨M, hM⟩ : ∃ M, M = X.length := ⟨_, rfl⟩
    rw [← hM] at e1
    subst e1
    have O1 := Lib.hid o1
    have HV1 := Lib.hid (HVr.out.below b1 (by omega))
    have z1 := b1.size
    have B1 := Lib.hid b1
    clear o1 hM b1
    go_wp2_with fail
    obtain ⟨W2, hW2, c0, c1, hsz, hB2, -, -⟩ := box2 w1 (.int .i64 n) (.slice ao1 M cap1) 32
    rw [hW2]
    clear hW2
    go_wp2_with fail
    refine (apply_c n wr.heap.size w1.heap.size lo hi n _ us X _ xs W2 (O1.out.below hB2 (Nat.le_refl _)) (by omega) HPk.out.1 HPk.out.2 (HV1.out.below hB2 (by omega)) (by omega) HN.out.symm h1 h8).mono ?_
    rintro e w3 ⟨r, rfl, o3, b3⟩
    have z3 := b3.size
    have P3 : Hid (IntsV w3 0 w3.heap.size r (applyP X xs)) := (OwnI.ints o3).mono (Nat.zero_le _) (Nat.le_refl _)
    have B3 : Hid (Below w.heap.size w w3) := HBW.out.trans ((B1.out.mono zb).trans ((hB2.mono (by omega)).trans (b3.mono (by omega))))
    obtain ⟨x3, n3, y3, rfl⟩ : ∃ a n c, r = .slice a n c := by obtain ⟨a, _, c, e, -⟩ := OwnI.view o3; exact ⟨a, _, c, e⟩
    have SC := Lib.hid (IsSorted_c 0 w3.heap.size _ (applyP X xs) w3 P3.out (Nat.le_refl _) (by rw [applyP_len, ← HN.out]; omega))
    rw [HX.out] at SC
    clear o3 b3 P3
    by_cases hkR : k = R
    · have e4 : risesB (applyP (bricks n k) xs) = true := by rw [hkR]; exact HR.out
      rw [e4] at SC
      clear e4
      go_wp2_with fail
      refine SC.out.mono ?_
      rintro e w4 ⟨rfl, b4⟩
      have B4 := Lib.hid b4
      clear b4
      go_wp2_with fail
      go_ret
      exact ⟨rfl, B3.out.trans (B4.out.mono (by omega))⟩
    · have e4 : risesB (applyP (bricks n k) xs) = false := HRF.out k (by omega)
      rw [e4] at SC
      clear e4
      go_wp2_with fail
      refine SC.out.mono ?_
      rintro e w4 ⟨rfl, b4⟩
      have B4 := Lib.hid b4
      clear b4
      go_wp2_with fail
      go_roundw
      case rel => exact ⟨k + 1, by omega, by go_num, B3.out.trans (B4.out.mono (by omega))⟩
      case measure => simp [intOf]; omega

set_option maxHeartbeats 2000000 in
theorem BrickRounds_s (n R lo hi : Nat) (v : Value) (xs : List Int) (w : World) (hv : OwnI w lo hi v xs) (hh : hi ≤ w.heap.size) (hn : n = xs.length) (hb : inB (n : Int) 1 8 = true)
    (hR8 : R ≤ 8) (hR : risesB (applyP (bricks n R) xs) = true) (hRf : ∀ r, r < R → risesB (applyP (bricks n r) xs) = false) :
    Calls Try.prog 15 #[v] w fun e w' => e = .returned (.int .i64 R) ∧ Below w.heap.size w w' := by
  obtain ⟨ao, g, cap, e, -, -, -⟩ := hv.view
  have HV := Lib.hid (OwnI.ints hv)
  have h1 : 1 ≤ n := by have := inB_of hb; omega
  have h8 : n ≤ 8 := by have := inB_of hb; omega
  rw [← hn] at e
  subst e
  have HN := Lib.hid hn
  have HR := Lib.hid hR
  have HRF := Lib.hid hRf
  have LB : Hid (∀ (k : Nat) (w : World), k ≤ 8 → Calls Try.prog 51 #[.int .i64 n, .int .i64 k] w (RowC w (brickR n (k % 2) ((n - k % 2) / 2)))) := fun k w hk => l07Brick_c n k w (by omega) (by omega)
  have HP : Hid (∀ k, pairsOf n (brickR n (k % 2) ((n - k % 2) / 2)) ∧ (brickR n (k % 2) ((n - k % 2) / 2)).length ≤ 1000) := fun k => ⟨netOk_pair (brickR_ok n k h1 h8), by have := netOk_len (brickR_ok n k h1 h8); omega⟩
  clear hv hn hR hRf
  go_enter Try.func15, Try.ntmps15
  go_wp2_with (go_at_call 48; refine (l07N_c _ _).mono ?_; rintro e w' ⟨rfl, rfl⟩)
  clear hb
  go_loopw [3, 4] (fun v i wr => ∃ k : Nat, k ≤ R ∧ i = .int .i64 k ∧ ∃ a c, v = .slice a n c ∧ Hid (IntsV wr 0 wr.heap.size v (applyP (bricks n k) xs)) ∧ Below w.heap.size w wr) (fun _ i _ => 9 - (intOf i).toNat)
  case atStart => exact ⟨0, Nat.zero_le _, rfl, _, _, rfl, by show IntsV _ _ _ _ _; exact HV.out.mono (Nat.zero_le _) hh, Below.refl _ _⟩
  case round =>
    obtain ⟨k, hk, rfl, a, c, rfl, HI, hb⟩ := hrel
    have HBW := Lib.hid hb
    have hk8 : k ≤ 8 := by omega
    have zb := hb.size
    have SC := Lib.hid (l03Rises_c 0 wr.heap.size _ (applyP (bricks n k) xs) wr HI.out (Nat.le_refl _) (by rw [applyP_len, ← HN.out]; omega))
    clear hb
    by_cases hkR : k = R
    · have e4 : risesB (applyP (bricks n k) xs) = true := by rw [hkR]; exact HR.out
      rw [e4] at SC
      clear e4
      go_wp2_with fail
      refine SC.out.mono ?_
      rintro e w4 ⟨rfl, b4⟩
      have B4 := Lib.hid b4
      clear b4
      go_wp2_with fail
      go_ret
      exact ⟨rfl, HBW.out.trans (B4.out.mono zb)⟩
    · have e4 : risesB (applyP (bricks n k) xs) = false := HRF.out k (by omega)
      rw [e4] at SC
      clear e4
      go_wp2_with fail
      refine SC.out.mono ?_
      rintro e w4 ⟨rfl, b4⟩
      have B4 := Lib.hid b4
      have z4 := b4.size
      have HI4 := Lib.hid (HI.out.below b4 (Nat.le_refl _))
      clear b4
      go_wp2_with fail
      refine (LB.out k w4 hk8).mono ?_
      rintro e w5 ⟨u, us, rfl, o5, b5⟩
      obtain ⟨X, hX⟩ : ∃ X, X = brickR n (k % 2) ((n - k % 2) / 2) := ⟨_, rfl⟩
      have HPk := Lib.hid (HP.out k)
      rw [← hX] at o5 HPk
      obtain ⟨ao1, g1, cap1, e1, -, -, -⟩ := o5.rows
      obtain ⟨M, hM⟩ : ∃ M, M = X.length := ⟨_, rfl⟩
      rw [← hM] at e1
      subst e1
      have HX := Lib.hid hX
      have O5 := Lib.hid o5
      have z5 := b5.size
      have B5 := Lib.hid b5
      have HI5 := Lib.hid (HI4.out.below b5 z4)
      clear o5 hM b5 hX
      go_wp2_with fail
      refine (l02Apply_c n w4.heap.size w5.heap.size 0 wr.heap.size _ us X _ (applyP (bricks n k) xs) w5 O5.out (Nat.le_refl _) HPk.out.1 HPk.out.2 HI5.out (by omega) (by rw [applyP_len, ← HN.out]) h1 h8).mono ?_
      rintro e w6 ⟨r, rfl, o6, b6⟩
      have HT : Hid (applyP X (applyP (bricks n k) xs) = applyP (bricks n (k + 1)) xs) := by show _ = _; rw [bricks_step, HX.out]
      rw [HT.out] at o6
      obtain ⟨ao6, g6, cap6, e6, -, -, -⟩ := OwnI.view o6
      rw [applyP_len, ← HN.out] at e6
      subst e6
      have O6 := Lib.hid o6
      have B6 : Hid (Below w.heap.size w w6) := HBW.out.trans ((B4.out.mono zb).trans ((B5.out.mono (by omega)).trans (b6.mono (by omega))))
      clear o6 b6
      go_wp2_with fail
      go_roundw
      case rel => exact ⟨k + 1, by omega, by go_num, _, _, rfl, (OwnI.ints O6.out).mono (Nat.zero_le _) (Nat.le_refl _), B6.out⟩
      case measure => simp [intOf]; omega

theorem fnExactBrickRounds_walk (w : World) (u0 : Value) (x0 : List Int) (hu : IntsV w 0 w.heap.size u0 x0) (hm : x0.length ≤ maxLen) :
    Calls Try.prog 3 #[u0] w fun e w' => e = .returned (.bool true) ∧ Below w.heap.size w w' := by
  by_cases hb : inB (x0.length : Int) 1 8 = true
  · have h := inB_of hb
    obtain ⟨R, a, b, c⟩ := bricks_least x0.length x0 (by omega) (by omega) rfl
    exact FnExactBrickRounds_core w u0 x0 hu hm R (fun w l h v hv hh hl => BrickRounds_s _ R l h v x0 w hv hh rfl hb a b c) (fun w l h v hv hh hl => BrickRounds_i _ R l h v x0 w hv hh rfl hb a b c)
  · replace hb : inB (x0.length : Int) 1 8 = false := by simpa using hb
    exact FnExactBrickRounds_core w u0 x0 hu hm (-1) (fun w l h v hv hh hl => (BrickRounds_none l h v x0 w hv hl hb).2) (fun w l h v hv hh hl => (BrickRounds_none l h v x0 w hv hl hb).1)
end Go.Proofs.Ytnheioohmcgpjaa
