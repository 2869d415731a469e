/- SortNetwork sorts a list by Batcher's network: both functions on all arguments, and the law. Conditions: none. -/
import Derived.Test.YtnheioohmcgpjaaBatN
import Derived.Test.YtnheioohmcgpjaaRises
import Derived.Test.YtnheioohmcgpjaaMSortNetwork
namespace Go.Proofs.Ytnheioohmcgpjaa
open Go.RowKit
set_option maxRecDepth 100000
set_option linter.unusedVariables false

theorem bat_ok (n : Nat) (h1 : 1 ≤ n) (h8 : n ≤ 8) : netOk n (bat n (upI 0 n)) = true := by
  have : ∀ n < 9, 1 ≤ n → netOk (n : Nat) (bat n (upI 0 n)) = true := by decide +kernel
  exact this n (by omega) h1
def sortX (xs : List Int) : List Int := if inB (xs.length : Int) 1 8 = true then applyP (bat xs.length (upI 0 xs.length)) xs else []

set_option maxHeartbeats 1000000 in
theorem SortNetwork_i_c (lo hi : Nat) (v : Value) (xs : List Int) (w : World) (hv : OwnI w lo hi v xs) (hh : hi ≤ w.heap.size) (hl : xs.length ≤ 1048576) :
    Calls Try.prog 36 #[v] w (IntC w (sortX xs)) := by
  obtain ⟨ao, g, cap, e, -, -, -⟩ := hv.view
  have HV := Lib.hid (OwnI.ints hv)
  obtain ⟨n, hn⟩ : ∃ n, n = xs.length := ⟨_, rfl⟩
  rw [← hn] at e hl
  subst e
  have HN := Lib.hid hn
  clear hv hn
  by_cases hb : inB (n : Int) 1 8 = true
  · have h1 : 1 ≤ n := by have := inB_of hb; omega
    have h8 : n ≤ 8 := by have := inB_of hb; omega
    have HX : Hid (sortX xs = applyP (bat n (upI 0 n)) xs) := by show _ = _; unfold sortX; rw [← HN.out, if_pos hb]
    have BC := Lib.hid (BatcherNetwork_i_yes n w hb h1 h8)
    have hok := bat_ok n h1 h8
    have HP : Hid (pairsOf n (bat n (upI 0 n))) := netOk_pair hok
    have hl60 := netOk_len hok
    obtain ⟨X, hX⟩ : ∃ X, X = bat n (upI 0 n) := ⟨_, rfl⟩
    rw [← hX] at BC HP hl60 HX
    have hXl : X.length ≤ 1000 := by omega
    clear hok hX
    go_enter Try.func36, Try.ntmps36
    go_wp2_with fail
    refine BC.out.mono ?_
    rintro e w1 ⟨u, us, rfl, o1, b1⟩
    obtain ⟨ao1, g1, cap1, e1, -, -, -⟩ := o1.rows
    obtain ⟨M, hM⟩ : ∃ M, M = X.length := ⟨_, rfl⟩
    rw [← hM] at e1
    subst e1
    have O1 := Lib.hid o1
    have HV1 := Lib.hid (HV.out.below b1 hh)
    have HM := Lib.hid hM
    have z1 := b1.size
    have B1 := Lib.hid b1
    clear o1 hM b1
    go_wp2_with fail
    obtain ⟨W2, hW2, c0, c1, hsz, hB2, -, -⟩ := box2 w1 (.int .i64 n) (.slice ao1 M cap1) 32
    rw [hW2]
    clear hW2
    go_wp2_with fail
    refine (apply_c n w.heap.size w1.heap.size lo hi n _ us X _ xs W2 (O1.out.below hB2 (Nat.le_refl _)) (by omega) HP.out hXl (HV1.out.below hB2 (by omega)) (by omega) HN.out.symm h1 h8).mono ?_
    rintro e w3 ⟨r, rfl, o3, b3⟩
    have O3 := Lib.hid o3
    have B3 : Hid (Below w.heap.size w w3) := B1.out.trans ((hB2.mono z1).trans (b3.mono (by omega)))
    clear o3 b3
    go_wp2_with fail
    go_ret
    exact ⟨_, rfl, by rw [HX.out]; exact Own.mono O3.out (by omega) (Nat.le_refl _), B3.out⟩
  · replace hb : inB (n : Int) 1 8 = false := by simpa using hb
    have HX : Hid (sortX xs = []) := by show _ = _; unfold sortX; rw [← HN.out, hb]; rfl
    have BC := Lib.hid (BatcherNetwork_i_none n w hb)
    go_enter Try.func36, Try.ntmps36
    go_wp2_with fail
    refine BC.out.mono ?_
    rintro e w1 ⟨u, us, rfl, o1, b1⟩
    obtain ⟨ao1, g1, cap1, e1, -, -, -⟩ := o1.rows
    subst e1
    clear o1
    go_wp2_with fail
    go_ret
    exact ⟨_, rfl, by rw [HX.out]; exact Own.nil _ _ _ _, b1.alloc b1.size _⟩

set_option maxHeartbeats 1000000 in
theorem SortNetwork_s_c (lo hi : Nat) (v : Value) (xs : List Int) (w : World) (hv : OwnI w lo hi v xs) (hh : hi ≤ w.heap.size) (hl : xs.length ≤ 1048576) :
    Calls Try.prog 35 #[v] w (IntC w (sortX xs)) := by
  obtain ⟨ao, g, cap, e, -, -, -⟩ := hv.view
  have HV := Lib.hid (OwnI.ints hv)
  obtain ⟨n, hn⟩ : ∃ n, n = xs.length := ⟨_, rfl⟩
  rw [← hn] at e hl
  subst e
  have HN := Lib.hid hn
  clear hv hn
  by_cases hb : inB (n : Int) 1 8 = true
  · have h1 : 1 ≤ n := by have := inB_of hb; omega
    have h8 : n ≤ 8 := by have := inB_of hb; omega
    have HX : Hid (sortX xs = applyP (bat n (upI 0 n)) xs) := by show _ = _; unfold sortX; rw [← HN.out, if_pos hb]
    have WA : Hid (∀ w, Calls Try.prog 77 #[.int .i64 0, .int .i64 n] w (IntC w (upI 0 n))) := fun w => by have := l08Wires_c 0 n w (by omega) (by omega) (by omega); simpa using this
    have hok := bat_ok n h1 h8
    have HP : Hid (pairsOf n (bat n (upI 0 n))) := netOk_pair hok
    have hl60 := netOk_len hok
    obtain ⟨X, hX⟩ : ∃ X, X = bat n (upI 0 n) := ⟨_, rfl⟩
    have BL : Hid (∀ (w1 : World) (u : Value), IntsV w1 0 w1.heap.size u (upI 0 n) → Calls Try.prog 76 #[u] w1 (RowC w1 X)) := fun w1 u hu => by
      have := l09Batcher_c n (upI 0 n) 0 w1.heap.size u w1 (by rw [upI_length]; exact h1) (by rw [upI_length]; exact Nat.le_refl _) (by rw [upI_length]; exact h8) h8 hu (Nat.le_refl _)
      rwa [batEq n h8, ← hX] at this
    rw [← hX] at HP hl60 HX
    have hXl : X.length ≤ 1000 := by omega
    clear hok hX
    go_enter Try.func35, Try.ntmps35
    go_wp2_with (go_at_call 48; refine (l07N_c _ _).mono ?_; rintro e w' ⟨rfl, rfl⟩)
    refine (WA.out _).mono ?_
    rintro e w1 ⟨u1, rfl, o1, b1⟩
    have P1 : Hid (IntsV w1 0 w1.heap.size u1 (upI 0 n)) := (OwnI.ints o1).mono (Nat.zero_le _) (Nat.le_refl _)
    obtain ⟨x1, n1, y1, rfl⟩ := (OwnI.ints o1).shape
    have B1 := Lib.hid b1
    have z1 := b1.size
    clear o1 b1
    go_wp2_with fail
    refine (BL.out _ _ P1.out).mono ?_
    rintro e w2 ⟨u2, us, rfl, o2, b2⟩
    obtain ⟨ao1, g1, cap1, e1, -, -, -⟩ := o2.rows
    obtain ⟨M, hM⟩ : ∃ M, M = X.length := ⟨_, rfl⟩
    rw [← hM] at e1
    subst e1
    have O2 := Lib.hid o2
    have z2 := b2.size
    have B2 : Hid (Below w.heap.size w w2) := B1.out.trans (b2.mono z1)
    have HV2 := Lib.hid (HV.out.below B2.out hh)
    clear o2 hM b2
    go_wp2_with fail
    refine (l02Apply_c n w1.heap.size w2.heap.size lo hi _ us X _ xs w2 O2.out (Nat.le_refl _) HP.out hXl HV2.out (by omega) HN.out.symm h1 h8).mono ?_
    rintro e w3 ⟨r, rfl, o3, b3⟩
    have O3 := Lib.hid o3
    have B3 : Hid (Below w.heap.size w w3) := B2.out.trans (b3.mono (by omega))
    clear o3 b3
    go_wp2_with fail
    go_ret
    exact ⟨_, rfl, by rw [HX.out]; exact Own.mono O3.out (by omega) (Nat.le_refl _), B3.out⟩
  · replace hb : inB (n : Int) 1 8 = false := by simpa using hb
    have HX : Hid (sortX xs = []) := by show _ = _; unfold sortX; rw [← HN.out, hb]; rfl
    go_enter Try.func35, Try.ntmps35
    go_wp2_with (go_at_call 48; refine (l07N_c _ _).mono ?_; rintro e w' ⟨rfl, rfl⟩)
    go_ret
    exact ⟨_, rfl, by rw [HX.out]; exact Own.nil _ _ _ _, Below.refl _ _⟩

theorem sortX_small (xs : List Int) : (sortX xs).length ≤ 1000000000 := by
  unfold sortX
  split
  · rename_i h
    have := inB_of h
    rw [applyP_len]
    omega
  · simp
theorem fnExactSortNetwork_walk (w : World) (u0 : Value) (x0 : List Int) (hu : IntsV w 0 w.heap.size u0 x0) (hm : x0.length ≤ maxLen) :
    Calls Try.prog 9 #[u0] w fun e w' => e = .returned (.bool true) ∧ Below w.heap.size w w' :=
  FnExactSortNetwork_core w u0 x0 hu hm _ (sortX_small x0) (fun w l h v hv hh hl => SortNetwork_s_c l h v x0 w hv hh hl) (fun w l h v hv hh hl => SortNetwork_i_c l h v x0 w hv hh hl)
end Go.Proofs.Ytnheioohmcgpjaa
