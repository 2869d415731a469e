/- Whether a network is a shortest one: both functions on all arguments, and the law. Conditions: none. -/
import Derived.Test.YtbnldajkogmadaaIsSorting
import Derived.Test.YtbnldajkogmadaaMIsShortest
namespace Go.Proofs.Ytbnldajkogmadaa
open Go.RowKit
set_option maxRecDepth 100000
set_option linter.unusedVariables false

/-- The least number of comparators, or -1. -/
def leastP (n : Int) : Int := if n = 1 then 0 else if n = 2 then 1 else if n = 3 then 3 else if n = 4 then 5 else -1
theorem LeastPairs_i (n : Int) (w : World) : Calls Try.prog 75 #[.int .i64 n] w fun e w' => e = .returned (.int .i64 (leastP n)) ∧ Below w.heap.size w w' := by
  by_cases h : inB n 1 4 = true
  · have h' : 1 ≤ n ∧ n ≤ 4 := by simpa [inB] using h
    clear h
    rcases (by omega : n = 1 ∨ n = 2 ∨ n = 3 ∨ n = 4) with rfl | rfl | rfl | rfl
    all_goals
      go_enter Try.func75, Try.ntmps75
      go_wp2
      go_ret
      exact ⟨rfl, by repeat (first | exact Below.refl _ _ | apply Below.drew | refine Below.alloc ?_ (by simp) _)⟩
  · have HL : Hid (leastP n = -1) := by
      show leastP n = -1
      have : ¬ (1 ≤ n ∧ n ≤ 4) := fun hh => h (by simpa [inB] using hh)
      unfold leastP
      rw [if_neg (by omega), if_neg (by omega), if_neg (by omega), if_neg (by omega)]
    have h' : inB n 1 4 = false := by simpa using h
    clear h
    go_enter Try.func75, Try.ntmps75
    go_wp2_with (go_at_call 106; refine (isFew_c _ _).mono ?_; rintro e w' ⟨rfl, rfl⟩)
    go_ret
    exact ⟨by rw [HL.out]; rfl, Below.refl _ _⟩
theorem LeastPairs_s (n : Int) (w : World) : Calls Try.prog 73 #[.int .i64 n] w fun e w' => e = .returned (.int .i64 (leastP n)) ∧ Below w.heap.size w w' := by
  by_cases h : inB n 1 4 = true
  · have h' : 1 ≤ n ∧ n ≤ 4 := by simpa [inB] using h
    clear h
    rcases (by omega : n = 1 ∨ n = 2 ∨ n = 3 ∨ n = 4) with rfl | rfl | rfl | rfl
    all_goals
      go_enter Try.func73, Try.ntmps73
      go_wp2
      go_ret
      exact ⟨rfl, by repeat (first | exact Below.refl _ _ | apply Below.drew | refine Below.alloc ?_ (by simp) _)⟩
  · have HL : Hid (leastP n = -1) := by
      show leastP n = -1
      have : ¬ (1 ≤ n ∧ n ≤ 4) := fun hh => h (by simpa [inB] using hh)
      unfold leastP
      rw [if_neg (by omega), if_neg (by omega), if_neg (by omega), if_neg (by omega)]
    have h' : inB n 1 4 = false := by simpa using h
    clear h
    go_enter Try.func73, Try.ntmps73
    go_wp2_with (go_at_call 104; refine (l12N_c _ _).mono ?_; rintro e w' ⟨rfl, rfl⟩)
    go_ret
    exact ⟨by rw [HL.out]; rfl, Below.refl _ _⟩
/-- Whether a network is a shortest one. -/
def shortR (n : Int) (xss : List (List Int)) : Bool := sortsR n xss && (decide (n ≤ 4) && ((xss.length : Int) == leastP n))
theorem IsShortest_i_c (n : Int) (lo hi : Nat) (v : Value) (vs : List Value) (xss : List (List Int)) (w : World) (hv : OwnR w lo hi v vs xss) (hhi : hi ≤ w.heap.size) :
    Calls Try.prog 31 #[.agg #[.int .i64 n, v]] w fun e w' => e = .returned (.bool (shortR n xss)) ∧ Below w.heap.size w w' := by
  have HC := Lib.hid (IsSorting_i n lo hi v vs xss)
  have HP := Lib.hid (LeastPairs_i n)
  obtain ⟨p, hp⟩ : ∃ p, p = leastP n := ⟨_, rfl⟩
  have hl60 : sortsR n xss = true → xss.length ≤ 60 := fun h => by
    simp only [sortsR, Bool.and_eq_true] at h
    exact netOk_len h.1
  obtain ⟨ao, g, cap, rfl, -, -, -⟩ := hv.rows
  have HV := Lib.hid hv
  obtain ⟨L, hlen⟩ : ∃ l, l = xss.length := ⟨_, rfl⟩
  have hR : shortR n xss = (sortsR n xss && (decide (n ≤ 4) && ((L : Int) == p))) := by rw [shortR, hp, hlen]
  rw [← hp] at HP
  rw [← hlen] at HV HC hl60 ⊢
  clear hv hlen hp
  cases hs : sortsR n xss
  · have HR : Hid (shortR n xss = false) := by show _ = _; rw [hR, hs]; rfl
    rw [hs] at HC
    clear hR hs hl60
    go_enter Try.func31, Try.ntmps31
    go_wp2_with fail
    obtain ⟨W1, hW1, c0, c1, hsz, hB1, -, -⟩ := box2 w (.int .i64 n) (.slice ao L cap) 27
    try rw [hW1]
    clear hW1
    have hlt : w.heap.size < W1.heap.size := by omega
    have hle : hi ≤ W1.heap.size := by omega
    have HV1 := Lib.hid (HV.out.below hB1 hhi)
    clear HV hsz
    refine wp_region_later W1.heap.size W1 (by kernel_rfl) (by kernel_rfl) (Below.refl _ _) ?_
    have hLW := LW.cells (B := W1.heap.size) (w0 := W1)
    repeat (go_big_quiet_step ((first | (go_at_call 74; refine LW.call (Nat.le_refl _) (HC.out _ (HV1.out.below (LW.h _) hle) (Nat.le_trans hle (LW.h _).size))) | (go_at_call 75; refine LW.call (Nat.le_refl _) (HP.out _)) | fail)))
    refine wpQuiet_nil ?_
    rintro w2 ⟨⟨w2s, hb2⟩, rfl⟩
    clear hLW
    go_wp2
    go_ret
    exact ⟨by rw [HR.out]; rfl, hB1.trans (hb2.mono (by omega))⟩
  · by_cases h4 : n ≤ 4
    · cases hq : ((L : Int) == p)
      · have HR : Hid (shortR n xss = false) := by show _ = _; rw [hR, hs, hq]; simp
        rw [hs] at HC
        clear hR hs hl60
        go_enter Try.func31, Try.ntmps31
        go_wp2_with fail
        obtain ⟨W1, hW1, c0, c1, hsz, hB1, -, -⟩ := box2 w (.int .i64 n) (.slice ao L cap) 27
        try rw [hW1]
        clear hW1
        have hlt : w.heap.size < W1.heap.size := by omega
        have hle : hi ≤ W1.heap.size := by omega
        have HV1 := Lib.hid (HV.out.below hB1 hhi)
        clear HV hsz
        refine wp_region_later W1.heap.size W1 (by kernel_rfl) (by kernel_rfl) (Below.refl _ _) ?_
        have hLW := LW.cells (B := W1.heap.size) (w0 := W1)
        repeat (go_big_quiet_step ((first | (go_at_call 74; refine LW.call (Nat.le_refl _) (HC.out _ (HV1.out.below (LW.h _) hle) (Nat.le_trans hle (LW.h _).size))) | (go_at_call 75; refine LW.call (Nat.le_refl _) (HP.out _)) | fail)))
        refine wpQuiet_nil ?_
        rintro w2 ⟨⟨w2s, hb2⟩, rfl⟩
        clear hLW
        go_wp2
        go_ret
        exact ⟨by rw [HR.out]; rfl, hB1.trans (hb2.mono (by omega))⟩
      · have HR : Hid (shortR n xss = true) := by show _ = _; rw [hR, hs, hq]; simp [h4]
        rw [hs] at HC
        clear hR hs hl60
        go_enter Try.func31, Try.ntmps31
        go_wp2_with fail
        obtain ⟨W1, hW1, c0, c1, hsz, hB1, -, -⟩ := box2 w (.int .i64 n) (.slice ao L cap) 27
        try rw [hW1]
        clear hW1
        have hlt : w.heap.size < W1.heap.size := by omega
        have hle : hi ≤ W1.heap.size := by omega
        have HV1 := Lib.hid (HV.out.below hB1 hhi)
        clear HV hsz
        refine wp_region_later W1.heap.size W1 (by kernel_rfl) (by kernel_rfl) (Below.refl _ _) ?_
        have hLW := LW.cells (B := W1.heap.size) (w0 := W1)
        repeat (go_big_quiet_step ((first | (go_at_call 74; refine LW.call (Nat.le_refl _) (HC.out _ (HV1.out.below (LW.h _) hle) (Nat.le_trans hle (LW.h _).size))) | (go_at_call 75; refine LW.call (Nat.le_refl _) (HP.out _)) | fail)))
        refine wpQuiet_nil ?_
        rintro w2 ⟨⟨w2s, hb2⟩, rfl⟩
        clear hLW
        go_wp2
        go_ret
        exact ⟨by rw [HR.out]; rfl, hB1.trans (hb2.mono (by omega))⟩
    · have HR : Hid (shortR n xss = false) := by show _ = _; rw [hR, hs]; simp [h4]
      have h5 : (n ≤ 4) = False := eq_false h4
      have h6 : decide (n ≤ 4) = false := decide_eq_false h4
      rw [hs] at HC
      clear hR hs hl60
      go_enter Try.func31, Try.ntmps31
      go_wp2_with fail
      obtain ⟨W1, hW1, c0, c1, hsz, hB1, -, -⟩ := box2 w (.int .i64 n) (.slice ao L cap) 27
      try rw [hW1]
      clear hW1
      have hlt : w.heap.size < W1.heap.size := by omega
      have hle : hi ≤ W1.heap.size := by omega
      have HV1 := Lib.hid (HV.out.below hB1 hhi)
      clear HV hsz
      refine wp_region_later W1.heap.size W1 (by kernel_rfl) (by kernel_rfl) (Below.refl _ _) ?_
      have hLW := LW.cells (B := W1.heap.size) (w0 := W1)
      repeat (go_big_quiet_step ((first | (go_at_call 74; refine LW.call (Nat.le_refl _) (HC.out _ (HV1.out.below (LW.h _) hle) (Nat.le_trans hle (LW.h _).size))) | (go_at_call 75; refine LW.call (Nat.le_refl _) (HP.out _)) | fail)))
      refine wpQuiet_nil ?_
      rintro w2 ⟨⟨w2s, hb2⟩, rfl⟩
      clear hLW
      go_wp2
      go_ret
      exact ⟨by rw [HR.out]; rfl, hB1.trans (hb2.mono (by omega))⟩
theorem IsShortest_s_c (n : Int) (lo hi : Nat) (v : Value) (vs : List Value) (xss : List (List Int)) (w : World) (hv : OwnR w lo hi v vs xss) (hhi : hi ≤ w.heap.size) :
    Calls Try.prog 30 #[.agg #[.int .i64 n, v]] w fun e w' => e = .returned (.bool (shortR n xss)) ∧ Below w.heap.size w w' := by
  have HC := Lib.hid (IsSorting_s n lo hi v vs xss)
  have HP := Lib.hid (LeastPairs_s n)
  obtain ⟨p, hp⟩ : ∃ p, p = leastP n := ⟨_, rfl⟩
  have hl60 : sortsR n xss = true → xss.length ≤ 60 := fun h => by
    simp only [sortsR, Bool.and_eq_true] at h
    exact netOk_len h.1
  obtain ⟨ao, g, cap, rfl, -, -, -⟩ := hv.rows
  have HV := Lib.hid hv
  obtain ⟨L, hlen⟩ : ∃ l, l = xss.length := ⟨_, rfl⟩
  have hR : shortR n xss = (sortsR n xss && (decide (n ≤ 4) && ((L : Int) == p))) := by rw [shortR, hp, hlen]
  rw [← hp] at HP
  rw [← hlen] at HV HC hl60 ⊢
  clear hv hlen hp
  cases hs : sortsR n xss
  · have HR : Hid (shortR n xss = false) := by show _ = _; rw [hR, hs]; rfl
    rw [hs] at HC
    clear hR hs hl60
    go_enter Try.func30, Try.ntmps30
    go_wp2_with fail
    obtain ⟨W1, hW1, c0, c1, hsz, hB1, -, -⟩ := box2 w (.int .i64 n) (.slice ao L cap) 27
    try rw [hW1]
    clear hW1
    have hlt : w.heap.size < W1.heap.size := by omega
    have hle : hi ≤ W1.heap.size := by omega
    have HV1 := Lib.hid (HV.out.below hB1 hhi)
    clear HV hsz
    refine wp_region_later W1.heap.size W1 (by kernel_rfl) (by kernel_rfl) (Below.refl _ _) ?_
    have hLW := LW.cells (B := W1.heap.size) (w0 := W1)
    repeat (go_big_quiet_step ((first | (go_at_call 72; refine LW.call (Nat.le_refl _) (HC.out _ (HV1.out.below (LW.h _) hle) (Nat.le_trans hle (LW.h _).size))) | (go_at_call 73; refine LW.call (Nat.le_refl _) (HP.out _)) | fail)))
    refine wpQuiet_nil ?_
    rintro w2 ⟨⟨w2s, hb2⟩, rfl⟩
    clear hLW
    go_wp2
    go_ret
    exact ⟨by rw [HR.out]; rfl, hB1.trans (hb2.mono (by omega))⟩
  · by_cases h4 : n ≤ 4
    · cases hq : ((L : Int) == p)
      · have HR : Hid (shortR n xss = false) := by show _ = _; rw [hR, hs, hq]; simp
        rw [hs] at HC
        clear hR hs hl60
        go_enter Try.func30, Try.ntmps30
        go_wp2_with fail
        obtain ⟨W1, hW1, c0, c1, hsz, hB1, -, -⟩ := box2 w (.int .i64 n) (.slice ao L cap) 27
        try rw [hW1]
        clear hW1
        have hlt : w.heap.size < W1.heap.size := by omega
        have hle : hi ≤ W1.heap.size := by omega
        have HV1 := Lib.hid (HV.out.below hB1 hhi)
        clear HV hsz
        refine wp_region_later W1.heap.size W1 (by kernel_rfl) (by kernel_rfl) (Below.refl _ _) ?_
        have hLW := LW.cells (B := W1.heap.size) (w0 := W1)
        repeat (go_big_quiet_step ((first | (go_at_call 72; refine LW.call (Nat.le_refl _) (HC.out _ (HV1.out.below (LW.h _) hle) (Nat.le_trans hle (LW.h _).size))) | (go_at_call 73; refine LW.call (Nat.le_refl _) (HP.out _)) | fail)))
        refine wpQuiet_nil ?_
        rintro w2 ⟨⟨w2s, hb2⟩, rfl⟩
        clear hLW
        go_wp2
        go_ret
        exact ⟨by rw [HR.out]; rfl, hB1.trans (hb2.mono (by omega))⟩
      · have HR : Hid (shortR n xss = true) := by show _ = _; rw [hR, hs, hq]; simp [h4]
        rw [hs] at HC
        clear hR hs hl60
        go_enter Try.func30, Try.ntmps30
        go_wp2_with fail
        obtain ⟨W1, hW1, c0, c1, hsz, hB1, -, -⟩ := box2 w (.int .i64 n) (.slice ao L cap) 27
        try rw [hW1]
        clear hW1
        have hlt : w.heap.size < W1.heap.size := by omega
        have hle : hi ≤ W1.heap.size := by omega
        have HV1 := Lib.hid (HV.out.below hB1 hhi)
        clear HV hsz
        refine wp_region_later W1.heap.size W1 (by kernel_rfl) (by kernel_rfl) (Below.refl _ _) ?_
        have hLW := LW.cells (B := W1.heap.size) (w0 := W1)
        repeat (go_big_quiet_step ((first | (go_at_call 72; refine LW.call (Nat.le_refl _) (HC.out _ (HV1.out.below (LW.h _) hle) (Nat.le_trans hle (LW.h _).size))) | (go_at_call 73; refine LW.call (Nat.le_refl _) (HP.out _)) | fail)))
        refine wpQuiet_nil ?_
        rintro w2 ⟨⟨w2s, hb2⟩, rfl⟩
        clear hLW
        go_wp2
        go_ret
        exact ⟨by rw [HR.out]; rfl, hB1.trans (hb2.mono (by omega))⟩
    · have HR : Hid (shortR n xss = false) := by show _ = _; rw [hR, hs]; simp [h4]
      have h5 : (n ≤ 4) = False := eq_false h4
      have h6 : decide (n ≤ 4) = false := decide_eq_false h4
      rw [hs] at HC
      clear hR hs hl60
      go_enter Try.func30, Try.ntmps30
      go_wp2_with fail
      obtain ⟨W1, hW1, c0, c1, hsz, hB1, -, -⟩ := box2 w (.int .i64 n) (.slice ao L cap) 27
      try rw [hW1]
      clear hW1
      have hlt : w.heap.size < W1.heap.size := by omega
      have hle : hi ≤ W1.heap.size := by omega
      have HV1 := Lib.hid (HV.out.below hB1 hhi)
      clear HV hsz
      refine wp_region_later W1.heap.size W1 (by kernel_rfl) (by kernel_rfl) (Below.refl _ _) ?_
      have hLW := LW.cells (B := W1.heap.size) (w0 := W1)
      repeat (go_big_quiet_step ((first | (go_at_call 72; refine LW.call (Nat.le_refl _) (HC.out _ (HV1.out.below (LW.h _) hle) (Nat.le_trans hle (LW.h _).size))) | (go_at_call 73; refine LW.call (Nat.le_refl _) (HP.out _)) | fail)))
      refine wpQuiet_nil ?_
      rintro w2 ⟨⟨w2s, hb2⟩, rfl⟩
      clear hLW
      go_wp2
      go_ret
      exact ⟨by rw [HR.out]; rfl, hB1.trans (hb2.mono (by omega))⟩
theorem fnExactIsShortest_walk (w : World) (a0 : Int) (u0 : Value) (us0 : List Value) (x0 : List (List Int)) (hu : RowsV w 0 w.heap.size u0 us0 x0) (hm : x0.length ≤ maxLen) (hn : ∀ xs ∈ x0, xs.length ≤ maxLen) :
    Calls Try.prog 7 #[.agg #[.int .i64 a0, u0]] w fun e w' => e = .returned (.bool true) ∧ Below w.heap.size w w' :=
  FnExactIsShortest_core w a0 u0 us0 x0 hu hm hn (shortR a0 x0) (fun w l h v vs hv hh _ => IsShortest_s_c a0 l h v vs x0 w hv hh) (fun w l h v vs hv hh _ => IsShortest_i_c a0 l h v vs x0 w hv hh)
end Go.Proofs.Ytbnldajkogmadaa
