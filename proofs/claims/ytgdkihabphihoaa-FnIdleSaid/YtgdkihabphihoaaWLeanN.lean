/- LeanNetwork on all arguments, and the law. Conditions: none. -/
import Derived.Test.YtgdkihabphihoaaLeanS
import Derived.Test.YtgdkihabphihoaaMLeanNetwork
namespace Go.Proofs.Ytgdkihabphihoaa
open Go.RowKit
set_option maxRecDepth 100000
set_option linter.unusedVariables false
set_option linter.unusedSimpArgs false

theorem leanX_ok (n : Int) : ∀ (xss : List (List Int)) (i : Nat), sortsR n xss = true → sortsR n (leanX n xss i) = true := by
  intro xss i
  induction xss, i using leanX.induct n with
  | case1 xss => intro h; rwa [leanX]
  | case2 xss i hc ih => intro _; rw [leanX, dif_pos hc]; exact ih hc.2
  | case3 xss i hc ih => intro h; rw [leanX, dif_neg hc]; exact ih h
def leanN (n : Int) (xss : List (List Int)) : Int := if sortsR n xss = true then n else 0
def leanR (n : Int) (xss : List (List Int)) : List (List Int) := if sortsR n xss = true then leanX n xss xss.length else []
theorem leanR_small (n : Int) (xss : List (List Int)) : smallR (leanR n xss) := by
  unfold leanR
  by_cases h : sortsR n xss = true
  · rw [if_pos h]
    exact smallR_netOk (sortsR_ok (leanX_ok n xss _ h))
  · rw [if_neg h]
    exact smallR_pairs (by simp) (by simp)
set_option maxHeartbeats 1000000 in
theorem LeanNetwork_i_no (n : Int) (lo hi : Nat) (v : Value) (vs : List Value) (xss : List (List Int)) (w : World) (hv : OwnR w lo hi v vs xss) (hhi : hi ≤ w.heap.size) (hok : sortsR n xss = false) :
    Calls Try.prog 33 #[.agg #[.int .i64 n, v]] w (NetC w 0 [] false) := by
  have HC : Hid (∀ w, OwnR w lo hi v vs xss → hi ≤ w.heap.size → Calls Try.prog 39 #[.agg #[.int .i64 n, v]] w fun e w' => e = .returned (.bool false) ∧ Below w.heap.size w w') := fun w h1 h2 => by
    have := IsSorting_i n lo hi v vs xss w h1 h2
    rwa [hok] at this
  have HV := Lib.hid hv
  obtain ⟨ao, g, cap, rfl, -, -, -⟩ := hv.rows
  obtain ⟨L, hlen⟩ : ∃ l, l = xss.length := ⟨_, rfl⟩
  rw [← hlen] at HV HC ⊢
  clear hv hlen hok
  go_enter Try.func33, Try.ntmps33
  go_wp2_with fail
  obtain ⟨W1, hW1, c0, c1, hsz, hB1, -, -⟩ := box2 w (.int .i64 n) (.slice ao L cap) 27
  have hb9 := blk_new W1 (.cells #[.int .i64 0, .slice none 0 0] 27)
  obtain ⟨W2, hW2⟩ : ∃ W, W = W1.alloc (.cells #[.int .i64 0, .slice none 0 0] 27) := ⟨_, rfl⟩
  have hBa : Below W1.heap.size W1 W2 := by rw [hW2]; exact (Below.refl _ _).alloc (Nat.le_refl _) _
  have hs2 : W2.heap.size = W1.heap.size + 1 := by rw [hW2]; simp
  rw [← hW2] at hb9
  obtain ⟨c0, c1, hz0⟩ := boxC hBa (by omega) c0 c1
  have hB2 : Below w.heap.size w W2 := hB1.trans (hBa.mono (by omega))
  rw [hsz] at hb9
  try rw [hW1, ← hW2]
  have hw2 : w.heap.size + 1 < W2.heap.size := by omega
  clear hW1 hW2 hBa hs2 hsz hB1
  refine (HC.out W2 (HV.out.below hB2 (by omega)) (by omega)).mono ?_
  rintro e w3 ⟨rfl, b3⟩
  have hr9 := blk_below hb9 b3 hw2
  have q0 := blk_cell hr9 0
  have q1 := blk_cell hr9 1
  have x0 := blk_free hr9 0
  have x1 := blk_free hr9 1
  have HB3 : Hid (Below w.heap.size w w3) := hB2.trans (b3.mono (by omega))
  clear c0 c1 hb9 b3 hB2 HC HV hz0 hw2 hr9
  go_wp2_with fail
  refine bodyPost_ret (v := .tuple #[.agg #[.int .i64 0, .slice none 0 0], .bool false]) (by simp [results, Try.results33, go_sem, q0, q1]) rfl ⟨_, [], rfl, OwnR.nil _ _ _, ?_⟩
  first
    | exact (HB3.out.setCell (by show w.heap.size ≤ w.heap.size + 1; omega) _).setCell (by show w.heap.size ≤ w.heap.size + 1; omega) _
    | exact HB3.out


theorem LeanNetwork_i_c (n : Int) (lo hi : Nat) (v : Value) (vs : List Value) (xss : List (List Int)) (w : World) (hv : OwnR w lo hi v vs xss) (hhi : hi ≤ w.heap.size) :
    Calls Try.prog 33 #[.agg #[.int .i64 n, v]] w (NetC w (leanN n xss) (leanR n xss) (sortsR n xss)) := by
  unfold leanN leanR
  cases hs : sortsR n xss
  · exact LeanNetwork_i_no n lo hi v vs xss w hv hhi hs
  · obtain ⟨m, rfl⟩ : ∃ m : Nat, n = (m : Int) := ⟨n.toNat, by have := netOk_n (sortsR_ok hs); omega⟩
    exact LeanNetwork_i_yes m lo hi v vs xss w hv hhi hs
set_option maxHeartbeats 1000000 in
theorem LeanNetwork_s_no (n : Int) (lo hi : Nat) (v : Value) (vs : List Value) (xss : List (List Int)) (w : World) (hv : OwnR w lo hi v vs xss) (hhi : hi ≤ w.heap.size) (hok : sortsR n xss = false) :
    Calls Try.prog 32 #[.agg #[.int .i64 n, v]] w (NetC w 0 [] false) := by
  have HC : Hid (∀ w, OwnR w lo hi v vs xss → hi ≤ w.heap.size → Calls Try.prog 97 #[.agg #[.int .i64 n, v]] w fun e w' => e = .returned (.bool false) ∧ Below w.heap.size w w') := fun w h1 h2 => by
    have := IsSorting_s n lo hi v vs xss w h1 h2
    rwa [hok] at this
  have HV := Lib.hid hv
  obtain ⟨ao, g, cap, rfl, -, -, -⟩ := hv.rows
  obtain ⟨L, hlen⟩ : ∃ l, l = xss.length := ⟨_, rfl⟩
  rw [← hlen] at HV HC ⊢
  clear hv hlen hok
  go_enter Try.func32, Try.ntmps32
  go_wp2_with fail
  obtain ⟨W1, hW1, c0, c1, hsz, hB1, -, -⟩ := box2 w (.int .i64 n) (.slice ao L cap) 27
  have hb9 := blk_new W1 (.cells #[.int .i64 0, .slice none 0 0] 27)
  obtain ⟨W2, hW2⟩ : ∃ W, W = W1.alloc (.cells #[.int .i64 0, .slice none 0 0] 27) := ⟨_, rfl⟩
  have hBa : Below W1.heap.size W1 W2 := by rw [hW2]; exact (Below.refl _ _).alloc (Nat.le_refl _) _
  have hs2 : W2.heap.size = W1.heap.size + 1 := by rw [hW2]; simp
  rw [← hW2] at hb9
  obtain ⟨c0, c1, hz0⟩ := boxC hBa (by omega) c0 c1
  have hB2 : Below w.heap.size w W2 := hB1.trans (hBa.mono (by omega))
  rw [hsz] at hb9
  try rw [hW1, ← hW2]
  have hw2 : w.heap.size + 1 < W2.heap.size := by omega
  clear hW1 hW2 hBa hs2 hsz hB1
  refine (HC.out W2 (HV.out.below hB2 (by omega)) (by omega)).mono ?_
  rintro e w3 ⟨rfl, b3⟩
  have hr9 := blk_below hb9 b3 hw2
  have q0 := blk_cell hr9 0
  have q1 := blk_cell hr9 1
  have x0 := blk_free hr9 0
  have x1 := blk_free hr9 1
  have HB3 : Hid (Below w.heap.size w w3) := hB2.trans (b3.mono (by omega))
  clear c0 c1 hb9 b3 hB2 HC HV hz0 hw2 hr9
  go_wp2_with fail
  refine bodyPost_ret (v := .tuple #[.agg #[.int .i64 0, .slice none 0 0], .bool false]) (by simp [results, Try.results32, go_sem, q0, q1]) rfl ⟨_, [], rfl, OwnR.nil _ _ _, ?_⟩
  first
    | exact (HB3.out.setCell (by show w.heap.size ≤ w.heap.size + 1; omega) _).setCell (by show w.heap.size ≤ w.heap.size + 1; omega) _
    | exact HB3.out


theorem LeanNetwork_s_c (n : Int) (lo hi : Nat) (v : Value) (vs : List Value) (xss : List (List Int)) (w : World) (hv : OwnR w lo hi v vs xss) (hhi : hi ≤ w.heap.size) :
    Calls Try.prog 32 #[.agg #[.int .i64 n, v]] w (NetC w (leanN n xss) (leanR n xss) (sortsR n xss)) := by
  unfold leanN leanR
  cases hs : sortsR n xss
  · exact LeanNetwork_s_no n lo hi v vs xss w hv hhi hs
  · obtain ⟨m, rfl⟩ : ∃ m : Nat, n = (m : Int) := ⟨n.toNat, by have := netOk_n (sortsR_ok hs); omega⟩
    exact LeanNetwork_s_yes m lo hi v vs xss w hv hhi hs
theorem fnExactLeanNetwork_walk (w : World) (a0 : Int) (u0 : Value) (us0 : List Value) (x0 : List (List Int)) (hu : RowsV w 0 w.heap.size u0 us0 x0) (hm : x0.length ≤ maxLen) (hn : ∀ xs ∈ x0, xs.length ≤ maxLen) :
    Calls Try.prog 7 #[.agg #[.int .i64 a0, u0]] w fun e w' => e = .returned (.bool true) ∧ Below w.heap.size w w' :=
  FnExactLeanNetwork_core w a0 u0 us0 x0 hu hm hn _ _ _ (leanR_small a0 x0)
    (fun w l0 h0 v0 vs0 o0 b0 _ => LeanNetwork_s_c a0 l0 h0 v0 vs0 x0 w o0 b0) (fun w l0 h0 v0 vs0 o0 b0 _ => LeanNetwork_i_c a0 l0 h0 v0 vs0 x0 w o0 b0)
end Go.Proofs.Ytgdkihabphihoaa
