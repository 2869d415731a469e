/- How many comparators a network has: both functions' contracts and the law's walk. Conditions: none. -/
import Derived.Test.YtnheioohmcgpjaaNetOk
import Derived.Test.YtnheioohmcgpjaaMCountPairs
namespace Go.Proofs.Ytnheioohmcgpjaa
open Go.RowKit
set_option maxRecDepth 100000

def countP (n : Int) (xss : List (List Int)) : Int := if netOk n xss = true then xss.length else -1
theorem CountPairs_impl_c (n : Int) (lo hi : Nat) (v : Value) (vs : List Value) (xss : List (List Int)) (w : World) (hv : OwnR w lo hi v vs xss) (hhi : hi ≤ w.heap.size) :
    Calls Try.prog 22 #[.agg #[.int .i64 n, v]] w fun e w' => e = .returned (.int .i64 (countP n xss)) ∧ Below w.heap.size w w' := by
  have HC := Lib.hid (NetworkOk_c n lo hi v vs xss)
  obtain ⟨ao, g, cap, rfl, -, -, -⟩ := hv.rows
  have HV := Lib.hid hv
  clear hv
  obtain ⟨len, hlen⟩ : ∃ l, l = xss.length := ⟨_, rfl⟩
  have HLEN := Lib.hid hlen
  rw [← hlen] at HV HC ⊢
  clear hlen
  have hb0 : Below w.heap.size w (w.alloc (.cells #[.int .i64 n, .slice ao len cap] 32)) := (Below.refl _ _).alloc (Nat.le_refl _) _
  cases hok : netOk n xss
  · have HR : Hid (countP n xss = -1) := by show countP n xss = -1; simp [countP, hok]
    rw [hok] at HC
    clear hok
    go_enter Try.func22, Try.ntmps22
    go_wp2_with (go_at_call 59; refine (HC.out _ (HV.out.below hb0 (by omega)) (by simp; omega)).mono ?_; rintro e w1 ⟨rfl, b1⟩)
    go_ret
    exact ⟨by rw [HR.out]; rfl, hb0.trans (b1.mono (by simp))⟩
  · have HR : Hid (countP n xss = len) := by show countP n xss = _; rw [HLEN.out]; simp [countP, hok]
    rw [hok] at HC
    clear hok
    clear hb0
    go_enter Try.func22, Try.ntmps22
    go_wp2_with fail
    obtain ⟨W1, hW1, c0, c1, hz, hb, -, -⟩ := box2 w (.int .i64 n) (.slice ao len cap) 32
    rw [hW1]
    clear hW1
    refine (HC.out W1 (HV.out.below hb (by omega)) (by omega)).mono ?_
    rintro e w1 ⟨rfl, b1⟩
    replace c0 := (b1.cell (p := ⟨w.heap.size, 0, none⟩) (by show w.heap.size < _; omega)).trans c0
    replace c1 := (b1.cell (p := ⟨w.heap.size, 1, none⟩) (by show w.heap.size < _; omega)).trans c1
    go_wp2
    go_ret
    exact ⟨by rw [HR.out]; rfl, hb.trans (b1.mono (by omega))⟩
theorem CountPairs_spec_c (n : Int) (lo hi : Nat) (v : Value) (vs : List Value) (xss : List (List Int)) (w : World) (hv : OwnR w lo hi v vs xss) (hhi : hi ≤ w.heap.size) :
    Calls Try.prog 20 #[.agg #[.int .i64 n, v]] w fun e w' => e = .returned (.int .i64 (countP n xss)) ∧ Below w.heap.size w w' := by
  have HC := Lib.hid (SNetworkOk_c n lo hi v vs xss)
  obtain ⟨ao, g, cap, rfl, -, -, -⟩ := hv.rows
  have HV := Lib.hid hv
  clear hv
  obtain ⟨len, hlen⟩ : ∃ l, l = xss.length := ⟨_, rfl⟩
  have HLEN := Lib.hid hlen
  rw [← hlen] at HV HC ⊢
  clear hlen
  have hb0 : Below w.heap.size w (w.alloc (.cells #[.int .i64 n, .slice ao len cap] 32)) := (Below.refl _ _).alloc (Nat.le_refl _) _
  cases hok : netOk n xss
  · have HR : Hid (countP n xss = -1) := by show countP n xss = -1; simp [countP, hok]
    rw [hok] at HC
    clear hok
    go_enter Try.func20, Try.ntmps20
    go_wp2_with (go_at_call 57; refine (HC.out _ (HV.out.below hb0 (by omega)) (by simp; omega)).mono ?_; rintro e w1 ⟨rfl, b1⟩)
    go_ret
    exact ⟨by rw [HR.out]; rfl, hb0.trans (b1.mono (by simp))⟩
  · have HR : Hid (countP n xss = len) := by show countP n xss = _; rw [HLEN.out]; simp [countP, hok]
    rw [hok] at HC
    clear hok
    clear hb0
    go_enter Try.func20, Try.ntmps20
    go_wp2_with fail
    obtain ⟨W1, hW1, c0, c1, hz, hb, -, -⟩ := box2 w (.int .i64 n) (.slice ao len cap) 32
    rw [hW1]
    clear hW1
    refine (HC.out W1 (HV.out.below hb (by omega)) (by omega)).mono ?_
    rintro e w1 ⟨rfl, b1⟩
    replace c0 := (b1.cell (p := ⟨w.heap.size, 0, none⟩) (by show w.heap.size < _; omega)).trans c0
    replace c1 := (b1.cell (p := ⟨w.heap.size, 1, none⟩) (by show w.heap.size < _; omega)).trans c1
    go_wp2
    go_ret
    exact ⟨by rw [HR.out]; rfl, hb.trans (b1.mono (by omega))⟩
theorem fnExactCountPairs_walk (w : World) (a0 : Int) (u0 : Value) (us0 : List Value) (x0 : List (List Int)) (hu : RowsV w 0 w.heap.size u0 us0 x0) (hm : x0.length ≤ maxLen) (hn : ∀ xs ∈ x0, xs.length ≤ maxLen) :
    Calls Try.prog 4 #[.agg #[.int .i64 a0, u0]] w fun e w' => e = .returned (.bool true) ∧ Below w.heap.size w w' :=
  FnExactCountPairs_core w a0 u0 us0 x0 hu hm hn (countP a0 x0) (fun w l h v vs hv hh _ => CountPairs_spec_c a0 l h v vs x0 w hv hh) (fun w l h v vs hv hh _ => CountPairs_impl_c a0 l h v vs x0 w hv hh)
end Go.Proofs.Ytnheioohmcgpjaa
