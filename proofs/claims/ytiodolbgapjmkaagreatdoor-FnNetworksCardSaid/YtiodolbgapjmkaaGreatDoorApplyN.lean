/- A list, and a mask, run through a valid network: the program's functions by their contracts. Conditions: the network is valid, the list has its length. -/
import Derived.Test.YtiodolbgapjmkaaGreatDoorStdB
import Derived.Test.YtiodolbgapjmkaaGreatDoorApply
import Derived.Test.YtiodolbgapjmkaaGreatDoorBitsC
namespace Go.Proofs.YtiodolbgapjmkaaGreatDoor
open Go.RowKit
set_option maxRecDepth 100000
set_option linter.unusedVariables false
set_option linter.unusedSimpArgs false

set_option maxHeartbeats 1000000 in
theorem ApplyNetwork_y (n : Nat) (lo hi lo2 hi2 : Nat) (v : Value) (vs : List Value) (xss : List (List Int)) (u : Value) (ls : List Int) (w : World) (hv : OwnR w lo hi v vs xss) (hhi : hi ≤ w.heap.size) (hok : netOk n xss = true) (hu : IntsV w lo2 hi2 u ls) (hh2 : hi2 ≤ w.heap.size) (hln : ls.length = n) :
    Calls Tryz.prog 10 #[.agg #[.int .i64 n, v], u] w fun e w' => ∃ r, e = .returned (.tuple #[r, .bool true]) ∧ OwnI w' w.heap.size w'.heap.size r (applyP xss ls) ∧ Below w.heap.size w w' := by
  have HC : Hid (∀ w1, Below w.heap.size w w1 → Calls Tryz.prog 22 #[.agg #[.int .i64 n, v]] w1 fun e w' => e = .returned (.bool true) ∧ Below w1.heap.size w1 w') := fun w1 h1 => by
    have := NetworkOk_c n lo hi v vs xss w1 (hv.below h1 hhi) (by have := h1.size; omega)
    rwa [hok] at this
  have hn := netOk_n hok
  have hl60 := netOk_len hok
  have HD : Hid (∀ w1, Below w.heap.size w w1 → Calls Tryz.prog 32 #[.agg #[.int .i64 n, v], u] w1 (IntC w1 (applyP xss ls))) := fun w1 h1 =>
    apply_c n lo hi lo2 hi2 n v vs xss u ls w1 (hv.below h1 hhi) (by have := h1.size; omega) (netOk_pair hok) (by omega) (hu.below h1 hh2) (by have := h1.size; omega) hln (by omega) (by omega)
  obtain ⟨ao, g, cap, rfl, -, -, -⟩ := hv.rows
  obtain ⟨bo, b, off, cap2, rfl, -, -, -⟩ := hu
  rw [hln] at HD ⊢
  obtain ⟨S, hS⟩ : ∃ S, S = applyP xss ls := ⟨_, rfl⟩
  rw [← hS] at HD ⊢
  have hnn : ((n : Int) != (n : Int)) = false := by simp
  clear hv hS
  go_enter Tryz.func10, Tryz.ntmps10
  go_wp2_with fail
  obtain ⟨W1, hW1, c0, c1, hsz, hB1, -, -⟩ := box2 w (.int .i64 n) (.slice ao xss.length cap) 25
  rw [hW1]
  clear hW1
  refine (HC.out W1 hB1).mono ?_
  rintro e w2 ⟨rfl, b2⟩
  obtain ⟨d0, d1, z2⟩ := boxC b2 (by omega) c0 c1
  have hB2 := hB1.trans (b2.mono (by omega))
  clear b2 c0 c1
  go_wp2_with fail
  refine (HD.out w2 hB2).mono ?_
  rintro e w3 ⟨r, rfl, o3, b3⟩
  have B3 := Lib.hid (hB2.trans (b3.mono hB2.size))
  have O3 := Lib.hid (Own.mono o3 hB2.size (Nat.le_refl _))
  clear b3 d0 d1 hB1 hB2 o3
  go_wp2
  go_ret2
  exact ⟨r, rfl, O3.out, B3.out⟩
end Go.Proofs.YtiodolbgapjmkaaGreatDoor
