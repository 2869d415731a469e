/- The walk of the law 'FnExactShortestNetwork': if the program's function and the reference's hand back the same network, each in new memory, the law returns true. Conditions: the two contracts. -/
import Derived.Test.YtiodolbgapjmkaaNetC
namespace Go.Proofs.Ytiodolbgapjmkaa
open Go.RowKit
set_option maxRecDepth 100000

set_option maxHeartbeats 2000000 in
theorem FnExactShortestNetwork_core (a0 : Int) (w : World) (n : Int) (xss : List (List Int)) (bb : Bool) (hsm : smallR xss)
    (hs : ∀ w, Calls Try.prog 76 #[.int .i64 a0] w (NetC w n xss bb)) (hi : ∀ w, Calls Try.prog 77 #[.int .i64 a0] w (NetC w n xss bb)) :
    Calls Try.prog 10 #[.int .i64 a0] w fun e w' => e = .returned (.bool true) ∧ Below w.heap.size w w' := by
  have HS := Lib.hid hs
  have HI := Lib.hid hi
  have SM := Lib.hid hsm
  have bq : (bb == bb) = true := by simp
  have bq2 : (bb != bb) = false := by simp
  have hsl : xss.length ≤ 4611686018427387904 := by have := hsm.1; omega
  have hso : (1 : Int) + (offs xss xss.length : Nat) ≤ 4611686018427387904 := by have := hsm.2.2; omega
  clear hs hi hsm
  go_enter Try.func10, Try.ntmps10
  go_wp2_with fail
  refine (HS.out _).mono ?_
  rintro e w1 ⟨v0, vs0, rfl, o0, hb1⟩
  obtain ⟨ao0, g0, cap0, e0, -, -, -⟩ := o0.rows
  have O0 := Lib.hid o0
  clear o0
  subst e0
  go_wp2_with fail
  obtain ⟨W2, hW2, c1, c2, hz2, hb2, -, -⟩ := box2 w1 (.int .i64 n) (.slice ao0 xss.length cap0) 30
  rw [hW2]
  clear hW2
  refine (HI.out W2).mono ?_
  rintro e w3 ⟨v3, vs3, rfl, o3, hb3⟩
  obtain ⟨ao3, g3, cap3, e3, -, -, -⟩ := o3.rows
  have O3 := Lib.hid o3
  clear o3
  subst e3
  have hz3 := hb3.size
  have HZ2 := Lib.hid hz2
  have lt2 : w1.heap.size < W2.heap.size := by omega
  have lt3 : w1.heap.size < w3.heap.size := by omega
  clear hz2
  replace c1 := (hb3.cell (p := ⟨w1.heap.size, 0, none⟩) lt2).trans c1
  replace c2 := (hb3.cell (p := ⟨w1.heap.size, 1, none⟩) lt2).trans c2
  go_wp2_with fail
  obtain ⟨W4, hW4, d1, d2, hz4, hb4, -, -⟩ := box2 w3 (.int .i64 n) (.slice ao3 xss.length cap3) 30
  rw [hW4]
  clear hW4
  have HZ4 := Lib.hid hz4
  have lt4 : w3.heap.size < W4.heap.size := by omega
  clear hz4
  replace c1 := (hb4.cell (p := ⟨w1.heap.size, 0, none⟩) lt3).trans c1
  replace c2 := (hb4.cell (p := ⟨w1.heap.size, 1, none⟩) lt3).trans c2
  have q0 : OwnR W4 w.heap.size w1.heap.size (.slice ao0 xss.length cap0) vs0 xss := ((O0.out.below hb2 (Nat.le_refl _)).below hb3 (by omega)).below hb4 (by omega)
  have q3 : OwnR W4 W2.heap.size w3.heap.size (.slice ao3 xss.length cap3) vs3 xss := O3.out.below hb4 (Nat.le_refl _)
  have Q0 := Lib.hid q0
  have Q3 := Lib.hid q3
  clear q0 q3
  refine (eqNetwork_c _ _ _ _ n n _ _ vs3 vs0 xss xss W4 Q3.out Q0.out (by omega) (by omega) (by have := SM.out.1; omega) (fun x hx => by have := SM.out.2.1 x hx; omega)).mono ?_
  rintro e w5 ⟨rfl, hb5⟩
  have hz5 := hb5.size
  replace c1 := (hb5.cell (p := ⟨w1.heap.size, 0, none⟩) (by show w1.heap.size < _; omega)).trans c1
  replace c2 := (hb5.cell (p := ⟨w1.heap.size, 1, none⟩) (by show w1.heap.size < _; omega)).trans c2
  replace d1 := (hb5.cell (p := ⟨w3.heap.size, 0, none⟩) lt4).trans d1
  replace d2 := (hb5.cell (p := ⟨w3.heap.size, 1, none⟩) lt4).trans d2
  rw [show decide (n = n ∧ xss = xss) = true from by simp]
  have R0 := Lib.hid (Q0.out.later hb5)
  have R3 := Lib.hid (Q3.out.later hb5)
  clear Q0 Q3
  go_wp2_with fail
  refine (markNetwork_c W2.heap.size w3.heap.size n _ vs3 xss 1 w5 R3.out (by omega) (by omega) hso hsl).mono ?_
  rintro e w6 ⟨rfl, om, ho6⟩
  have OM := Lib.hid om
  clear om
  have hz6 := ho6.size
  replace c1 := (ho6.cell (p := ⟨w1.heap.size, 0, none⟩) (by show w1.heap.size < _; omega) (Or.inl lt2)).trans c1
  replace c2 := (ho6.cell (p := ⟨w1.heap.size, 1, none⟩) (by show w1.heap.size < _; omega) (Or.inl lt2)).trans c2
  replace d1 := (ho6.cell (p := ⟨w3.heap.size, 0, none⟩) (by show w3.heap.size < _; omega) (Or.inr (Nat.le_refl _))).trans d1
  replace d2 := (ho6.cell (p := ⟨w3.heap.size, 1, none⟩) (by show w3.heap.size < _; omega) (Or.inr (Nat.le_refl _))).trans d2
  have S0 := Lib.hid (ho6.ownR R0.out (Or.inl (by omega)))
  clear R0 R3
  go_wp2_with fail
  refine (heldNetwork_c W2.heap.size w3.heap.size n _ vs3 xss 1 w6 OM.out (by omega) (by omega) hso hsl).mono ?_
  rintro e w7 ⟨rfl, hb7⟩
  have hz7 := hb7.size
  replace c1 := (hb7.cell (p := ⟨w1.heap.size, 0, none⟩) (by show w1.heap.size < _; omega)).trans c1
  replace c2 := (hb7.cell (p := ⟨w1.heap.size, 1, none⟩) (by show w1.heap.size < _; omega)).trans c2
  replace d1 := (hb7.cell (p := ⟨w3.heap.size, 0, none⟩) (by show w3.heap.size < _; omega)).trans d1
  replace d2 := (hb7.cell (p := ⟨w3.heap.size, 1, none⟩) (by show w3.heap.size < _; omega)).trans d2
  go_wp2_with fail
  refine (HI.out w7).mono ?_
  rintro e w8 ⟨v8, vs8, rfl, o8, hb8⟩
  obtain ⟨ao8, g8, cap8, e8, -, -, -⟩ := o8.rows
  have O8 := Lib.hid o8
  clear o8
  subst e8
  have hz8 := hb8.size
  replace c1 := (hb8.cell (p := ⟨w1.heap.size, 0, none⟩) (by show w1.heap.size < _; omega)).trans c1
  replace c2 := (hb8.cell (p := ⟨w1.heap.size, 1, none⟩) (by show w1.heap.size < _; omega)).trans c2
  replace d1 := (hb8.cell (p := ⟨w3.heap.size, 0, none⟩) (by show w3.heap.size < _; omega)).trans d1
  replace d2 := (hb8.cell (p := ⟨w3.heap.size, 1, none⟩) (by show w3.heap.size < _; omega)).trans d2
  have lt8 : w1.heap.size < w8.heap.size := by omega
  have lt8' : w3.heap.size < w8.heap.size := by omega
  go_wp2_with fail
  obtain ⟨W9, hW9, f1, f2, hz9, hb9, -, -⟩ := box2 w8 (.int .i64 n) (.slice ao8 xss.length cap8) 30
  rw [hW9]
  clear hW9
  have HZ9 := Lib.hid hz9
  have lt9 : w8.heap.size < W9.heap.size := by omega
  clear hz9
  replace c1 := (hb9.cell (p := ⟨w1.heap.size, 0, none⟩) (by show w1.heap.size < _; omega)).trans c1
  replace c2 := (hb9.cell (p := ⟨w1.heap.size, 1, none⟩) (by show w1.heap.size < _; omega)).trans c2
  replace d1 := (hb9.cell (p := ⟨w3.heap.size, 0, none⟩) (by show w3.heap.size < _; omega)).trans d1
  replace d2 := (hb9.cell (p := ⟨w3.heap.size, 1, none⟩) (by show w3.heap.size < _; omega)).trans d2
  have T0 := Lib.hid (((S0.out.later hb7).later hb8).later hb9)
  have T3 := Lib.hid (((OM.out.later hb7).later hb8).later hb9)
  have T8 := Lib.hid (O8.out.later hb9)
  refine (eqNetwork_c _ _ _ _ n n _ _ vs8 vs0 xss xss W9 T8.out T0.out (by omega) (by omega) (by have := SM.out.1; omega) (fun x hx => by have := SM.out.2.1 x hx; omega)).mono ?_
  rintro e wa ⟨rfl, hba⟩
  have hza := hba.size
  replace d1 := (hba.cell (p := ⟨w3.heap.size, 0, none⟩) (by show w3.heap.size < _; omega)).trans d1
  replace d2 := (hba.cell (p := ⟨w3.heap.size, 1, none⟩) (by show w3.heap.size < _; omega)).trans d2
  clear c1 c2 f1 f2
  rw [show decide (n = n ∧ xss = xss) = true from by simp]
  have U3 := Lib.hid (T3.out.later hba)
  go_wp2_with fail
  refine (heldNetwork_c W2.heap.size w3.heap.size n _ vs3 xss 1 wa U3.out (by omega) (by omega) hso hsl).mono ?_
  rintro e wb ⟨rfl, hbb⟩
  clear d1 d2
  have hall : Below w.heap.size w wb := by
    have z2 := HZ2.out
    have z4 := HZ4.out
    have hz1 := hb1.size
    have k5 : Below w.heap.size w w5 := (((hb1.trans (hb2.mono (by omega))).trans (hb3.mono (by omega))).trans (hb4.mono (by omega))).trans (hb5.mono (by omega))
    have k6 : Below w.heap.size w w6 := k5.trans (ho6.below (by omega) (by omega))
    exact ((((k6.trans (hb7.mono (by omega))).trans (hb8.mono (by omega))).trans (hb9.mono (by omega))).trans (hba.mono (by omega))).trans (hbb.mono (by omega))
  have HALL := Lib.hid hall
  clear hall
  go_wp2
  go_ret
  exact ⟨rfl, HALL.out⟩
end Go.Proofs.Ytiodolbgapjmkaa
