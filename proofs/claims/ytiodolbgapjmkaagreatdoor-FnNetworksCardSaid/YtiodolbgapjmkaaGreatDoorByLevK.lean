/- ByLevels' comparison: levels first, then the lesser wire; by its contract. Conditions: both indices lie in both lists. -/
import Derived.Test.YtiodolbgapjmkaaGreatDoorStabC
import Derived.Test.YtiodolbgapjmkaaGreatDoorNetBits
import Derived.Test.YtiodolbgapjmkaaGreatDoorShelf
import Derived.Deep.RegionHeld3
namespace Go.Proofs.YtiodolbgapjmkaaGreatDoor
open Go.RowKit
set_option maxRecDepth 100000
set_option linter.unusedVariables false
set_option linter.unusedSimpArgs false

def orV (x y : Int) : Int := if x = 0 then y else x
theorem orV_nz {x y : Int} (h : x ≠ 0) : orV x y = x := if_neg h
theorem orV_z {x y : Int} (h : x = 0) : orV x y = y := if_pos h
theorem Or2_c (b : Nat) (x y : Int) (w : World) (h0 : w.cell? ⟨b, 0, none⟩ = some (.int .i64 x)) (h1 : w.cell? ⟨b, 1, none⟩ = some (.int .i64 y)) : Calls Tryz.prog 26 #[.slice (some ⟨b, 0, none⟩) 2 2] w fun e w' => e = .returned (.int .i64 (orV x y)) ∧ w' = w := by
  by_cases hx : x = 0
  · have HE : Hid (orV x y = y) := orV_z hx
    subst hx
    by_cases hy : y = 0
    · subst hy
      go_enter Tryz.func26, Tryz.ntmps26
      go_wp2_with fail
      refine wp_loop_rounds 3 ?_
      rw [rounds_succ]
      go_wp2_with fail
      rw [rounds_succ]
      go_wp2_with fail
      rw [rounds_succ]
      go_wp2_with fail
      go_ret
      exact ⟨by rw [HE.out]; rfl, rfl⟩
    · have t2 : (y != 0) = true := by simp [hy]
      have t3 : (y == 0) = false := by simp [hy]
      go_enter Tryz.func26, Tryz.ntmps26
      go_wp2_with fail
      refine wp_loop_rounds 2 ?_
      rw [rounds_succ]
      go_wp2_with fail
      rw [rounds_succ]
      go_wp2_with fail
      go_ret
      exact ⟨by rw [HE.out]; rfl, rfl⟩
  · have HE : Hid (orV x y = x) := orV_nz hx
    have t1 : (x != 0) = true := by simp [hx]
    have t3 : (x == 0) = false := by simp [hx]
    go_enter Tryz.func26, Tryz.ntmps26
    go_wp2_with fail
    refine wp_loop_rounds 1 ?_
    rw [rounds_succ]
    go_wp2_with fail
    go_ret
    exact ⟨by rw [HE.out]; rfl, rfl⟩
/-- What ByLevels' comparison hands back. -/
def levCmp (ll : List Int) (xss : List (List Int)) (x y : Int) : Int := orV (Lib.compareInt (ll.getD x.toNat 0) (ll.getD y.toNat 0)) (Lib.compareInt (Lib.minOf (xss.getD x.toNat [])) (Lib.minOf (xss.getD y.toNat [])))
set_option maxHeartbeats 4000000 in
theorem byCmp_c (ca cb lo hi lo2 hi2 : Nat) (v : Value) (vs : List Value) (xss : List (List Int)) (lv : Value) (ll : List Int) (w : World) (n : Nat)
    (hca : w.cell? ⟨ca, 0, none⟩ = some lv) (hcb : w.cell? ⟨cb, 1, none⟩ = some v) (hcl : ca < w.heap.size ∧ cb < w.heap.size) (hv : OwnR w lo hi v vs xss) (hhi : hi ≤ w.heap.size) (hl : OwnI w lo2 hi2 lv ll) (hhi2 : hi2 ≤ w.heap.size) (hll : ll.length = xss.length) (hok : netOk n xss = true)
    (x y : Nat) (hx : x < xss.length) (hy : y < xss.length) :
    Calls Tryz.prog 25 #[.int .i64 x, .int .i64 y, .pointer (some ⟨ca, 0, none⟩), .pointer (some ⟨cb, 0, none⟩)] w fun e w' => e = .returned (.int .i64 (levCmp ll xss x y)) ∧ Below w.heap.size w w' := by
  have HE : Hid (orV (Lib.compareInt (ll.getD x 0) (ll.getD y 0)) (Lib.compareInt (Lib.minOf (xss.getD x [])) (Lib.minOf (xss.getD y []))) = levCmp ll xss x y) := rfl
  have HP := netOk_pair hok
  have hl60 := netOk_len hok
  obtain ⟨ao, g, cap, A, G, C, rfl, hcap, hao, hrow⟩ := hv.view
  obtain ⟨rfl, hg1, hg2⟩ := hao (by omega)
  obtain ⟨aol, gl, capl, rfl, hcapl, haol, hrowl⟩ := hl.view
  obtain ⟨rfl, hgl1, hgl2⟩ := haol (by omega)
  obtain ⟨i1, j1, hrx, -, -, -⟩ := HP x hx
  obtain ⟨i2, j2, hry, -, -, -⟩ := HP y hy
  have hlx : (xss.getD x []).length = 2 := by rw [hrx]; rfl
  have hly : (xss.getD y []).length = 2 := by rw [hry]; rfl
  obtain ⟨p1, p2, p3, p4⟩ := hrow x hx
  obtain ⟨r1, r2, r3, r4⟩ := hrow y hy
  obtain ⟨p5, p6, p7⟩ := p3 (by omega)
  obtain ⟨r5, r6, r7⟩ := r3 (by omega)
  obtain ⟨l1, -⟩ := hrowl x (by omega)
  obtain ⟨l2, -⟩ := hrowl y (by omega)
  obtain ⟨RX, hRX⟩ : ∃ R, R = xss.getD x [] := ⟨_, rfl⟩
  obtain ⟨RY, hRY⟩ : ∃ R, R = xss.getD y [] := ⟨_, rfl⟩
  obtain ⟨LX, hLX⟩ : ∃ R, R = ll.getD x 0 := ⟨_, rfl⟩
  obtain ⟨LY, hLY⟩ : ∃ R, R = ll.getD y 0 := ⟨_, rfl⟩
  rw [← hRX] at hlx p1 p4 HE
  rw [← hRY] at hly r1 r4
  rw [← hLX] at l1
  rw [← hLY] at l2
  have HE2 : Hid (orV (Lib.compareInt LX LY) (Lib.compareInt (Lib.minOf RX) (Lib.minOf RY)) = levCmp ll xss x y) := by show _ = _; rw [hLX, hLY, hRX, hRY]; rfl
  rw [p5, hlx] at p1
  rw [r5, hly] at r1
  obtain ⟨gx, hgx⟩ : ∃ q, q = G x := ⟨_, rfl⟩
  obtain ⟨gy, hgy⟩ : ∃ q, q = G y := ⟨_, rfl⟩
  obtain ⟨cx, hcx⟩ : ∃ q, q = C x := ⟨_, rfl⟩
  obtain ⟨cy, hcy⟩ : ∃ q, q = C y := ⟨_, rfl⟩
  rw [← hgx, ← hcx] at p1
  rw [← hgy, ← hcy] at r1
  rw [← hgx] at p4 p7
  rw [← hgy] at r4 r7
  obtain ⟨LL, hLL⟩ : ∃ q, q = ll.length := ⟨_, rfl⟩
  obtain ⟨XL, hXL⟩ : ∃ q, q = xss.length := ⟨_, rfl⟩
  rw [← hLL] at hca
  rw [← hXL] at hcb
  have hMX := Tryz.slices_Min_int gx 0 2 cx RX w.drew (by omega) (by omega) (by omega) (fun j hj => by rw [Nat.zero_add]; exact p4 j hj)
  have hMY := Tryz.slices_Min_int gy 0 2 cy RY w.drew (by omega) (by omega) (by omega) (fun j hj => by rw [Nat.zero_add]; exact r4 j hj)
  rw [List.take_of_length_le (by omega)] at hMX hMY
  have HMX := Lib.hid hMX
  have HMY := Lib.hid hMY
  have d1 : w.drew.cell? ⟨ca, 0, none⟩ = some (.slice (some ⟨gl, 0, none⟩) LL capl) := hca
  have d2 : w.drew.cell? ⟨cb, 1, none⟩ = some (.slice (some ⟨g, 0, none⟩) XL cap) := hcb
  have d3 : w.drew.cell? ⟨gl, x, none⟩ = some (.int .i64 LX) := l1
  have d4 : w.drew.cell? ⟨gl, y, none⟩ = some (.int .i64 LY) := l2
  have d5 : w.drew.cell? ⟨g, x, none⟩ = some (.slice (some ⟨gx, 0, none⟩) 2 cx) := p1
  have d6 : w.drew.cell? ⟨g, y, none⟩ = some (.slice (some ⟨gy, 0, none⟩) 2 cy) := r1
  have hA : ∀ (o : Obj) (p : Addr) (v : Value), p.block < w.heap.size → w.drew.cell? p = some v → (w.drew.alloc o).cell? p = some v := fun o p v hp h => (((Below.refl w.heap.size w.drew).alloc (Nat.le_refl _) o).cell hp).trans h
  have q1 := fun o => hA o _ _ hcl.1 d1
  have q2 := fun o => hA o _ _ hcl.2 d2
  have q3 := fun o => hA o _ _ (by show gl < _; omega) d3
  have q4 := fun o => hA o _ _ (by show gl < _; omega) d4
  have q5 := fun o => hA o _ _ (by show g < _; omega) d5
  have q6 := fun o => hA o _ _ (by show g < _; omega) d6
  have HB := Lib.hid (fun o : Obj => ((Below.refl w.heap.size w).alloc (Nat.le_refl _) o).drew)
  have HOR := Lib.hid (fun a b : Int => Or2_c w.heap.size a b (w.alloc (.cells #[.int .i64 a, .int .i64 b] 3)).drew (blk_cell (blk_new w (.cells #[.int .i64 a, .int .i64 b] 3)) 0) (blk_cell (blk_new w (.cells #[.int .i64 a, .int .i64 b] 3)) 1))
  have e1 : (x : Int) < (LL : Int) := by omega
  have e2 : (y : Int) < (LL : Int) := by omega
  have e3 : (x : Int) < (XL : Int) := by omega
  have e4 : (y : Int) < (XL : Int) := by omega
  clear hA hMX hMY HE p1 p2 p3 p4 p5 p6 r1 r2 r3 r4 r5 r6 l1 l2 hRX hRY hLX hLY hgx hgy hcx hcy hLL hXL hrx hry hlx hly hca hcb hcl hv hl hll hok HP hl60 hcap hao hrow hg1 hg2 hcapl haol hrowl hgl1 hgl2 hx hy hhi hhi2 p7 r7
  go_enter Tryz.func25, Tryz.ntmps25
  go_wp2_with fail
  go_region_held3 (fun W' => W'.cell? ⟨ca, 0, none⟩ = some (.slice (some ⟨gl, 0, none⟩) LL capl) ∧ W'.cell? ⟨cb, 1, none⟩ = some (.slice (some ⟨g, 0, none⟩) XL cap) ∧ W'.cell? ⟨gl, x, none⟩ = some (.int .i64 LX) ∧ W'.cell? ⟨gl, y, none⟩ = some (.int .i64 LY) ∧ W'.cell? ⟨g, x, none⟩ = some (.slice (some ⟨gx, 0, none⟩) 2 cx) ∧ W'.cell? ⟨g, y, none⟩ = some (.slice (some ⟨gy, 0, none⟩) 2 cy)) (first | exact ⟨d1, d2, d3, d4, d5, d6⟩ | exact ⟨q1 _, q2 _, q3 _, q4 _, q5 _, q6 _⟩ | fail) (first | (go_at_call 27; (with_reducible refine (Tryz.cmp_Compare_int _ _ _).mono ?_); rintro e w' ⟨rfl, rfl⟩) | (go_at_call 28; (with_reducible refine HMX.out.mono ?_); rintro e w' ⟨rfl, rfl⟩) | (go_at_call 28; (with_reducible refine HMY.out.mono ?_); rintro e w' ⟨rfl, rfl⟩) | (go_at_call 26; (with_reducible refine (HOR.out _ _).mono ?_); rintro e w' ⟨rfl, rfl⟩) | fail)
  all_goals
    go_wp2
    go_ret
    exact ⟨by rw [← HE2.out]; rfl, HB.out _⟩
set_option maxHeartbeats 4000000 in
theorem SortStable_c (w0 : World) (g L cap lo hi ca cb : Nat) (cf : Int → Int → Int) (key : Int → Int) (HK : CmpOk w0 g L ca cb cf key) (l0 : List Int) (w : World) (hw : But w0.heap.size g w0 w) (hg : g < w0.heap.size) (hL : l0.length = L) (hL21 : L ≤ 21) (hbl : belowL L l0)
    (ho : OwnI w lo hi (.slice (some ⟨g, 0, none⟩) L cap) l0) (hhi : hi ≤ w0.heap.size) :
    Calls Tryz.prog 24 #[.slice (some ⟨g, 0, none⟩) L cap, .func (.func 25) #[] #[.pointer (some ⟨ca, 0, none⟩), .pointer (some ⟨cb, 0, none⟩)]] w
      fun e w' => e = .returned (.tuple #[]) ∧ ∃ l, SortP key l0 l 0 L ∧ OwnI w' lo hi (.slice (some ⟨g, 0, none⟩) L cap) l ∧ But w0.heap.size g w0 w' := by
  have HC := Lib.hid (stable_c w0 g L cap lo hi ca cb cf key HK l0 w hw hg hL hL21 hbl ho hhi)
  clear HK hw hL hbl ho
  go_enter Tryz.func24, Tryz.ntmps24
  go_wp2_with (go_at_call 53; refine HC.out.mono ?_; rintro e w1 ⟨rfl, l, hs, ho, hw⟩)
  go_end0
  exact ⟨rfl, l, hs, ho, hw⟩
end Go.Proofs.YtiodolbgapjmkaaGreatDoor
