/- The program's network sorted by levels, by its contract. Conditions: the network is valid and has at most 21 comparators. -/
import Derived.Test.YtiodolbgapjmkaaGreatDoorByLevK
import Derived.Test.YtiodolbgapjmkaaGreatDoorLevels
import Derived.Test.YtiodolbgapjmkaaGreatDoorCopy
import Derived.Test.YtiodolbgapjmkaaGreatDoorPast
import Derived.Test.YtiodolbgapjmkaaGreatDoorWires
import Derived.Test.YtiodolbgapjmkaaGreatDoorDraw
import Derived.Deep.OwnRows
namespace Go.Proofs.YtiodolbgapjmkaaGreatDoor
open Go.RowKit
set_option maxRecDepth 100000
set_option linter.unusedVariables false
set_option linter.unusedSimpArgs false

/-- The rows in an order. -/
def rowsAt (xss : List (List Int)) (l : List Int) : List (List Int) := l.map fun x => xss.getD x.toNat []
theorem rowsAt_len (xss : List (List Int)) (l : List Int) : (rowsAt xss l).length = l.length := by simp [rowsAt]
/-- Levels first, then the lesser wire. -/
def levKey (xss : List (List Int)) (x : Int) : Int := (levelsP xss xss.length).getD x.toNat 0 * 64 + Lib.minOf (xss.getD x.toNat [])
theorem minOf_two (a b : Int) : Lib.minOf [a, b] = min a b := by simp [Lib.minOf]
theorem compareInt_neg (x y : Int) : (Lib.compareInt x y < 0 ↔ x < y) ∧ (Lib.compareInt x y = 0 ↔ x = y) := by
  unfold Lib.compareInt
  split
  · omega
  · split <;> omega
theorem levCmp_sign {n : Nat} {xss : List (List Int)} (hok : netOk n xss = true) (x y : Int) (hx : 0 ≤ x) (hx2 : x < xss.length) (hy : 0 ≤ y) (hy2 : y < xss.length) : levCmp (levelsP xss xss.length) xss x y < 0 ↔ levKey xss x < levKey xss y := by
  have h8 := netOk_n hok
  obtain ⟨i1, j1, h1, a1, b1, -⟩ := netOk_pair hok x.toNat (by omega)
  obtain ⟨i2, j2, h2, a2, b2, -⟩ := netOk_pair hok y.toNat (by omega)
  unfold levCmp levKey
  rw [h1, h2, minOf_two, minOf_two]
  have c1 := compareInt_neg ((levelsP xss xss.length).getD x.toNat 0) ((levelsP xss xss.length).getD y.toNat 0)
  have c2 := compareInt_neg (min (i1 : Int) j1) (min (i2 : Int) j2)
  unfold orV
  split
  · rename_i h
    have := c1.2.1 h
    omega
  · rename_i h
    have : ¬ (levelsP xss xss.length).getD x.toNat 0 = (levelsP xss xss.length).getD y.toNat 0 := fun e => h (c1.2.2 e)
    omega
/-- The rows in the order of the key. -/
def ByC (w : World) (n : Int) (xss : List (List Int)) (e : Ending) (w' : World) : Prop :=
  ∃ l, SortP (levKey xss) (upI 0 xss.length) l 0 xss.length ∧ NetC w n (rowsAt xss l) true e w'
set_option maxHeartbeats 8000000 in
theorem ByLevels_y (n : Nat) (lo hi : Nat) (v : Value) (vs : List Value) (xss : List (List Int)) (w : World) (hv : OwnR w lo hi v vs xss) (hhi : hi ≤ w.heap.size) (hok : netOk n xss = true) (h21 : xss.length ≤ 21) :
    Calls Tryz.prog 6 #[.agg #[.int .i64 n, v]] w (ByC w n xss) := by
  have HC : Hid (∀ w1, Below w.heap.size w w1 → Calls Tryz.prog 22 #[.agg #[.int .i64 n, v]] w1 fun e w' => e = .returned (.bool true) ∧ Below w1.heap.size w1 w') := fun w1 h1 => by
    have := NetworkOk_c n lo hi v vs xss w1 (hv.below h1 hhi) (by have := h1.size; omega)
    rwa [hok] at this
  have HLV : Hid (∀ w1, Below w.heap.size w w1 → Calls Tryz.prog 23 #[.agg #[.int .i64 n, v]] w1 (IntC w1 (levelsP xss xss.length))) := fun w1 h1 =>
    levels_c n lo hi v vs xss w1 (hv.below h1 hhi) (by have := h1.size; omega) hok
  have HCM := Lib.hid (fun (ca cb lo2 hi2 : Nat) (lv : Value) (w1 : World) (h1 : Below w.heap.size w w1) => byCmp_c ca cb lo hi lo2 hi2 v vs xss lv (levelsP xss xss.length) w1 n)
  have HV := Lib.hid hv
  have HOK := Lib.hid hok
  have HSG := Lib.hid (levCmp_sign hok)
  have HP := Lib.hid (netOk_pair hok)
  have hn := netOk_n hok
  have hn8 : n ≤ 8 := by omega
  obtain ⟨ao, g, cap, rfl, hcap, hao, hrow⟩ := hv.rows
  have HRW := Lib.hid hrow
  obtain ⟨L, hlen⟩ : ∃ l, l = xss.length := ⟨_, rfl⟩
  have HLEN := Lib.hid hlen
  rw [← hlen] at HC HLV h21 hcap hao HRW HP HSG HV HCM
  unfold ByC
  rw [← hlen]
  clear hv hlen hok hrow hn
  go_enter Tryz.func6, Tryz.ntmps6
  go_wp2_with fail
  obtain ⟨W1, hW1, c0, c1, hsz, hB1, -, -⟩ := box2 w (.int .i64 n) (.slice ao L cap) 25
  have hb9 := blk_new W1 (.cells #[.int .i64 0, .slice none 0 0] 25)
  obtain ⟨W2, hW2⟩ : ∃ W, W = W1.alloc (.cells #[.int .i64 0, .slice none 0 0] 25) := ⟨_, rfl⟩
  have hBa : Below W1.heap.size W1 W2 := by rw [hW2]; exact (Below.refl _ _).alloc (Nat.le_refl _) _
  have hs2 : W2.heap.size = W1.heap.size + 1 := by rw [hW2]; simp
  rw [← hW2] at hb9
  obtain ⟨c0, c1, hz0⟩ := boxC hBa (by omega) c0 c1
  have hB2 : Below w.heap.size w W2 := hB1.trans (hBa.mono (by omega))
  rw [hsz] at hb9
  try rw [hW1, ← hW2]
  have hw2 : w.heap.size + 1 < W2.heap.size := by omega
  clear hW1 hW2 hBa hs2 hsz hB1
  refine (HC.out W2 hB2).mono ?_
  rintro e w2 ⟨rfl, b2⟩
  obtain ⟨c0, c1, hz0⟩ := boxC b2 hz0 c0 c1
  have HR2 := Lib.hid (blk_below hb9 b2 hw2)
  have HB2 : Hid (Below w.heap.size w w2) := hB2.trans (b2.mono (by omega))
  have hw2' : w.heap.size + 1 < w2.heap.size := by have := b2.size; omega
  clear hb9 b2 hB2 HC hw2
  go_wp2_with fail
  refine (HLV.out w2 HB2.out).mono ?_
  rintro e w3 ⟨lv, rfl, ol, b3⟩
  obtain ⟨c0, c1, hz3⟩ := boxC b3 hz0 c0 c1
  have HR3 := Lib.hid (blk_below HR2.out b3 hw2')
  have HB3 : Hid (Below w.heap.size w w3) := HB2.out.trans (b3.mono (by omega))
  have hw3 : w.heap.size + 1 < w3.heap.size := by have := b3.size; omega
  have OL := Lib.hid ol
  have hz23 := b3.size
  obtain ⟨aol, gl, capl, el, hcl, hal, -⟩ := OwnI.view ol
  rw [levelsP_len] at el hcl
  subst el
  clear b3 ol HLV HR2 hal
  go_wp2_with fail
  have hb4 := blk_new w3 (.cells #[.slice aol L capl] 27)
  obtain ⟨W4, hW4⟩ : ∃ W, W = w3.alloc (.cells #[.slice aol L capl] 27) := ⟨_, rfl⟩
  have hs4 : W4.heap.size = w3.heap.size + 1 := by rw [hW4]; simp
  have hB4 : Below w3.heap.size w3 W4 := by rw [hW4]; exact (Below.refl _ _).alloc (Nat.le_refl _) _
  obtain ⟨W5, hW5⟩ : ∃ W, W = W4.alloc (.cells #[] 3) := ⟨_, rfl⟩
  have hB5 : Below W4.heap.size W4 W5 := by rw [hW5]; exact (Below.refl _ _).alloc (Nat.le_refl _) _
  have HO5 : Hid (OwnI W5 (w3.heap.size + 1) W5.heap.size (.slice (some ⟨w3.heap.size + 1, 0, none⟩) 0 0) []) := by
    show OwnI _ _ _ _ _
    rw [← hs4, hW5]
    exact Own.mono (ownI_empty W4) (Nat.le_refl _) (by simp)
  rw [← hW4] at hb4
  have HL5 := Lib.hid (blk_below hb4 hB5 (by omega))
  have HB35 : Hid (Below w3.heap.size w3 W5) := hB4.trans (hB5.mono (by omega))
  have hz5 : w3.heap.size + 1 < W5.heap.size := by rw [hW5]; simp; omega
  rw [← hW4, ← hW5]
  have C0 := Lib.hid c0
  have C1 := Lib.hid c1
  clear hW4 hW5 hb4 hB4 hB5 hs4 c0 c1
  go_loopw [5, 20] (fun v i wr => ∃ k g1 c : Nat, k ≤ L ∧ i = .int .i64 k ∧ v = .slice (some ⟨g1, 0, none⟩) k c ∧ OwnI wr (w3.heap.size + 1) wr.heap.size v (upI 0 k) ∧ Below (w3.heap.size + 1) W5 wr ∧ w3.heap.size + 1 ≤ g1 ∧ g1 < wr.heap.size) (fun _ i _ => L - (intOf i).toNat)
  case atStart => exact ⟨0, _, _, Nat.zero_le _, by go_num, rfl, HO5.out, Below.refl _ _, by omega, by omega⟩
  case round =>
    obtain ⟨k, g1, cp, hk, rfl, rfl, hR, hB, hg1, hg1z⟩ := hrel
    have HR := Lib.hid hR
    have HB := Lib.hid hB
    have hz := hB.size
    have HLU : Hid ((upI 0 k).length ≤ 100000000) := by show _ ≤ _; rw [upI_length]; omega
    clear hR hB
    by_cases hlt : k < L
    · have hik : (k : Int) < (L : Int) := by omega
      have hzr : w3.heap.size + 1 ≤ wr.heap.size := by omega
      go_wp2_with (at_builtin; refine wpList_app_int rfl (.tmp 23) (.tmp 25) rfl wr (k : Int) (w3.heap.size + 1) wr.heap.size _ (upI 0 k) HR.out hzr HLU.out rfl rfl ?_; intro ao7 L7 cap7 w7 hL7 o7 b7 z7; have O7 := Lib.hid o7; have B7 := Lib.hid b7; clear o7 b7)
      have HR3 : Hid (∃ g, ao7 = some ⟨g, 0, none⟩ ∧ L7 = k + 1 ∧ w3.heap.size + 1 ≤ g ∧ g < w7.heap.size) := by
        obtain ⟨aoz, gz, capz, ez, -, haz, -⟩ := OwnI.view O7.out
        have hlz : (upI 0 k ++ [(k : Int)]).length = k + 1 := by simp [upI_length]
        rw [hlz] at ez haz
        injection ez with ez1 ez2 ez3
        obtain ⟨q1, q2, q3⟩ := haz (by omega)
        exact ⟨gz, by rw [ez1]; exact q1, ez2, q2, q3⟩
      obtain ⟨g7, rfl, rfl, h71, h72⟩ := HR3.out
      go_roundw
      case rel => exact ⟨k + 1, g7, cap7, by omega, by go_num, rfl, by rw [upI_succ, Int.zero_add]; exact O7.out, HB.out.trans B7.out, h71, h72⟩
      case measure => simp [intOf]; omega
    · have hik : ¬ (k : Int) < (L : Int) := by omega
      have HE : Hid (k = L) := by show k = L; omega
      obtain ⟨w4, rfl⟩ : ∃ W : World, W = wr := ⟨_, rfl⟩
      have HB34 : Hid (Below w3.heap.size w3 w4) := HB35.out.trans (HB.out.mono (by omega))
      have HBw4 : Hid (Below w.heap.size w w4) := HB3.out.trans (HB34.out.mono (by omega))
      have HR4 := Lib.hid ((HB34.out.block (w.heap.size + 1) (by omega)).trans HR3.out)
      have HL4 := Lib.hid (blk_below HL5.out HB.out (by omega))
      have D0 := Lib.hid ((HB34.out.cell (p := ⟨w.heap.size, 0, none⟩) (by show w.heap.size < w3.heap.size; omega)).trans C0.out)
      have D1 := Lib.hid ((HB34.out.cell (p := ⟨w.heap.size, 1, none⟩) (by show w.heap.size < w3.heap.size; omega)).trans C1.out)
      have OL4 : Hid (OwnI w4 w2.heap.size w3.heap.size (.slice aol L capl) (levelsP xss L)) := Own.below OL.out HB34.out (Nat.le_refl _)
      have HK : Hid (CmpOk w4 g1 L w3.heap.size w.heap.size (levCmp (levelsP xss L) xss) (levKey xss)) := by
        refine ⟨HSG.out, fun W x y hb hx hx2 hy hy2 => ?_⟩
        obtain ⟨x, rfl⟩ : ∃ q : Nat, x = q := ⟨x.toNat, by omega⟩
        obtain ⟨y, rfl⟩ : ∃ q : Nat, y = q := ⟨y.toNat, by omega⟩
        have hb1 : Below (w3.heap.size + 1) w4 W := hb.below (by omega)
        have hbs := hb.size
        have hbw : Below w.heap.size w W := HBw4.out.trans (hb1.mono (by omega))
        exact HCM.out w3.heap.size w.heap.size w2.heap.size w3.heap.size (.slice aol L capl) W hbw
          ((hb1.cell (p := ⟨w3.heap.size, 0, none⟩) (by show w3.heap.size < _; omega)).trans (blk_cell HL4.out 0)) ((hb1.cell (p := ⟨w.heap.size, 1, none⟩) (by show w.heap.size < _; omega)).trans D1.out) ⟨by omega, by omega⟩
          (HV.out.below hbw hhi) (by omega) (Own.below OL4.out hb1 (by omega)) (by omega) (levelsP_len _ _) HOK.out x y (by omega) (by omega)
      have o4 := HR.out
      rw [HE.out] at o4
      have hSS := SortStable_c w4 g1 L cp (w3.heap.size + 1) w4.heap.size w3.heap.size w.heap.size _ _ HK.out (upI 0 L) w4 (But.refl _ _ _) hg1z (upI_length _ _) h21 (fun x hx => by
        simp only [upI, List.mem_map, List.mem_range] at hx
        obtain ⟨i, hi, rfl⟩ := hx
        omega) o4 (Nat.le_refl _)
      have HSS := Lib.hid hSS
      have HE2 := Lib.hid HE.out
      rw [HE.out]
      clear o4 hSS HK HR HE HR3 HO5 HB35 hlt hik hk HLU HB
      go_wp2_with fail
      refine HSS.out.mono ?_
      rintro e w5 ⟨rfl, l, hs, ho, hb⟩
      have HS := Lib.hid hs
      have HO := Lib.hid ho
      have hb5 : Below (w3.heap.size + 1) w4 w5 := hb.below (by omega)
      have HB5 := Lib.hid hb5
      have hz45 := hb.size
      have HR5 := Lib.hid ((hb5.block (w.heap.size + 1) (by omega)).trans HR4.out)
      have d0 := (hb5.cell (p := ⟨w.heap.size, 0, none⟩) (by show w.heap.size < _; omega)).trans D0.out
      have d1 := (hb5.cell (p := ⟨w.heap.size, 1, none⟩) (by show w.heap.size < _; omega)).trans D1.out
      have HB5w : Hid (Below w.heap.size w w5) := HBw4.out.trans (hb5.mono (by omega))
      have HD1 := Lib.hid d1
      have hll : l.length = L := by rw [hs.len, upI_length]
      have HLL := Lib.hid hll
      have HLB : Hid (∀ p, p < L → 0 ≤ l.getD p 0 ∧ l.getD p 0 < L) := fun p hp => belowL_getD (L := L) (l := l) (fun x hx => by
        have := hs.perm.mem_iff.1 hx
        simp only [upI, List.mem_map, List.mem_range] at this
        obtain ⟨i, hi, rfl⟩ := this
        omega) (by omega)
      clear hs ho hb hb5 HSS d1 hll
      have hb6 := blk_new w5 (.cells #[.int .i64 n, .slice none 0 0] 25)
      obtain ⟨W6, hW6⟩ : ∃ W, W = w5.alloc (.cells #[.int .i64 n, .slice none 0 0] 25) := ⟨_, rfl⟩
      have hB6 : Below w5.heap.size w5 W6 := by rw [hW6]; exact (Below.refl _ _).alloc (Nat.le_refl _) _
      have HW6 := Lib.hid hW6
      rw [← hW6] at hb6
      have HN6 : Hid (NB W6 w5.heap.size n (.slice none 0 0) [] []) := ⟨hb6, OwnR.nil _ _ _⟩
      have HB6 := Lib.hid hB6
      clear hW6 hb6 hB6
      go_wp2_with fail
      try rw [← HW6.out]
      clear HL4 HR4 D0 D1 OL4 HL5 C0 C1
      go_loopw [36] (fun t wr => ∃ k : Nat, k ≤ L ∧ t = .int .i64 k ∧ ∃ v us, NB wr w5.heap.size n v us (rowsAt xss (l.take k)) ∧ Below w5.heap.size W6 wr) (fun t _ => L - (intOf t).toNat)
      case atStart => exact ⟨0, Nat.zero_le _, rfl, _, _, HN6.out, Below.refl _ _⟩
      case round =>
        obtain ⟨k, hk, rfl, v, us, hN, hB⟩ := hrel
        have HN := Lib.hid hN
        have HB := Lib.hid hB
        have hXl := hN.lt
        have hzB := hB.size
        obtain ⟨e0, e1, y0, y1⟩ := hN.cells
        have HB56 : Hid (Below w5.heap.size w5 wr) := HB6.out.trans hB
        have hz5w := HB5w.out.size
        have hz56 := HB56.out.size
        have hzw5 : w.heap.size + 1 < w5.heap.size := by omega
        by_cases hlt : k < L
        · have hki : (k : Int) < (L : Int) := by omega
          obtain ⟨q, hq, hqL⟩ : ∃ q : Nat, l.getD k 0 = (q : Int) ∧ q < L := ⟨(l.getD k 0).toNat, by have := HLB.out k hlt; omega, by have := HLB.out k hlt; omega⟩
          have hc := (HO.out.cellAt k (by rw [HLL.out]; exact hlt))
          rw [hq] at hc
          have c1 := (HB56.out.cell (p := ⟨g1, k, none⟩) (by show g1 < _; omega)).trans hc.1
          have d1 := (HB56.out.cell (p := ⟨w.heap.size, 1, none⟩) (by show w.heap.size < _; omega)).trans HD1.out
          obtain ⟨i, j, hr, hi1, hj1, hne⟩ := HP.out q hqL
          obtain ⟨rfl, hg1', hg2'⟩ := hao (by omega)
          obtain ⟨r0, r1⟩ := HRW.out q hqL
          have hbw : Below w.heap.size w wr := HB5w.out.trans (HB56.out.mono (by omega))
          have f0 := (hbw.cell (p := ⟨g, q, none⟩) (by show g < _; omega)).trans r0
          have r2 := OwnI.ints (Own.below r1 hbw hhi)
          obtain ⟨s, hs⟩ : ∃ s, s = vs.getD q undef := ⟨_, rfl⟩
          rw [← hs] at f0 r2
          have HR2 := Lib.hid r2
          have hlen2 : (xss.getD q []).length = 2 := by rw [hr]; rfl
          have HT : Hid (rowsAt xss (l.take (k + 1)) = rowsAt xss (l.take k) ++ [xss.getD q []]) := by
            show _ = _
            rw [take_snoc_getD 0 (by rw [HLL.out]; exact hlt), hq]
            simp [rowsAt]
          have HLN : Hid ((rowsAt xss (l.take k)).length + ([xss.getD q []] : List (List Int)).length ≤ 1000000) := by show _ ≤ _; rw [rowsAt_len, List.length_take]; simp; omega
          have hle : hi ≤ wr.heap.size := by have := hbw.size; omega
          obtain ⟨R, hR⟩ : ∃ R, R = xss.getD q [] := ⟨_, rfl⟩
          rw [← hR] at HR2 hlen2 HT HLN
          have HBX := Lib.hid hN.box
          have HOW := Lib.hid hN.own
          have hqi : (q : Int) < (L : Int) := by omega
          clear hN hB r0 r1 r2 hr hs hR hbw hc hq
          have HR3 : Hid (IntsV wr.drew lo hi s R) := HR2.out.below (B := wr.heap.size) ((Below.refl _ _).drew) hle
          have hr1 : 0 < R.length := by omega
          have hr2 : R.length ≤ 100000000 := by omega
          have hXX : w5.heap.size + 1 ≤ wr.heap.size := by omega
          go_wp2_with fail
          go_region_law (first | (refine wp_app_rows (.tmp 41) (.tmp 48) rfl (wc.alloc (.cells #[.slice ao4 2 cap4] 27)) (w5.heap.size + 1) wr.heap.size _ _ us [.slice ao4 2 cap4] (rowsAt xss (l.take k)) [R] ((HOW.out.later BC.out).alloc _) (ownR_one (lo := wr.heap.size) OC.out zc) hXX (by simp; omega) HLN.out rfl rfl ?_; intro ao5 L5 cap5 w7 us5 hL5 o5 b5 z5; have bx5 := blk_below (blk_old (blk_below HBX.out BC.out hXl) (.cells #[.slice ao4 2 cap4] 27)) b5 (by omega); have g0 := blk_cell bx5 0; have g1 := blk_cell bx5 1; have fr := blk_free bx5 1; have BX5 := Lib.hid bx5; have O5 := Lib.hid o5; have B5 := Lib.hid b5; clear bx5 o5 b5) | (go_simp; go_at_call 29; refine (Clone_c lo hi s R wr.drew HR3.out hle hr1 hr2).mono ?_; rintro e wc ⟨uc, rfl, oc, bc⟩; have bcw : Below wr.heap.size wr wc := undrew bc; have zc := bcw.size; obtain ⟨ao4, g4, cap4, e4, -, -, -⟩ := OwnI.view oc; rw [hlen2] at e4; have OC := Lib.hid oc; subst e4; have BC := Lib.hid bcw; have hXc : w5.heap.size < wc.heap.size := (by omega); have ec := (bcw.cell (p := ⟨w5.heap.size, 1, none⟩) (by show w5.heap.size < _; omega)).trans e1; clear oc bc bcw) | fail)
          all_goals
            have HB5' : Hid (Below w5.heap.size W6 w7) := HB.out.trans ((BC.out.alloc (by omega) _).mono (by omega) |>.trans (B5.out.mono (by omega)))
            go_wp2
            go_roundw
            case rel => exact ⟨k + 1, by omega, by go_num, _, us5, by rw [HT.out]; exact NB.store BX5.out O5.out, HB5'.out.setCell (by show w5.heap.size ≤ w5.heap.size; omega) _⟩
            case measure => simp [intOf]; omega
        · have HE9 : Hid (l.take k = l) := List.take_of_length_le (by rw [HLL.out]; omega)
          have hki : ¬ (k : Int) < (L : Int) := by omega
          have hr9 := (HB56.out.block (w.heap.size + 1) (by omega)).trans HR5.out
          have r0 := blk_cell hr9 0
          have r1 := blk_cell hr9 1
          have y2 := blk_free hr9 0
          have y3 := blk_free hr9 1
          obtain ⟨ao9, g9, cap9, ev, -, -, -⟩ := hN.own.rows
          have HFN : Hid (∃ l, SortP (levKey xss) (upI 0 L) l 0 L ∧ NetC w n (rowsAt xss l) true (.returned (.tuple #[.agg #[.int .i64 n, v], .bool true])) ((wr.setCell ⟨w.heap.size + 1, 0, none⟩ (.int .i64 n)).setCell ⟨w.heap.size + 1, 1, none⟩ v)) := by
            refine ⟨l, HS.out, ?_⟩
            have ho := hN.own
            rw [HE9.out] at ho
            refine ⟨v, us, rfl, ?_, ((HB5w.out.trans (HB56.out.mono (by omega))).setCell (by show w.heap.size ≤ w.heap.size + 1; omega) _).setCell (by show w.heap.size ≤ w.heap.size + 1; omega) _⟩
            exact (set_two_ownR ho (by omega)).mono (by omega) (by simp [World.setCell])
          have z0 := blk_cell (box_set1 (y := v) (box_set0 (y := .int .i64 n) hr9)) 0
          have z1 := blk_cell (box_set1 (y := v) (box_set0 (y := .int .i64 n) hr9)) 1
          obtain ⟨M9, hM9⟩ : ∃ M, M = (rowsAt xss (l.take k)).length := ⟨_, rfl⟩
          rw [← hM9] at ev
          subst ev
          have hXw : w.heap.size + 1 ≠ w5.heap.size := by omega
          clear hN hB HN hr9 hM9
          go_wp2
          exact bodyPost_ret (v := .tuple #[.agg #[.int .i64 n, .slice ao9 M9 cap9], .bool true]) (by simp [results, Tryz.results6, go_sem, z0, z1]) rfl HFN.out
end Go.Proofs.YtiodolbgapjmkaaGreatDoor
