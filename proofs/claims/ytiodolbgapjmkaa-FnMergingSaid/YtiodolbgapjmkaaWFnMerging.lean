/- The walk of the law FnMerging: it returns true, whatever the code. Conditions: none. -/
import Derived.Test.YtiodolbgapjmkaaPMerg
import Derived.Test.YtiodolbgapjmkaaMake
import Derived.Deep.DeepCutAuto
import Derived.Deep.RegionHeld3
namespace Go.Proofs.Ytiodolbgapjmkaa
open Go.RowKit
set_option maxRecDepth 100000
set_option linter.unusedVariables false
set_option linter.unusedSimpArgs false
theorem OddEvenMerge_z (m n s : Nat) (hs : s = m + n) (hb : sizesB m n = true) (h8 : m + n ≤ 8) (w : World) : Calls Try.prog 31 #[.int .i64 m, .int .i64 n] w (NetC w (s : Int) (XOddEvenMerge m n) true) := by
  have h := OddEvenMerge_i_yes m n w hb h8
  rw [show ((m : Int) + n) = ((s : Nat) : Int) by omega] at h
  rwa [show mrgR m n = XOddEvenMerge m n from by unfold XOddEvenMerge; rw [if_pos hb, Int.toNat_natCast, Int.toNat_natCast]] at h
theorem BitonicMerge_z (s : Nat) (hp : powB s = true) (w : World) : Calls Try.prog 41 #[.int .i64 s] w (NetC w (s : Int) (XBitonicMerge s) true) := by
  have h := BitonicMerge_i_c s w
  rwa [if_pos hp, hp] at h

set_option maxHeartbeats 4000000 in
theorem FnMerging_core (w : World) (N : Nat) (cv : Value) (hv : BytesV w w.heap.size cv N) : Calls Try.prog 5 #[cv] w fun e w' => e = .returned (.bool true) ∧ Below w.heap.size w w' := by
  have HV := Lib.hid hv
  obtain ⟨cao, cb, coff, ccap, ecv, -, -, -⟩ := id hv
  subst ecv
  clear hv
  by_cases hN : N ≤ 1048576
  rotate_left
  · have hN' : (1048576 : Int) < (N : Int) := by omega
    go_enter Try.func5, Try.ntmps5
    go_wp2_with fail
    go_ret
    exact ⟨rfl, Below.refl _ _⟩
  have hN' : ¬ (1048576 : Int) < (N : Int) := by omega
  go_enter Try.func5, Try.ntmps5
  have BA : Hid (Below w.heap.size w w) := Below.refl _ _
  have ZA : w.heap.size ≤ w.heap.size := Nat.le_refl _
  go_wp2_with fail
  refine (MakeSize_c w.heap.size N 0 (0) (4) _ w (HV.out.kept fun k hk => BA.out.block k hk) ZA hN (by omega) (by omega) (by omega)).mono ?_
  rintro e w1 ⟨m, rfl, m_lo, m_hi, b_w1⟩
  have z_w1 := b_w1.size
  replace BA : Hid (Below w.heap.size w w1) := BA.out.trans (b_w1.mono (by omega))
  replace ZA : w.heap.size ≤ w1.heap.size := (by omega)
  clear b_w1
  go_wp2_with fail
  refine (MakeSize_c w.heap.size N 1 (0) (3) _ w1 (HV.out.kept fun k hk => BA.out.block k hk) ZA hN (by omega) (by omega) (by omega)).mono ?_
  rintro e w2 ⟨p, rfl, p_lo, p_hi, b_w2⟩
  have z_w2 := b_w2.size
  replace BA : Hid (Below w.heap.size w w2) := BA.out.trans (b_w2.mono (by omega))
  replace ZA : w.heap.size ≤ w2.heap.size := (by omega)
  clear b_w2
  go_wp2_with fail
  refine (MakeSize_c w.heap.size N 2 (0) (1) _ w2 (HV.out.kept fun k hk => BA.out.block k hk) ZA hN (by omega) (by omega) (by omega)).mono ?_
  rintro e w3 ⟨q, rfl, q_lo, q_hi, b_w3⟩
  have z_w3 := b_w3.size
  replace BA : Hid (Below w.heap.size w w3) := BA.out.trans (b_w3.mono (by omega))
  replace ZA : w.heap.size ≤ w3.heap.size := (by omega)
  clear b_w3
  go_upto_if 35 with fail
  go_cut [4] (fun s wx => (∃ n : Nat, s = .int .i64 n ∧ n ≤ 4 ∧ 1 ≤ m + n) ∧ w3 = wx)
  case first =>
    by_cases h0 : m + (p + q) = 0
    · have t0 : ((m : Int) + ((p : Int) + (q : Int)) == 0) = true := by rw [beq_iff_eq]; omega
      have HM0 : Hid (m = 0) := by show m = 0; omega
      go_wp2_with fail
      go_meet
      case rel => exact ⟨⟨1, rfl, by omega, by omega⟩, rfl⟩
    · have t0 : ((m : Int) + ((p : Int) + (q : Int)) == 0) = false := by rw [beq_eq_false_iff_ne]; omega
      go_wp2_with fail
      go_meet
      case rel => exact ⟨⟨p + q, by go_num, by omega, by omega⟩, rfl⟩
  case rest =>
    obtain ⟨⟨n, rfl, hn4, hmn1⟩, rfl⟩ := hcut
    clear p_lo p_hi q_lo q_hi
    obtain ⟨s, hs⟩ : ∃ s, s = m + n := ⟨_, rfl⟩
    have F := Lib.hid (fin_merg m n m_hi hn4 hmn1)
    have HS := Lib.hid hs
    have hs8 : s ≤ 8 := by omega
    have hmns : (m : Int) + (n : Int) = (s : Int) := by omega
    clear hs
    go_wp2_with fail
    refine (OddEvenMerge_z m n s HS.out F.out.1 (by omega) w3).mono ?_
    rintro e w4 ⟨qx, usx, rfl, ox, b_w4⟩
    obtain ⟨xx, hxx⟩ : ∃ X, X = XOddEvenMerge m n := ⟨_, rfl⟩
    rw [← hxx] at ox
    have HXx := Lib.hid hxx
    clear hxx
    obtain ⟨aox, gx, capx, ex, -, -, -⟩ := ox.rows
    obtain ⟨Lx, hLx⟩ : ∃ L, L = xx.length := ⟨_, rfl⟩
    rw [← hLx] at ex
    subst ex
    have HNx := Lib.hid hLx
    clear hLx
    have z_w4 := b_w4.size
    replace BA : Hid (Below w.heap.size w w4) := BA.out.trans (b_w4.mono (by omega))
    replace ZA : w.heap.size ≤ w4.heap.size := (by omega)
    clear b_w4
    have Ox := Lib.hid ox
    clear ox
    go_upto_region 8 with fail
    obtain ⟨w5, hWw5, cx0, cx1, hzw5, b_w5, -, -⟩ := box2 w4 (.int .i64 s) (.slice aox Lx capx) 30
    rw [hWw5]
    clear hWw5
    have zz_w5 : w4.heap.size < w5.heap.size := (by omega)
    clear hzw5
    have z_w5 := b_w5.size
    replace Ox := Lib.hid (Ox.out.later b_w5)
    replace BA : Hid (Below w.heap.size w w5) := BA.out.trans (b_w5.mono (by omega))
    replace ZA : w.heap.size ≤ w5.heap.size := (by omega)
    clear b_w5
    have yx : w4.heap.size < w5.heap.size := zz_w5
    go_wp2_with fail
    refine (MakeList_c w.heap.size N 20 (m) _ w5 (HV.out.kept fun k hk => BA.out.block k hk) ZA hN (by omega) (by omega)).mono ?_
    rintro e w6 ⟨qe, xe, rfl, hle, hxe, oe, b_w6⟩
    obtain ⟨aoe, ge, cape, ee, -, -, -⟩ := OwnI.view oe
    obtain ⟨Le, hLe⟩ : ∃ L, L = xe.length := ⟨_, rfl⟩
    rw [← hLe] at ee
    subst ee
    have HNe := Lib.hid hLe
    clear hLe
    have z_w6 := b_w6.size
    replace Ox := Lib.hid (Ox.out.later b_w6)
    replace cx0 := (b_w6.cell (p := ⟨w4.heap.size, 0, none⟩) (by show w4.heap.size < _; omega)).trans cx0
    replace cx1 := (b_w6.cell (p := ⟨w4.heap.size, 1, none⟩) (by show w4.heap.size < _; omega)).trans cx1
    replace BA : Hid (Below w.heap.size w w6) := BA.out.trans (b_w6.mono (by omega))
    replace ZA : w.heap.size ≤ w6.heap.size := (by omega)
    replace yx : w4.heap.size < w6.heap.size := (by omega)
    clear b_w6
    have Oe := Lib.hid oe
    clear oe
    have HLe := Lib.hid hle
    have HXe := Lib.hid hxe
    clear hle hxe
    go_wp2_with fail
    refine (lawSorted_c _ _ _ xe w6 (OwnI.ints Oe.out) (by omega) (by rw [HLe.out]; omega)).mono ?_
    rintro e w7 ⟨qa, rfl, oa, b_w7⟩
    obtain ⟨xa, hxa⟩ : ∃ X, X = sortI xe := ⟨_, rfl⟩
    rw [← hxa] at oa
    have HXa := Lib.hid hxa
    clear hxa
    obtain ⟨aoa, ga, capa, ea, -, -, -⟩ := OwnI.view oa
    obtain ⟨La, hLa⟩ : ∃ L, L = xa.length := ⟨_, rfl⟩
    rw [← hLa] at ea
    subst ea
    have HNa := Lib.hid hLa
    clear hLa
    have z_w7 := b_w7.size
    replace Ox := Lib.hid (Ox.out.later b_w7)
    replace Oe := Lib.hid (Oe.out.later b_w7)
    replace cx0 := (b_w7.cell (p := ⟨w4.heap.size, 0, none⟩) (by show w4.heap.size < _; omega)).trans cx0
    replace cx1 := (b_w7.cell (p := ⟨w4.heap.size, 1, none⟩) (by show w4.heap.size < _; omega)).trans cx1
    replace BA : Hid (Below w.heap.size w w7) := BA.out.trans (b_w7.mono (by omega))
    replace ZA : w.heap.size ≤ w7.heap.size := (by omega)
    replace yx : w4.heap.size < w7.heap.size := (by omega)
    clear b_w7
    have Oa := Lib.hid oa
    clear oa
    clear Oe
    go_wp2_with fail
    refine (MakeList_c w.heap.size N 40 (n) _ w7 (HV.out.kept fun k hk => BA.out.block k hk) ZA hN (by omega) (by omega)).mono ?_
    rintro e w8 ⟨qf, xf, rfl, hlf, hxf, of, b_w8⟩
    obtain ⟨aof, gf, capf, ef, -, -, -⟩ := OwnI.view of
    obtain ⟨Lf, hLf⟩ : ∃ L, L = xf.length := ⟨_, rfl⟩
    rw [← hLf] at ef
    subst ef
    have HNf := Lib.hid hLf
    clear hLf
    have z_w8 := b_w8.size
    replace Ox := Lib.hid (Ox.out.later b_w8)
    replace Oa := Lib.hid (Oa.out.later b_w8)
    replace cx0 := (b_w8.cell (p := ⟨w4.heap.size, 0, none⟩) (by show w4.heap.size < _; omega)).trans cx0
    replace cx1 := (b_w8.cell (p := ⟨w4.heap.size, 1, none⟩) (by show w4.heap.size < _; omega)).trans cx1
    replace BA : Hid (Below w.heap.size w w8) := BA.out.trans (b_w8.mono (by omega))
    replace ZA : w.heap.size ≤ w8.heap.size := (by omega)
    replace yx : w4.heap.size < w8.heap.size := (by omega)
    clear b_w8
    have Of := Lib.hid of
    clear of
    have HLf := Lib.hid hlf
    have HXf := Lib.hid hxf
    clear hlf hxf
    go_wp2_with fail
    refine (lawSorted_c _ _ _ xf w8 (OwnI.ints Of.out) (by omega) (by rw [HLf.out]; omega)).mono ?_
    rintro e w9 ⟨qb, rfl, ob, b_w9⟩
    obtain ⟨xb, hxb⟩ : ∃ X, X = sortI xf := ⟨_, rfl⟩
    rw [← hxb] at ob
    have HXb := Lib.hid hxb
    clear hxb
    obtain ⟨aob, gb, capb, eb, -, -, -⟩ := OwnI.view ob
    obtain ⟨Lb, hLb⟩ : ∃ L, L = xb.length := ⟨_, rfl⟩
    rw [← hLb] at eb
    subst eb
    have HNb := Lib.hid hLb
    clear hLb
    have z_w9 := b_w9.size
    replace Ox := Lib.hid (Ox.out.later b_w9)
    replace Oa := Lib.hid (Oa.out.later b_w9)
    replace Of := Lib.hid (Of.out.later b_w9)
    replace cx0 := (b_w9.cell (p := ⟨w4.heap.size, 0, none⟩) (by show w4.heap.size < _; omega)).trans cx0
    replace cx1 := (b_w9.cell (p := ⟨w4.heap.size, 1, none⟩) (by show w4.heap.size < _; omega)).trans cx1
    replace BA : Hid (Below w.heap.size w w9) := BA.out.trans (b_w9.mono (by omega))
    replace ZA : w.heap.size ≤ w9.heap.size := (by omega)
    replace yx : w4.heap.size < w9.heap.size := (by omega)
    clear b_w9
    have Ob := Lib.hid ob
    clear ob
    clear Of
    have HLa : Hid (La = m) := by show _ = _; rw [HNa.out, HXa.out, sortI_len, HLe.out]
    have HLb : Hid (Lb = n) := by show _ = _; rw [HNb.out, HXb.out, sortI_len, HLf.out]
    have HRa : Hid (risesB xa = true) := by show _ = _; rw [HXa.out]; exact rises_sortI _
    have HRb : Hid (risesB xb = true) := by show _ = _; rw [HXb.out]; exact rises_sortI _
    go_wp2_with fail
    refine (MergeLists_i_c _ _ _ _ _ _ xa xb w9 (OwnI.ints Oa.out) (by omega) (by rw [← HNa.out, HLa.out]; omega) (OwnI.ints Ob.out) (by omega) (by rw [← HNb.out, HLb.out]; omega)).mono ?_
    rintro e w10 ⟨qr, rfl, or, b_w10⟩
    obtain ⟨xr, hxr⟩ : ∃ X, X = mergeL xa xb := ⟨_, rfl⟩
    rw [← hxr] at or
    have HXr := Lib.hid hxr
    clear hxr
    obtain ⟨aor, gr, capr, er, -, -, -⟩ := OwnI.view or
    obtain ⟨Lr, hLr⟩ : ∃ L, L = xr.length := ⟨_, rfl⟩
    rw [← hLr] at er
    subst er
    have HNr := Lib.hid hLr
    clear hLr
    have z_w10 := b_w10.size
    replace Ox := Lib.hid (Ox.out.later b_w10)
    replace Oa := Lib.hid (Oa.out.later b_w10)
    replace Ob := Lib.hid (Ob.out.later b_w10)
    replace cx0 := (b_w10.cell (p := ⟨w4.heap.size, 0, none⟩) (by show w4.heap.size < _; omega)).trans cx0
    replace cx1 := (b_w10.cell (p := ⟨w4.heap.size, 1, none⟩) (by show w4.heap.size < _; omega)).trans cx1
    replace BA : Hid (Below w.heap.size w w10) := BA.out.trans (b_w10.mono (by omega))
    replace ZA : w.heap.size ≤ w10.heap.size := (by omega)
    replace yx : w4.heap.size < w10.heap.size := (by omega)
    clear b_w10
    have Or := Lib.hid or
    clear or
    have HMR : Hid (xr = sortI (xa ++ xb)) := by show _ = _; rw [HXr.out, mergeL, if_pos ⟨HRa.out, HRb.out, by rw [← HNa.out, ← HNb.out, HLa.out, HLb.out]; omega⟩]
    have HLr : Hid (Lr = s) := by show _ = _; rw [HNr.out, HMR.out, sortI_len, List.length_append, ← HNa.out, ← HNb.out, HLa.out, HLb.out, HS.out]
    have HAP : Hid (applyP xx (xa ++ xb) = xr) := by show _ = _; rw [HXx.out, HXr.out]; exact merg_list m_hi hn4 hmn1 (by rw [← HNa.out]; exact HLa.out) (by rw [← HNb.out]; exact HLb.out) HRa.out HRb.out
    go_upto_region 11 with fail
    
    have NOK : Hid (netOk (s : Nat) xx = true) := by show _ = _; rw [HXx.out, HS.out]; exact F.out.2.1
    have CAN : Hid (∀ (w1 : World) (l h : Nat) (u : Value), Below w10.heap.size w10 w1 → OwnI w1 l h u ([] ++ xa ++ xb) → h ≤ w1.heap.size → Calls Try.prog 34 #[.agg #[.int .i64 s, .slice aox Lx capx], u] w1 fun e w' => ∃ r, e = .returned (.tuple #[r, .bool true]) ∧ OwnI w' w1.heap.size w'.heap.size r xr ∧ Below w1.heap.size w1 w') := fun w1 l h u h1 h2 h3 => by
      have hl : (([] : List Int) ++ xa ++ xb).length = s := by rw [List.nil_append, List.length_append, ← HNa.out, ← HNb.out, HLa.out, HLb.out, HS.out]
      have h := ApplyNetwork_y s _ _ l h _ usx xx u ([] ++ xa ++ xb) w1 (Ox.out.below h1 (by omega)) (by have := h1.size; omega) NOK.out (OwnI.ints h2) h3 hl
      rwa [List.nil_append, HAP.out] at h
    have HE0 : Hid (OwnI (w10.drew.alloc (.cells #[] 3)) w10.heap.size (w10.heap.size + 1) (.slice (some ⟨w10.heap.size, 0, none⟩) 0 0) []) := ownI_empty w10.drew
    have HEb : Hid (Below w10.heap.size w10 (w10.drew.alloc (.cells #[] 3))) := ((Below.refl _ _).drew).alloc (Nat.le_refl _) _
    have HEa : Hid (IntsV (w10.drew.alloc (.cells #[] 3)) 0 w10.heap.size (.slice aoa La capa) xa) := ((OwnI.ints Oa.out).below HEb.out (by omega)).mono (Nat.zero_le _) (by omega)
    have HEz : Hid (w10.heap.size ≤ (w10.drew.alloc (.cells #[] 3)).heap.size) := by show _ ≤ _; simp
    have HL0 : Hid (([] : List Int).length + xa.length ≤ 1000000000) := by show _ ≤ _; rw [← HNa.out, HLa.out]; simp; omega
    have HL1 : Hid ((([] : List Int) ++ xa).length + xb.length ≤ 1000000000) := by show _ ≤ _; rw [List.nil_append, ← HNa.out, HLa.out, ← HNb.out, HLb.out]; omega
    have dx0 : w10.drew.cell? ⟨w4.heap.size, 0, none⟩ = some (.int .i64 s) := cx0
    have dx1 : w10.drew.cell? ⟨w4.heap.size, 1, none⟩ = some (.slice aox Lx capx) := cx1
    have ex0 : (w10.drew.alloc (.cells #[] 3)).cell? ⟨w4.heap.size, 0, none⟩ = some (.int .i64 s) := (HEb.out.cell (p := ⟨w4.heap.size, 0, none⟩) (by show w4.heap.size < _; omega)).trans cx0
    have ex1 : (w10.drew.alloc (.cells #[] 3)).cell? ⟨w4.heap.size, 1, none⟩ = some (.slice aox Lx capx) := (HEb.out.cell (p := ⟨w4.heap.size, 1, none⟩) (by show w4.heap.size < _; omega)).trans cx1
    go_region_held3 (fun W' => W'.cell? ⟨w4.heap.size, 0, none⟩ = some (.int .i64 s) ∧ W'.cell? ⟨w4.heap.size, 1, none⟩ = some (.slice aox Lx capx)) (first | exact ⟨hx0, hx1⟩ | exact ⟨gx0, gx1⟩ | exact ⟨fx0, fx1⟩ | exact ⟨ex0, ex1⟩ | exact ⟨dx0, dx1⟩ | fail) (first | (go_at_call 34; (with_reducible refine (CAN.out u2 _ _ _ Q2.out O2.out (Nat.le_refl _)).mono ?_); rintro e u3 ⟨r3, rfl, o3, b3⟩; have O3 := Lib.hid o3; have Q3 : Hid (Below w10.heap.size w10 u3) := Q2.out.trans (b3.mono Q2.out.size); have hx0 := (Q3.out.cell (p := ⟨w4.heap.size, 0, none⟩) (by show w4.heap.size < _; omega)).trans cx0; have hx1 := (Q3.out.cell (p := ⟨w4.heap.size, 1, none⟩) (by show w4.heap.size < _; omega)).trans cx1; clear o3 b3) | (refine wp_app_ints (.tmp 57) (.tmp 58) rfl u1 w10.heap.size u1.heap.size 0 w10.heap.size _ _ ([] ++ xa) xb O1.out HEb1.out z1 HL1.out rfl rfl ?_; intro ao6 L6 cap6 u2 hL6 o2 q2 z2; have O2 := Lib.hid o2; have Q2 : Hid (Below w10.heap.size w10 u2) := Q1.out.trans q2; have gx0 := (Q2.out.cell (p := ⟨w4.heap.size, 0, none⟩) (by show w4.heap.size < _; omega)).trans cx0; have gx1 := (Q2.out.cell (p := ⟨w4.heap.size, 1, none⟩) (by show w4.heap.size < _; omega)).trans cx1; clear o2 q2) | (refine wp_app_ints (.tmp 55) (.tmp 56) rfl (w10.drew.alloc (.cells #[] 3)) w10.heap.size (w10.heap.size + 1) 0 w10.heap.size _ _ [] xa HE0.out HEa.out HEz.out HL0.out rfl rfl ?_; intro ao5 L5 cap5 u1 hL5 o1 q1 z1; have O1 := Lib.hid o1; have Q1 : Hid (Below w10.heap.size w10 u1) := HEb.out.trans q1; have HEb1 : Hid (IntsV u1 0 w10.heap.size (.slice aob Lb capb) xb) := ((OwnI.ints Ob.out).below Q1.out (by omega)).mono (Nat.zero_le _) (by omega); have fx0 := (Q1.out.cell (p := ⟨w4.heap.size, 0, none⟩) (by show w4.heap.size < _; omega)).trans cx0; have fx1 := (Q1.out.cell (p := ⟨w4.heap.size, 1, none⟩) (by show w4.heap.size < _; omega)).trans cx1; clear o1 q1) | fail)
    obtain ⟨aoo, go, capo, eo, -, -, -⟩ := OwnI.view O3.out
    rw [← HNr.out] at eo
    subst eo
    have b_u3 := Q3.out
    have Oo := Lib.hid O3.out
    clear O1 O2 O3 Q1 Q2 Q3 HEb1 HE0 HEb HEa HEz HL0 HL1 CAN dx0 dx1 ex0 ex1 fx0 fx1 gx0 gx1 hx0 hx1 hL5 hL6 z1 z2
    have z_u3 := b_u3.size
    replace Ox := Lib.hid (Ox.out.later b_u3)
    replace Oa := Lib.hid (Oa.out.later b_u3)
    replace Ob := Lib.hid (Ob.out.later b_u3)
    replace Or := Lib.hid (Or.out.later b_u3)
    replace cx0 := (b_u3.cell (p := ⟨w4.heap.size, 0, none⟩) (by show w4.heap.size < _; omega)).trans cx0
    replace cx1 := (b_u3.cell (p := ⟨w4.heap.size, 1, none⟩) (by show w4.heap.size < _; omega)).trans cx1
    replace BA : Hid (Below w.heap.size w u3) := BA.out.trans (b_u3.mono (by omega))
    replace ZA : w.heap.size ≤ u3.heap.size := (by omega)
    replace yx : w4.heap.size < u3.heap.size := (by omega)
    clear b_u3
    clear Oa
    clear Ob
    have CIM : Hid (∀ w', Below u3.heap.size u3 w' → Calls Try.prog 35 #[.agg #[.int .i64 s, .slice aox Lx capx], .int .i64 m] w' fun e w'' => e = .returned (.bool true) ∧ Below w'.heap.size w' w'') := fun w' h1 => by
      have := IsMerging_i_c s _ _ _ usx xx m w' (Ox.out.below h1 (by omega)) (by have := h1.size; omega)
      rwa [show mergingR (s : Int) xx m = true from by rw [HXx.out, HS.out]; exact F.out.2.2.1] at this
    have CIS : Hid (∀ w', Below u3.heap.size u3 w' → Calls Try.prog 39 #[.agg #[.int .i64 s, .slice aox Lx capx]] w' fun e w'' => e = .returned (.bool true) ∧ Below w'.heap.size w' w'') := fun w' h1 => by
      have := IsStandard_y s _ _ _ usx xx w' (Ox.out.below h1 (by omega)) (by have := h1.size; omega) NOK.out
      rwa [show stdB xx = true from by rw [HXx.out]; exact F.out.2.2.2.1] at this
    have CMA : Hid (∀ w', Calls Try.prog 36 #[.int .i64 m, .int .i64 n] w' fun e w'' => e = .returned (.int .i64 Lx) ∧ Below w'.heap.size w' w'') := fun w' => by
      have := MergeSize_i m n w'
      rwa [F.out.2.2.2.2.1, ← HXx.out, ← HNx.out] at this
    have CMB : Hid (∀ w', Calls Try.prog 36 #[.int .i64 n, .int .i64 m] w' fun e w'' => e = .returned (.int .i64 Lx) ∧ Below w'.heap.size w' w'') := fun w' => by
      have := MergeSize_i n m w'
      rwa [F.out.2.2.2.2.2.1, ← HXx.out, ← HNx.out] at this
    have CSA : Hid (∀ w', Below u3.heap.size u3 w' → Calls Try.prog 37 #[.slice aoo Lr capo, .slice aor Lr capr] w' fun e w'' => e = .returned (.bool true) ∧ Below w'.heap.size w' w'') := fun w' h1 => by
      have := same_c _ _ _ _ _ _ xr xr w' ((OwnI.ints Oo.out).below h1 (by omega)) ((OwnI.ints Or.out).below h1 (by omega)) (by have := h1.size; omega) (by have := h1.size; omega) (by rw [← HNr.out, HLr.out]; omega)
      rwa [decide_eq_true rfl] at this
    have CRI : Hid (∀ w', Below u3.heap.size u3 w' → Calls Try.prog 38 #[.slice aor Lr capr] w' fun e w'' => e = .returned (.bool true) ∧ Below w'.heap.size w' w'') := fun w' h1 => by
      have := rises_c _ _ _ xr w' ((OwnI.ints Or.out).below h1 (by omega)) (by have := h1.size; omega) (by rw [← HNr.out, HLr.out]; omega)
      rwa [show risesB xr = true from by rw [HMR.out]; exact rises_sortI _] at this
    have tl0 : ((Lr : Int) != (s : Int)) = false := by rw [HLr.out]; simp
    have tl1 : ((Lx : Int) != (Lx : Int)) = false := by simp
    
    go_wp2_with fail
    refine wp_region_later u3.heap.size u3 (by kernel_rfl) (by kernel_rfl) (Below.refl _ _) ?_
    have hLW := LW.cells (B := u3.heap.size) (w0 := u3)
    repeat (go_big_quiet_step ((first | (go_at_call 35; refine LW.call (Nat.le_refl _) (CIM.out _ (LW.h _))) | (go_at_call 39; refine LW.call (Nat.le_refl _) (CIS.out _ (LW.h _))) | (go_at_call 37; refine LW.call (Nat.le_refl _) (CSA.out _ (LW.h _))) | (go_at_call 38; refine LW.call (Nat.le_refl _) (CRI.out _ (LW.h _))) | (go_at_call 36; (with_reducible refine LW.call (Nat.le_refl _) (CMA.out _))) | (go_at_call 36; (with_reducible refine LW.call (Nat.le_refl _) (CMB.out _))) | fail)))
    refine wpQuiet_nil ?_
    rintro w11 ⟨⟨w2s, b_w11⟩, rfl⟩
    clear hLW
    have z_w11 := b_w11.size
    replace Ox := Lib.hid (Ox.out.later b_w11)
    replace Or := Lib.hid (Or.out.later b_w11)
    replace Oo := Lib.hid (Oo.out.later b_w11)
    replace cx0 := (b_w11.cell (p := ⟨w4.heap.size, 0, none⟩) (by show w4.heap.size < _; omega)).trans cx0
    replace cx1 := (b_w11.cell (p := ⟨w4.heap.size, 1, none⟩) (by show w4.heap.size < _; omega)).trans cx1
    replace BA : Hid (Below w.heap.size w w11) := BA.out.trans (b_w11.mono (by omega))
    replace ZA : w.heap.size ≤ w11.heap.size := (by omega)
    replace yx : w4.heap.size < w11.heap.size := (by omega)
    clear b_w11
    clear CIM CIS CMA CMB CSA CRI tl0 tl1
    clear Oo
    clear Or
    clear Ox
    have hps : wrap64 (2 ^ s) = ((2 ^ s : Nat) : Int) := wrap_pow s hs8
    obtain ⟨P, hP⟩ : ∃ P, P = 2 ^ s := ⟨_, rfl⟩
    have hP256 : P ≤ 256 := by rw [hP]; exact pow_le_256 s hs8
    rw [← hP] at hps
    have HPP := Lib.hid hP
    clear hP
    go_wp2_with fail
    go_loopw [12, 13] (fun c i wr => ∃ k : Nat, k ≤ P ∧ i = .int .i64 k ∧ c = .int .i64 (cntM m n k : Nat) ∧ Below w11.heap.size w11 wr) (fun _ i _ => P - (intOf i).toNat)
    case atStart => exact ⟨0, Nat.zero_le _, rfl, rfl, Below.refl _ _⟩
    case round =>
      obtain ⟨k, hk, rfl, rfl, hb⟩ := hrel
      have R0 : Hid (Below w11.heap.size w11 w11) := Below.refl _ _
      have z_wr := hb.size
      replace BA : Hid (Below w.heap.size w wr) := BA.out.trans (hb.mono (by omega))
      replace ZA : w.heap.size ≤ wr.heap.size := (by omega)
      replace R0 : Hid (Below w11.heap.size w11 wr) := R0.out.trans (hb.mono (by omega))
      clear hb
      obtain ⟨c, hc⟩ : ∃ c, c = cntM m n k := ⟨_, rfl⟩
      rw [← hc]
      have HC := Lib.hid hc
      have HCB : Hid (c ≤ k) := by show c ≤ k; rw [hc]; exact cntM_le m n k
      clear hc
      by_cases hlt : k < P
      · have hki : (k : Int) < (P : Int) := by omega
        have hk256 : k < 256 := by omega
        obtain ⟨lo, hlo⟩ : ∃ x, x = k % 2 ^ m := ⟨_, rfl⟩
        obtain ⟨up, hup⟩ : ∃ x, x = k / 2 ^ m := ⟨_, rfl⟩
        have hlow : bits BinOp.and IntKind.i64 (k : Int) (wrap64 (wrap64 (2 ^ m) - 1)) = (lo : Int) := by rw [hlo]; exact and_lowM k m hk256 (by omega)
        have hupp : (k : Int) / 2 ^ m = (up : Int) := by rw [hup]; exact (div_low k m).1
        obtain ⟨F1, hF1⟩ : ∃ b, b = part1 m k := ⟨_, rfl⟩
        obtain ⟨F2, hF2⟩ : ∃ b, b = part2 m n k := ⟨_, rfl⟩
        have HF1 : Hid (F1 = ((m == 0) || (lo == srt m lo))) := by show _ = _; rw [hF1, part1, hlo]
        have HF2 : Hid (F2 = ((n == 0) || (up == srt n up))) := by show _ = _; rw [hF2, part2, hup]
        have HCN : Hid (cntM m n (k + 1) = c + (if (F1 && F2) = true then 1 else 0)) := by show _ = _; rw [hF1, hF2, HC.out]; rfl
        have HLO : Hid (lo < 2 ^ m) := by show _ < _; rw [hlo]; exact Nat.mod_lt _ (Nat.two_pow_pos m)
        have HUP : Hid (up < 2 ^ n) := by show _ < _; rw [hup]; exact up_lt (by rw [← HS.out, ← HPP.out]; exact hlt)
        clear hF1 hF2 hlo hup
        go_upto_region 19 with fail
        go_cut [15] (fun a wx => a = .bool F1 ∧ wr = wx)
        case first =>
          by_cases h0 : m = 0
          · have t0 : ((m : Int) == 0) = true := by rw [beq_iff_eq]; omega
            have HT : Hid (F1 = true) := by show _ = _; rw [HF1.out, h0]; rfl
            clear h0
            go_wp2_with fail
            go_meet
            case rel => exact ⟨by rw [HT.out], rfl⟩
          · have t0 : ((m : Int) == 0) = false := by rw [beq_eq_false_iff_ne]; omega
            have HT : Hid (F1 = (lo == srt m lo)) := by show _ = _; rw [HF1.out, show (m == 0) = false from by rw [beq_eq_false_iff_ne]; exact h0]; rfl
            go_wp2_with (go_at_call 26; refine (IsSortedMask_z m lo _ (by omega) (by omega) HLO.out).mono ?_; rintro e w' ⟨rfl, rfl⟩)
            go_meet
            case rel => exact ⟨by rw [HT.out], rfl⟩
        case rest =>
          obtain ⟨rfl, rfl⟩ := hcut
          go_upto_region 20 with fail
          go_cut [16] (fun a wx => a = .bool F2 ∧ wr = wx)
          case first =>
            by_cases h0 : n = 0
            · have t0 : ((n : Int) == 0) = true := by rw [beq_iff_eq]; omega
              have HT : Hid (F2 = true) := by show _ = _; rw [HF2.out, h0]; rfl
              clear h0
              go_wp2_with fail
              go_meet
              case rel => exact ⟨by rw [HT.out], rfl⟩
            · have t0 : ((n : Int) == 0) = false := by rw [beq_eq_false_iff_ne]; omega
              have HT : Hid (F2 = (up == srt n up)) := by show _ = _; rw [HF2.out, show (n == 0) = false from by rw [beq_eq_false_iff_ne]; exact h0]; rfl
              go_wp2_with (go_at_call 26; refine (IsSortedMask_z n up _ (by omega) (by omega) HUP.out).mono ?_; rintro e w' ⟨rfl, rfl⟩)
              go_meet
              case rel => exact ⟨by rw [HT.out], rfl⟩
          case rest =>
            obtain ⟨rfl, rfl⟩ := hcut
            clear hlow hupp
            have hcb := HCB.out
            cases F1 <;> cases F2
            all_goals
              go_wp2
              go_roundw
              case rel => first | exact ⟨k + 1, by omega, by go_num, by rw [HCN.out]; first | rfl | (show _ = Value.int .i64 ((c + 1 : Nat) : Int); go_num), R0.out⟩ | ((repeat apply Exists.intro); refine ⟨?_, rfl⟩; exact ⟨k + 1, by omega, by go_num, by rw [HCN.out]; first | rfl | (show _ = Value.int .i64 ((c + 1 : Nat) : Int); go_num), R0.out⟩)
              case measure => simp [intOf] <;> omega
      · have hki : ¬ (k : Int) < (P : Int) := by omega
        have HE : Hid (c = (m + 1) * (n + 1)) := by show _ = _; rw [HC.out, show k = 2 ^ (m + n) from by rw [← HS.out, ← HPP.out]; omega]; exact F.out.2.2.2.2.2.2.2
        obtain ⟨cm, hcm⟩ : ∃ x : Nat, x = (m + 1) * (n + 1) := ⟨_, rfl⟩
        have HCM : Hid (∀ w', Calls Try.prog 40 #[.int .i64 m, .int .i64 n] w' fun e w'' => e = .returned (.int .i64 (cm : Nat)) ∧ w' = w'') := fun w' => by rw [hcm]; exact CountMergeMasks_y m n w' F.out.1 (by omega)
        have hcc : c = cm := by rw [hcm]; exact HE.out
        clear hcm
        subst hcc
        have tcc : ((c : Int) != (c : Int)) = false := by simp
        clear R0
        obtain ⟨wq, rfl⟩ : ∃ W : World, W = wr := ⟨_, rfl⟩
        go_wp2_with fail
        refine (HCM.out _).mono ?_
        rintro e w' ⟨rfl, rfl⟩
        clear HCM tcc
        go_wp2_with fail
        refine (MakeSize_c w.heap.size N 3 (0) (3) _ wq (HV.out.kept fun k hk => BA.out.block k hk) ZA hN (by omega) (by omega) (by omega)).mono ?_
        rintro e w12 ⟨p, rfl, p_lo, p_hi, b_w12⟩
        have z_w12 := b_w12.size
        replace BA : Hid (Below w.heap.size w w12) := BA.out.trans (b_w12.mono (by omega))
        replace ZA : w.heap.size ≤ w12.heap.size := (by omega)
        clear b_w12
        have G2 := Lib.hid (fin_bitm p p_hi)
        have hpz : wrap64 (2 ^ p) = ((2 ^ p : Nat) : Int) := wrap_pow p (by omega)
        obtain ⟨z, hz⟩ : ∃ z, z = 2 ^ p := ⟨_, rfl⟩
        have hz8 : z ≤ 8 := by rw [hz]; exact Nat.pow_le_pow_right (n := 2) (by omega) p_hi
        have hz1 : 1 ≤ z := by rw [hz]; exact Nat.two_pow_pos p
        rw [← hz] at hpz G2
        have HZ4 : Hid (z = 1 ∨ z = 2 ∨ z = 4 ∨ z = 8) := by
          show _ ∨ _
          rw [hz]
          rcases (by omega : p = 0 ∨ p = 1 ∨ p = 2 ∨ p = 3) with h | h | h | h <;> subst h <;> simp
        clear hz p_lo
        go_wp2_with fail
        refine (BitonicMerge_z z G2.out.1 w12).mono ?_
        rintro e w13 ⟨qy, usy, rfl, oy, b_w13⟩
        obtain ⟨xy, hxy⟩ : ∃ X, X = XBitonicMerge z := ⟨_, rfl⟩
        rw [← hxy] at oy
        have HXy := Lib.hid hxy
        clear hxy
        obtain ⟨aoy, gy, capy, ey, -, -, -⟩ := oy.rows
        obtain ⟨Ly, hLy⟩ : ∃ L, L = xy.length := ⟨_, rfl⟩
        rw [← hLy] at ey
        subst ey
        have HNy := Lib.hid hLy
        clear hLy
        have z_w13 := b_w13.size
        replace BA : Hid (Below w.heap.size w w13) := BA.out.trans (b_w13.mono (by omega))
        replace ZA : w.heap.size ≤ w13.heap.size := (by omega)
        clear b_w13
        have Oy := Lib.hid oy
        clear oy
        go_upto_region 27 with fail
        obtain ⟨w14, hWw14, cy0, cy1, hzw14, b_w14, -, -⟩ := box2 w13 (.int .i64 z) (.slice aoy Ly capy) 30
        rw [hWw14]
        clear hWw14
        have zz_w14 : w13.heap.size < w14.heap.size := (by omega)
        clear hzw14
        have z_w14 := b_w14.size
        replace Oy := Lib.hid (Oy.out.later b_w14)
        replace BA : Hid (Below w.heap.size w w14) := BA.out.trans (b_w14.mono (by omega))
        replace ZA : w.heap.size ≤ w14.heap.size := (by omega)
        clear b_w14
        have yy : w13.heap.size < w14.heap.size := zz_w14
        clear hpz p_hi
        have YOK : Hid (netOk (z : Nat) xy = true) := by show _ = _; rw [HXy.out]; exact G2.out.2.1
        have hpq : wrap64 (2 ^ z) = ((2 ^ z : Nat) : Int) := wrap_pow z hz8
        obtain ⟨T, hT⟩ : ∃ P, P = 2 ^ z := ⟨_, rfl⟩
        have hT256 : T ≤ 256 := by rw [hT]; exact pow_le_256 z hz8
        rw [← hT] at hpq
        have HTT := Lib.hid hT
        clear hT
        go_wp2_with fail
        go_loopw [20, 21] (fun c i wr => ∃ k : Nat, k ≤ T ∧ i = .int .i64 k ∧ c = .int .i64 (cntB z k : Nat) ∧ Below w14.heap.size w14 wr) (fun _ i _ => T - (intOf i).toNat)
        case atStart => exact ⟨0, Nat.zero_le _, rfl, rfl, Below.refl _ _⟩
        case round =>
          obtain ⟨k, hk, rfl, rfl, hb⟩ := hrel
          have R0 : Hid (Below w14.heap.size w14 w14) := Below.refl _ _
          have z_wr := hb.size
          replace Oy := Lib.hid (Oy.out.later hb)
          replace cy0 := (hb.cell (p := ⟨w13.heap.size, 0, none⟩) (by show w13.heap.size < _; omega)).trans cy0
          replace cy1 := (hb.cell (p := ⟨w13.heap.size, 1, none⟩) (by show w13.heap.size < _; omega)).trans cy1
          replace BA : Hid (Below w.heap.size w wr) := BA.out.trans (hb.mono (by omega))
          replace ZA : w.heap.size ≤ wr.heap.size := (by omega)
          replace yy : w13.heap.size < wr.heap.size := (by omega)
          replace R0 : Hid (Below w14.heap.size w14 wr) := R0.out.trans (hb.mono (by omega))
          clear hb
          obtain ⟨d, hd⟩ : ∃ c, c = cntB z k := ⟨_, rfl⟩
          rw [← hd]
          have HD := Lib.hid hd
          have HDB : Hid (d ≤ k) := by show d ≤ k; rw [hd]; exact cntB_le z k
          clear hd
          by_cases hlt : k < T
          · have hki : (k : Int) < (T : Int) := by omega
            obtain ⟨B, hB⟩ : ∃ b, b = bitB z k := ⟨_, rfl⟩
            have HBN : Hid (cntB z (k + 1) = d + (if B = true then 1 else 0)) := by show _ = _; rw [hB, HD.out]; rfl
            have HKZ : Hid (k < 2 ^ z) := by show _ < _; rw [← HTT.out]; exact hlt
            go_wp2_with fail
            refine (IsBitonicMask_i z k wr).mono ?_
            rintro e w15 ⟨rfl, b_w15⟩
            rw [show bitB (z : Int) (k : Int) = B from hB.symm]
            have z_w15 := b_w15.size
            replace Oy := Lib.hid (Oy.out.later b_w15)
            replace cy0 := (b_w15.cell (p := ⟨w13.heap.size, 0, none⟩) (by show w13.heap.size < _; omega)).trans cy0
            replace cy1 := (b_w15.cell (p := ⟨w13.heap.size, 1, none⟩) (by show w13.heap.size < _; omega)).trans cy1
            replace BA : Hid (Below w.heap.size w w15) := BA.out.trans (b_w15.mono (by omega))
            replace ZA : w.heap.size ≤ w15.heap.size := (by omega)
            replace yy : w13.heap.size < w15.heap.size := (by omega)
            replace R0 : Hid (Below w14.heap.size w14 w15) := R0.out.trans (b_w15.mono (by omega))
            clear b_w15
            have HB := Lib.hid hB
            clear hB
            have hdb := HDB.out
            cases B
            · go_wp2
              go_roundw
              case rel => first | exact ⟨k + 1, by omega, by go_num, by rw [HBN.out]; first | rfl | (show _ = Value.int .i64 ((d + 1 : Nat) : Int); go_num), R0.out⟩ | ((repeat apply Exists.intro); refine ⟨?_, rfl⟩; exact ⟨k + 1, by omega, by go_num, by rw [HBN.out]; first | rfl | (show _ = Value.int .i64 ((d + 1 : Nat) : Int); go_num), R0.out⟩)
              case measure => simp [intOf] <;> omega
            · obtain ⟨b, hb⟩ : ∃ b, b = bitsP xy k := ⟨_, rfl⟩
              have CAB : Hid (Calls Try.prog 43 #[.agg #[.int .i64 z, .slice aoy Ly capy], .int .i64 k] w15 fun e w'' => e = .returned (.int .i64 (b : Nat)) ∧ Below w15.heap.size w15 w'') := by
                rw [hb]; exact ApplyBits_y z _ _ _ usy xy k w15 Oy.out (by omega) YOK.out HKZ.out
              have CIS : Hid (∀ w', Calls Try.prog 26 #[.int .i64 z, .int .i64 b] w' fun e w'' => e = .returned (.bool true) ∧ w' = w'') := fun w' => by
                have := IsSortedMask_z z b w' hz1 hz8 (by rw [hb]; exact (bitsP_lt' YOK.out HKZ.out).1)
                rwa [show (b == srt z b) = true from by rw [hb, HXy.out]; exact G2.out.2.2.2.1 k HKZ.out HB.out.symm] at this
              clear hb
              go_wp2_with fail
              refine (CAB.out).mono ?_
              rintro e w16 ⟨rfl, b_w16⟩
              have z_w16 := b_w16.size
              replace Oy := Lib.hid (Oy.out.later b_w16)
              replace cy0 := (b_w16.cell (p := ⟨w13.heap.size, 0, none⟩) (by show w13.heap.size < _; omega)).trans cy0
              replace cy1 := (b_w16.cell (p := ⟨w13.heap.size, 1, none⟩) (by show w13.heap.size < _; omega)).trans cy1
              replace BA : Hid (Below w.heap.size w w16) := BA.out.trans (b_w16.mono (by omega))
              replace ZA : w.heap.size ≤ w16.heap.size := (by omega)
              replace yy : w13.heap.size < w16.heap.size := (by omega)
              replace R0 : Hid (Below w14.heap.size w14 w16) := R0.out.trans (b_w16.mono (by omega))
              clear b_w16
              go_wp2_with fail
              refine (CIS.out _).mono ?_
              rintro e w' ⟨rfl, rfl⟩
              clear CAB CIS
              go_wp2
              go_roundw
              case rel => first | exact ⟨k + 1, by omega, by go_num, by rw [HBN.out]; first | rfl | (show _ = Value.int .i64 ((d + 1 : Nat) : Int); go_num), R0.out⟩ | ((repeat apply Exists.intro); refine ⟨?_, rfl⟩; exact ⟨k + 1, by omega, by go_num, by rw [HBN.out]; first | rfl | (show _ = Value.int .i64 ((d + 1 : Nat) : Int); go_num), R0.out⟩)
              case measure => simp [intOf] <;> omega
          · have hki : ¬ (k : Int) < (T : Int) := by omega
            have HE : Hid (d = z * (z - 1) + 2) := by show _ = _; rw [HD.out, show k = 2 ^ z from by rw [← HTT.out]; omega]; exact G2.out.2.2.2.2.1
            clear hlt hk
            clear R0
            obtain ⟨wz, rfl⟩ : ∃ W : World, W = wr := ⟨_, rfl⟩
            obtain ⟨dep, hdep⟩ : ∃ x, x = depthP xy xy.length := ⟨_, rfl⟩
            have HDL : Hid (dep ≤ 60) := by show _ ≤ _; rw [hdep]; have h1 := depthP_le xy xy.length; have h2 := netOk_len YOK.out; omega
            have HLY : Hid (Ly = z / 2 * dep) := by show _ = _; rw [hdep, HNy.out, HXy.out]; exact G2.out.2.2.2.2.2
            have CMB : Hid (∀ w', Below wz.heap.size wz w' → Calls Try.prog 44 #[.agg #[.int .i64 z, .slice aoy Ly capy]] w' fun e w'' => e = .returned (.bool true) ∧ Below w'.heap.size w' w'') := fun w' h1 => by
              have := MergesBitonic_i_c z _ _ _ usy xy w' (Oy.out.below h1 (by omega)) (by have := h1.size; omega)
              rwa [show mbR (z : Int) xy = true from by rw [HXy.out]; exact G2.out.2.2.1] at this
            have CDE : Hid (∀ w', Below wz.heap.size wz w' → Calls Try.prog 45 #[.agg #[.int .i64 z, .slice aoy Ly capy]] w' fun e w'' => e = .returned (.int .i64 (dep : Nat)) ∧ Below w'.heap.size w' w'') := fun w' h1 => by
              rw [hdep]
              exact DepthOf_y z _ _ _ usy xy w' (Oy.out.below h1 (by omega)) (by have := h1.size; omega) YOK.out
            clear hdep
            go_upto_region 35 with fail
            clear hki hpq
            rcases HZ4.out with hz4 | hz4 | hz4 | hz4
            · subst hz4
              have hdv : d = 2 := HE.out
              subst hdv
              have hdl := HDL.out
              have tL : ((Ly : Int) == 0 * (dep : Int)) = true := by rw [beq_iff_eq]; have := HLY.out; omega
              have tL0 : (Ly : Int) = 0 * (dep : Int) := by have := HLY.out; omega
              replace tL0 := Lib.hid tL0
              have tL1 : ((Ly : Int) == 0) = true := by rw [beq_iff_eq]; have := tL0.out; omega
              refine wp_region_later wz.heap.size wz (by kernel_rfl) (by kernel_rfl) (Below.refl _ _) ?_
              have hLW := LW.cells (B := wz.heap.size) (w0 := wz)
              repeat (go_big_quiet_step ((first | (go_at_call 44; refine LW.call (Nat.le_refl _) (CMB.out _ (LW.h _))) | (go_at_call 45; refine LW.call (Nat.le_refl _) (CDE.out _ (LW.h _))) | fail)))
              refine wpQuiet_nil ?_
              rintro w17 ⟨⟨w2s, b_w17⟩, rfl⟩
              clear hLW
              have z_w17 := b_w17.size
              replace Oy := Lib.hid (Oy.out.later b_w17)
              replace cy0 := (b_w17.cell (p := ⟨w13.heap.size, 0, none⟩) (by show w13.heap.size < _; omega)).trans cy0
              replace cy1 := (b_w17.cell (p := ⟨w13.heap.size, 1, none⟩) (by show w13.heap.size < _; omega)).trans cy1
              replace BA : Hid (Below w.heap.size w w17) := BA.out.trans (b_w17.mono (by omega))
              replace ZA : w.heap.size ≤ w17.heap.size := (by omega)
              replace yy : w13.heap.size < w17.heap.size := (by omega)
              clear b_w17
              go_wp2
              go_ret
              exact ⟨rfl, BA.out⟩
            · subst hz4
              have hdv : d = 4 := HE.out
              subst hdv
              have hdl := HDL.out
              have tL : ((Ly : Int) == 1 * (dep : Int)) = true := by rw [beq_iff_eq]; have := HLY.out; omega
              have tL0 : (Ly : Int) = 1 * (dep : Int) := by have := HLY.out; omega
              replace tL0 := Lib.hid tL0
              have tL1 : ((Ly : Int) == (dep : Int)) = true := by rw [beq_iff_eq]; have := tL0.out; omega
              refine wp_region_later wz.heap.size wz (by kernel_rfl) (by kernel_rfl) (Below.refl _ _) ?_
              have hLW := LW.cells (B := wz.heap.size) (w0 := wz)
              repeat (go_big_quiet_step ((first | (go_at_call 44; refine LW.call (Nat.le_refl _) (CMB.out _ (LW.h _))) | (go_at_call 45; refine LW.call (Nat.le_refl _) (CDE.out _ (LW.h _))) | fail)))
              refine wpQuiet_nil ?_
              rintro w18 ⟨⟨w2s, b_w18⟩, rfl⟩
              clear hLW
              have z_w18 := b_w18.size
              replace Oy := Lib.hid (Oy.out.later b_w18)
              replace cy0 := (b_w18.cell (p := ⟨w13.heap.size, 0, none⟩) (by show w13.heap.size < _; omega)).trans cy0
              replace cy1 := (b_w18.cell (p := ⟨w13.heap.size, 1, none⟩) (by show w13.heap.size < _; omega)).trans cy1
              replace BA : Hid (Below w.heap.size w w18) := BA.out.trans (b_w18.mono (by omega))
              replace ZA : w.heap.size ≤ w18.heap.size := (by omega)
              replace yy : w13.heap.size < w18.heap.size := (by omega)
              clear b_w18
              go_wp2
              go_ret
              exact ⟨rfl, BA.out⟩
            · subst hz4
              have hdv : d = 14 := HE.out
              subst hdv
              have hdl := HDL.out
              have tL : ((Ly : Int) == 2 * (dep : Int)) = true := by rw [beq_iff_eq]; have := HLY.out; omega
              have tL0 : (Ly : Int) = 2 * (dep : Int) := by have := HLY.out; omega
              replace tL0 := Lib.hid tL0
              refine wp_region_later wz.heap.size wz (by kernel_rfl) (by kernel_rfl) (Below.refl _ _) ?_
              have hLW := LW.cells (B := wz.heap.size) (w0 := wz)
              repeat (go_big_quiet_step ((first | (go_at_call 44; refine LW.call (Nat.le_refl _) (CMB.out _ (LW.h _))) | (go_at_call 45; refine LW.call (Nat.le_refl _) (CDE.out _ (LW.h _))) | fail)))
              refine wpQuiet_nil ?_
              rintro w19 ⟨⟨w2s, b_w19⟩, rfl⟩
              clear hLW
              have z_w19 := b_w19.size
              replace Oy := Lib.hid (Oy.out.later b_w19)
              replace cy0 := (b_w19.cell (p := ⟨w13.heap.size, 0, none⟩) (by show w13.heap.size < _; omega)).trans cy0
              replace cy1 := (b_w19.cell (p := ⟨w13.heap.size, 1, none⟩) (by show w13.heap.size < _; omega)).trans cy1
              replace BA : Hid (Below w.heap.size w w19) := BA.out.trans (b_w19.mono (by omega))
              replace ZA : w.heap.size ≤ w19.heap.size := (by omega)
              replace yy : w13.heap.size < w19.heap.size := (by omega)
              clear b_w19
              go_wp2
              go_ret
              exact ⟨rfl, BA.out⟩
            · subst hz4
              have hdv : d = 58 := HE.out
              subst hdv
              have hdl := HDL.out
              have tL : ((Ly : Int) == 4 * (dep : Int)) = true := by rw [beq_iff_eq]; have := HLY.out; omega
              have tL0 : (Ly : Int) = 4 * (dep : Int) := by have := HLY.out; omega
              replace tL0 := Lib.hid tL0
              refine wp_region_later wz.heap.size wz (by kernel_rfl) (by kernel_rfl) (Below.refl _ _) ?_
              have hLW := LW.cells (B := wz.heap.size) (w0 := wz)
              repeat (go_big_quiet_step ((first | (go_at_call 44; refine LW.call (Nat.le_refl _) (CMB.out _ (LW.h _))) | (go_at_call 45; refine LW.call (Nat.le_refl _) (CDE.out _ (LW.h _))) | fail)))
              refine wpQuiet_nil ?_
              rintro w20 ⟨⟨w2s, b_w20⟩, rfl⟩
              clear hLW
              have z_w20 := b_w20.size
              replace Oy := Lib.hid (Oy.out.later b_w20)
              replace cy0 := (b_w20.cell (p := ⟨w13.heap.size, 0, none⟩) (by show w13.heap.size < _; omega)).trans cy0
              replace cy1 := (b_w20.cell (p := ⟨w13.heap.size, 1, none⟩) (by show w13.heap.size < _; omega)).trans cy1
              replace BA : Hid (Below w.heap.size w w20) := BA.out.trans (b_w20.mono (by omega))
              replace ZA : w.heap.size ≤ w20.heap.size := (by omega)
              replace yy : w13.heap.size < w20.heap.size := (by omega)
              clear b_w20
              go_wp2
              go_ret
              exact ⟨rfl, BA.out⟩
end Go.Proofs.Ytiodolbgapjmkaa
