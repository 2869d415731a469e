/- A sorter behind a network: both functions, on a valid network and wires that differ. Conditions: the network is valid, the wires are its own and differ. -/
import Derived.Test.YtiodolbgapjmkaaSortOnP
namespace Go.Proofs.Ytiodolbgapjmkaa
open Go.RowKit
set_option maxRecDepth 100000
set_option linter.unusedVariables false
set_option linter.unusedSimpArgs false

/-- The closure that looks up a wire. -/
theorem SortOn1_c (W : World) (B g off N cap : Nat) (xs : List Int) (hB : W.cell? ⟨B, 0, none⟩ = some (.slice (some ⟨g, off, none⟩) N cap)) (hN : N ≤ 1048576)
    (hx : ∀ i, i < N → W.cell? ⟨g, off + i, none⟩ = some (.int .i64 (xs.getD i 0))) (i : Nat) (hi : i < N) :
    Calls Try.prog 131 (#[.int .i64 i] ++ #[.pointer (some ⟨B, 0, none⟩)]) W fun e w' => e = .returned (.int .i64 (lookI xs i)) ∧ W = w' := by
  have c2 := hx i hi
  have hi2 : (i : Int) < (N : Int) := by omega
  obtain ⟨x, hxx⟩ : ∃ x, x = lookI xs i := ⟨_, rfl⟩
  rw [← hxx]
  rw [show xs.getD i 0 = x from by rw [hxx]; simp [lookI]] at c2
  clear hxx hx
  show Calls Try.prog 131 #[.int .i64 i, .pointer (some ⟨B, 0, none⟩)] W _
  go_enter Try.func131, Try.ntmps131
  go_wp2
  go_ret
  exact ⟨rfl, rfl⟩
/-- A list of pairs behind another one; the blocks from 'mid' on stay as they are. -/
theorem wp_app_rowsB {o : Oper} {a : Act} {K : Act → World → Prop} {Q : Exit → Act → World → Prop} (s x : Operand)
    (ho : o.op = .call { callee := .builtin .append, args := #[s, x], argTypes := #[28, 28] })
    (W : World) (lo mid : Nat) (v u : Value) (vs us : List Value) (xss yss : List (List Int)) (hR : OwnR W lo mid v vs xss) (hS : OwnR W mid W.heap.size u us yss) (hlo : lo ≤ mid) (hmid : mid ≤ W.heap.size)
    (hlen : xss.length + yss.length ≤ 1000000) (hs : a.eval s = v) (hx : a.eval x = u)
    (h : ∀ ao L cap w' vs', Hid (L = xss.length + yss.length) → OwnR w' lo w'.heap.size (.slice ao L cap) vs' (xss ++ yss) → Below lo W w' → lo ≤ w'.heap.size → (∀ k, mid ≤ k → k < W.heap.size → w'.heap[k]? = W.heap[k]?) → K (a.put o.dst (.slice ao L cap)) w') :
    o.wp Try.prog a W K Q := by
  obtain ⟨i0, hi, hz0, hz1, hz2⟩ := info_parts Try.infoS
  have hl1 := hR.len
  have hl2 := hS.len
  rcases hS.top.row.2 with ⟨hu, hn⟩ | ⟨g, cap, cur, hu, hg, hh, hnc, hm, hcs, ht⟩
  · have hus : us = [] := List.eq_nil_of_length_eq_zero hn
    have hys : yss = [] := List.eq_nil_of_length_eq_zero (by omega)
    have hrun := run_append_owned_none (P := Try.prog) (w := W) lo 28 o.type 22 i0 1 Try.underlying28 hi v vs.length vs hR.top.row
    have hK : K (a.put o.dst v) W := by
      obtain ⟨ao, g, cap, e, -, -, -⟩ := hR.rows
      rw [e]
      refine h ao _ cap W vs (by show _ = _; rw [hys]; rfl) ?_ (Below.refl _ _) (by omega) (fun _ _ _ => rfl)
      rw [← e, hys, List.append_nil]
      exact hR.mono (Nat.le_refl _) hmid
    rw [hu] at hx
    unfold Oper.wp
    simp [execOp, ho, resolve, invoke, builtin, hs, hx, hrun, Result.andThen]
    exact hK
  · have hcell : ∀ (j : Nat) (t : Value), us[j]? = some t → W.cell? ((⟨g, 0, none⟩ : Addr).add j) = some t := hS.top.row.cells (g := g) (by rw [hu]; rfl)
    refine wp_append_own W s x 28 ho lo 22 i0 (.slice none 0 0) 1 24 Try.underlying28 hi hz0 hz1 hz2 rfl (by decide) v vs.length vs hs hR.top.row ⟨g, 0, none⟩ us.length cap us (by rw [hx, hu]) (by simp) ?_ ?_ ?_ ?_ ?_ ?_
    · exact hcell
    · exact hS.oneCell
    · unfold maxLen; omega
    · omega
    · omega
    · intro v' w' hown hg hnil
      have ho2 : OwnR w' lo w'.heap.size v' (vs ++ us) (xss ++ yss) := hR.app hlo hl2 (fun i t xs a b => hS.row i t xs a b) hS.sep hown hg
      obtain ⟨ao, g2, cap2, e, -, -, -⟩ := ho2.rows
      rw [List.length_append] at e
      subst e
      refine h ao _ cap2 w' _ rfl ho2 ((Below.refl _ _).grown hg (by omega) fun k hk => (hR.top.row.lt k hk).1) ?_ (fun k k1 k2 => hg.block k k2 fun e => by have := hR.top.lt k e.symm; omega)
      have := hg.size; omega


set_option maxHeartbeats 4000000 in
theorem SortOn_i_yes (n : Nat) (lo hi lo2 hi2 : Nat) (v : Value) (vs : List Value) (xss : List (List Int)) (u : Value) (xs : List Int) (w : World) (hv : OwnR w lo hi v vs xss) (hhi : hi ≤ w.heap.size) (hok : netOk n xss = true)
    (hu : IntsV w lo2 hi2 u xs) (hh2 : hi2 ≤ w.heap.size) (hws : seqB n xs = true) :
    Calls Try.prog 56 #[.agg #[.int .i64 n, v], u] w (NetC w (if netOk (n : Int) (sortOnX xss xs) = true then (n : Int) else 0) (if netOk (n : Int) (sortOnX xss xs) = true then sortOnX xss xs else []) (netOk (n : Int) (sortOnX xss xs))) := by
  have HC : Hid (∀ w, OwnR w lo hi v vs xss → hi ≤ w.heap.size → Calls Try.prog 94 #[.agg #[.int .i64 n, v]] w fun e w' => e = .returned (.bool true) ∧ Below w.heap.size w w') := fun w h1 h2 => by
    have := NetworkOk_c n lo hi v vs xss w h1 h2
    rwa [hok] at this
  have HOK := Lib.hid hok
  have hn8 : n ≤ 8 := by have := netOk_n hok; omega
  have hn1 : 1 ≤ n := by have := netOk_n hok; omega
  have hl60 := netOk_len hok
  have HWS := Lib.hid hws
  have hN1 := seqB_pos hws
  have hNn := seqB_len hws
  obtain ⟨P9, hP9⟩ : ∃ P9, P9 = NetC w (if netOk (n : Int) (sortOnX xss xs) = true then (n : Int) else 0) (if netOk (n : Int) (sortOnX xss xs) = true then sortOnX xss xs else []) (netOk (n : Int) (sortOnX xss xs)) := ⟨_, rfl⟩
  have HP9 := Lib.hid hP9
  rw [← hP9]
  obtain ⟨ao, g, cap, rfl, -, -, -⟩ := hv.rows
  have HV := Lib.hid hv
  obtain ⟨L, hlen⟩ : ∃ l, l = xss.length := ⟨_, rfl⟩
  have HLEN := Lib.hid hlen
  rw [← hlen] at HV HC hl60 ⊢
  have HU := Lib.hid hu
  obtain ⟨ao2, g2, off2, cap2, rfl, hcap2, hao2, hc2⟩ := hu
  obtain ⟨ha2, l2, l3⟩ := hao2 (by omega)
  subst ha2
  have HCL := Lib.hid hc2
  obtain ⟨N, hN⟩ : ∃ N, N = xs.length := ⟨_, rfl⟩
  have HN := Lib.hid hN
  rw [← hN] at HCL hcap2 hN1 hNn HU ⊢
  clear hv hlen hok hP9 hao2 hc2 hN hws
  go_enter Try.func56, Try.ntmps56
  go_wp2_with fail
  obtain ⟨W1, hW1, c0, c1, hsz, hB1, -, -⟩ := box2 w (.int .i64 n) (.slice ao L cap) 30
  have hbu := blk_new W1 (.cells #[.slice (some ⟨g2, off2, none⟩) N cap2] 22)
  obtain ⟨W1b, hW1b⟩ : ∃ W, W = W1.alloc (.cells #[.slice (some ⟨g2, off2, none⟩) N cap2] 22) := ⟨_, rfl⟩
  have hBb : Below W1.heap.size W1 W1b := by rw [hW1b]; exact (Below.refl _ _).alloc (Nat.le_refl _) _
  have hs1b : W1b.heap.size = W1.heap.size + 1 := by rw [hW1b]; simp
  rw [← hW1b] at hbu
  have hb9 := blk_new W1b (.cells #[.int .i64 0, .slice none 0 0] 30)
  obtain ⟨W2, hW2⟩ : ∃ W, W = W1b.alloc (.cells #[.int .i64 0, .slice none 0 0] 30) := ⟨_, rfl⟩
  have hBa0 : Below W1b.heap.size W1b W2 := by rw [hW2]; exact (Below.refl _ _).alloc (Nat.le_refl _) _
  have hBa : Below W1.heap.size W1 W2 := hBb.trans (hBa0.mono (by omega))
  have hs2 : W2.heap.size = W1.heap.size + 2 := by rw [hW2]; simp; omega
  rw [← hW2] at hb9
  have hbu2 := blk_below hbu hBa0 (by omega)
  rw [hsz] at hbu2
  have hbu3 := blk_cell hbu2 0
  obtain ⟨c0, c1, hz0⟩ := boxC hBa (by omega) c0 c1
  have hB2 : Below w.heap.size w W2 := hB1.trans (hBa.mono (by omega))
  rw [hs1b, hsz] at hb9
  try rw [hW1, ← hW1b]
  clear hW1b hBb hs1b hbu hBa0
  try rw [hW1, ← hW2]
  try rw [← hW2]
  have hw2 : w.heap.size + 2 < W2.heap.size := by omega
  clear hW1 hW2 hBa hs2 hsz hB1
  refine (HC.out W2 (HV.out.below hB2 (by omega)) (by omega)).mono ?_
  rintro e w3 ⟨rfl, b3⟩
  obtain ⟨d0, d1, z3⟩ := boxC b3 hz0 c0 c1
  have hr9 := blk_below hb9 b3 hw2
  have HR9 := Lib.hid hr9
  have zz3 := b3.size
  have HV3 := Lib.hid ((HV.out.below hB2 hhi).below b3 (by omega))
  have HB3 : Hid (Below w.heap.size w w3) := hB2.trans (b3.mono (by omega))
  have hw3 : w.heap.size + 2 < w3.heap.size := by omega
  have hle3 : hi ≤ w3.heap.size := by omega
  have hu3 : w3.cell? ⟨w.heap.size + 1, 0, none⟩ = some (.slice (some ⟨g2, off2, none⟩) N cap2) := (b3.cell (p := ⟨w.heap.size + 1, 0, none⟩) (by show w.heap.size + 1 < _; omega)).trans hbu3
  clear c0 c1 hb9 b3 hB2 HC HV hz0 hw2 zz3 hr9 hbu2 hbu3
  have hNz : ¬ (N : Int) = 0 := by omega
  have hu3a : (w3.alloc (.cells #[.bool false, .bool false, .bool false, .bool false, .bool false, .bool false, .bool false, .bool false] 85)).cell? ⟨w.heap.size + 1, 0, none⟩ = some (.slice (some ⟨g2, off2, none⟩) N cap2) :=
    (((Below.refl w3.heap.size w3).alloc (Nat.le_refl _) _).cell (p := ⟨w.heap.size + 1, 0, none⟩) (by show w.heap.size + 1 < _; omega)).trans hu3
  go_wp2_with fail
  obtain ⟨W4, hW4⟩ : ∃ W, W = w3.alloc (.cells #[.bool false, .bool false, .bool false, .bool false, .bool false, .bool false, .bool false, .bool false] 85) := ⟨_, rfl⟩
  have hR4 : W4.rowIs w3.heap.size 85 8 (fun j => .bool (wantB xs 0 j)) := by
    rw [hW4]
    refine World.rowIs_alloc w3 _ _ _ fun i hi => ?_
    rw [wantB_zero]
    replace hi : i < 8 := hi
    match i, hi with
    | 0, _ | 1, _ | 2, _ | 3, _ | 4, _ | 5, _ | 6, _ | 7, _ => rfl
  have hB4 : Below w3.heap.size w3 W4 := by rw [hW4]; exact (Below.refl _ _).alloc (Nat.le_refl _) _
  have hs4 : w3.heap.size < W4.heap.size := by rw [hW4]; simp
  have hu4 := (hB4.cell (p := ⟨w.heap.size + 1, 0, none⟩) (by show w.heap.size + 1 < _; omega)).trans hu3
  rw [← hW4]
  clear hW4 hu3a
  have HR4 := Lib.hid hR4
  have HB4 := Lib.hid hB4
  clear hR4 hB4
  have hNb : ((N : Int) == 0) = false := by simp; omega
  try simp only [hNb]
  go_loopw [24] (fun i wr => ∃ k : Nat, k ≤ N ∧ i = .int .i64 k ∧ Hid (wr.rowIs w3.heap.size 85 8 (fun j => .bool (wantB xs k j))) ∧ Below w3.heap.size w3 wr) (fun i _ => N - (intOf i).toNat)
  case atStart => exact ⟨0, Nat.zero_le _, rfl, HR4.out, HB4.out⟩
  case round =>
    obtain ⟨k, hk, rfl, HK, hB⟩ := hrel
    have HB := Lib.hid hB
    have zB := hB.size
    obtain ⟨f0, f1, zf⟩ := boxC hB z3 d0 d1
    have fu := (hB.cell (p := ⟨w.heap.size + 1, 0, none⟩) (by show w.heap.size + 1 < _; omega)).trans hu3
    clear HR4 HB4
    have hX := HK.out.lt
    by_cases hlt : k < N
    · obtain ⟨i, hi, hin, hwn⟩ := seqB_at HWS.out (k := k) (by have := HN.out; omega)
      have hkN : (k : Int) < (N : Int) := by omega
      have c2 : wr.cell? ⟨g2, off2 + k, none⟩ = some (.int .i64 i) := by
        rw [← hi]
        exact ((HB3.out.trans (hB.mono (by omega))).cell (p := ⟨g2, off2 + k, none⟩) (by show g2 < _; omega)).trans (HCL.out k hlt)
      have IW : Hid (∀ w, Calls Try.prog 128 #[.agg #[.int .i64 n, .slice ao L cap], .int .i64 i] w fun e w' => e = .returned (.bool true) ∧ Below w.heap.size w w') := fun w => by
        have := isWire_c n i (.slice ao L cap) w
        rwa [inB_mk ⟨by omega, by omega⟩] at this
      have HWB : Hid (∀ j, wantB xs (k + 1) j = if j = i then true else wantB xs k j) := fun j => wantB_succ (by have := HN.out; omega) hi j
      have HWN := Lib.hid hwn
      clear hB hi hwn
      go_wp2_with fail
      refine (IW.out wr).mono ?_
      rintro e w5 ⟨rfl, b5⟩
      have r5 := HK.out.of_block (b5.block _ hX)
      have q1 := r5.cell (i := i) (by omega)
      rw [HWN.out] at q1
      have q2 := r5.frozen i
      have R5 := Lib.hid r5
      have B5 : Hid (Below w3.heap.size w3 w5) := HB.out.trans (b5.mono zB)
      have hii : (i : Int) < 8 := by omega
      clear r5 b5 f0 f1
      go_wp2_with fail
      go_roundw
      case rel => exact ⟨k + 1, by omega, by go_num, (by show World.rowIs _ _ _ _ _; exact (R5.out.set i (.bool true)).congr fun j _ => by rw [HWB.out]; split <;> rfl), B5.out.setCell (by show w3.heap.size ≤ w3.heap.size; omega) _⟩
      case measure => simp [intOf] <;> omega
    · have hkN : ¬ (k : Int) < (N : Int) := by omega
      have hfu2 := fu
      have HRL := Lib.hid (blk_below HR9.out hB hw3)
      have hVr := Lib.hid (HV3.out.below hB hle3)
      have HCr : Hid (∀ i, i < N → wr.cell? ⟨g2, off2 + i, none⟩ = some (.int .i64 (xs.getD i 0))) := fun i hi => ((HB3.out.trans (hB.mono (by omega))).cell (p := ⟨g2, off2 + i, none⟩) (by show g2 < _; omega)).trans (HCL.out i hi)
      clear hB HK hX
      have hN8 : N ≤ 8 := by omega
      have BN : Hid (∀ W, Calls Try.prog 46 #[.int .i64 N] W (NetC W (N : Int) (bat N (upI 0 N)) true)) := fun W => BatcherNetwork_i_yes N W (inB_mk ⟨by omega, by omega⟩) hN1 hN8
      go_wp2_with fail
      refine (BN.out _).mono ?_
      rintro e w6 ⟨ub, usb, rfl, ob, b6⟩
      have z6 := b6.size
      obtain ⟨aob, gb, capb, eb, -, -, -⟩ := ob.rows
      obtain ⟨K, hK⟩ : ∃ K, K = (bat N (upI 0 N)).length := ⟨_, rfl⟩
      rw [← hK] at eb
      subst eb
      have fu6 := (b6.cell (p := ⟨w.heap.size + 1, 0, none⟩) (by show w.heap.size + 1 < _; omega)).trans hfu2
      obtain ⟨f0, f1, zf⟩ := boxC b6 zf f0 f1
      have OB := Lib.hid ob
      have B6 := Lib.hid b6
      have HK8 := Lib.hid hK
      clear ob b6 fu hK hfu2
      go_wp2_with fail
      obtain ⟨W7, hW7, t0, t1, hs7, hB7, -, -⟩ := box2 w6 (.int .i64 N) (.slice aob K capb) 30
      rw [hW7]
      clear hW7
      obtain ⟨f0, f1, zf⟩ := boxC hB7 zf f0 f1
      have fu7 := (hB7.cell (p := ⟨w.heap.size + 1, 0, none⟩) (by show w.heap.size + 1 < _; omega)).trans fu6
      have B7 : Hid (Below w3.heap.size w3 W7) := HB.out.trans ((B6.out.trans (hB7.mono z6)).mono zB)
      have z7 := hB7.size
      have OB7 := Lib.hid (OB.out.below hB7 (Nat.le_refl _))
      have hzt : w6.heap.size < W7.heap.size := by omega
      clear hB7 fu6
      refine (own_c n lo hi _ vs xss W7 (HV3.out.below B7.out hle3) (by have := B7.out.size; omega) HOK.out).mono ?_
      rintro e w8 ⟨u8, us8, rfl, o8, b8⟩
      have z8 := b8.size
      obtain ⟨ao8, g8, cap8, e8, -, -, -⟩ := o8.rows
      rw [← HLEN.out] at e8
      subst e8
      obtain ⟨f0, f1, zf⟩ := boxC b8 zf f0 f1
      obtain ⟨t0, t1, zt⟩ := boxC b8 hzt t0 t1
      have fu8 := (b8.cell (p := ⟨w.heap.size + 1, 0, none⟩) (by show w.heap.size + 1 < _; omega)).trans fu7
      have O8 := Lib.hid o8
      have B8 : Hid (Below w3.heap.size w3 w8) := B7.out.trans (b8.mono B7.out.size)
      have OB8 := Lib.hid (OB7.out.below b8 (by omega))
      clear o8 b8 fu7
      go_wp2_with fail
      have hb10 := blk_new w8 (.cells #[.int .i64 n, .slice ao8 L cap8] 30)
      obtain ⟨W9, hW9⟩ : ∃ W, W = w8.alloc (.cells #[.int .i64 n, .slice ao8 L cap8] 30) := ⟨_, rfl⟩
      have hB9 : Below w8.heap.size w8 W9 := by rw [hW9]; exact (Below.refl _ _).alloc (Nat.le_refl _) _
      have hs9 : W9.heap.size = w8.heap.size + 1 := by rw [hW9]; simp
      rw [← hW9] at hb10
      rw [← hW9]
      clear hW9
      have e0 := blk_cell hb10 0
      have e1 := blk_cell hb10 1
      have y1 := blk_free hb10 1
      replace e0 : W9.cell? ⟨w8.heap.size, 0, none⟩ = some (.int .i64 n) := e0
      replace e1 : W9.cell? ⟨w8.heap.size, 1, none⟩ = some (.slice ao8 L cap8) := e1
      obtain ⟨f0, f1, zf⟩ := boxC hB9 zf f0 f1
      obtain ⟨t0, t1, zt⟩ := boxC hB9 zt t0 t1
      have fu9 := (hB9.cell (p := ⟨w.heap.size + 1, 0, none⟩) (by show w.heap.size + 1 < _; have := B8.out.size; omega)).trans fu8
      have B9 : Hid (Below w3.heap.size w3 W9) := B8.out.trans (hB9.mono B8.out.size)
      have HC9 : Hid (∀ i, i < N → W9.cell? ⟨g2, off2 + i, none⟩ = some (.int .i64 (xs.getD i 0))) := fun i hi => ((HB3.out.trans (B9.out.mono (by omega))).cell (p := ⟨g2, off2 + i, none⟩) (by show g2 < _; omega)).trans (HCL.out i hi)
      have OB9 : Hid (OwnR W9.drew wr.heap.size w6.heap.size (.slice aob K capb) usb (bat N (upI 0 N))) := (OB8.out.below hB9 (by omega)).kept fun _ _ _ _ => rfl
      have O9 : Hid (OwnR W9.drew W7.heap.size w8.heap.size (.slice ao8 L cap8) us8 xss) := (O8.out.below hB9 (by omega)).kept fun _ _ _ _ => rfl
      have B10 := Lib.hid hb10
      have HREN : Hid (Calls Try.prog 130 #[.agg #[.int .i64 N, .slice aob K capb], .int .i64 n, .func (.func 131) #[] #[.pointer (some ⟨w.heap.size + 1, 0, none⟩)]] W9.drew fun e w' => ∃ u us, e = .returned (.agg #[.int .i64 n, u]) ∧ OwnR w' W9.drew.heap.size w'.heap.size u us (renP (lookI xs) (bat N (upI 0 N))) ∧ Below W9.drew.heap.size W9.drew w') :=
        renamed_SortOn N wr.heap.size w6.heap.size _ usb _ W9.drew OB9.out (by show _ ≤ W9.heap.size; omega) (bat_ok2 N hN1 hN8) (n : Int) #[.pointer (some ⟨w.heap.size + 1, 0, none⟩)] (lookI xs) (fun wq hq i hi => SortOn1_c wq (w.heap.size + 1) g2 off2 N cap2 xs ((hq.cell (p := ⟨w.heap.size + 1, 0, none⟩) (by show w.heap.size + 1 < W9.heap.size; omega)).trans fu9) (by omega) (fun j hj => (hq.cell (p := ⟨g2, off2 + j, none⟩) (by show g2 < W9.heap.size; have := B9.out.size; omega)).trans (HC9.out j hj)) i hi)
      have HLN : Hid (xss.length + (renP (lookI xs) (bat N (upI 0 N))).length ≤ 1000000) := by show _ ≤ _; rw [renP_len, ← HLEN.out]; have := netOk_len (bat_ok2 N hN1 hN8); omega
      have hzd : W7.heap.size ≤ W9.drew.heap.size := by show _ ≤ W9.heap.size; omega
      clear hb10 hB9 fu8
      have hfd : ∀ (a : Option Addr) (c : Nat) (w : World), (Instr.field 30 (.agg #[.int .i64 n, .slice a K c]) 1).run Try.prog w = .ok (.slice a K c) w := fun _ _ _ => by kernel_rfl
      go_wp2_with fail
      refine wpU_start (S := fun W' : World => W'.cell? ⟨w8.heap.size, 1, none⟩ = some (.slice ao8 L cap8) ∧ W'.cell? ⟨w6.heap.size, 0, none⟩ = some (.int .i64 N) ∧ W'.cell? ⟨w6.heap.size, 1, none⟩ = some (.slice aob K capb) ∧ W'.cell? ⟨w.heap.size, 0, none⟩ = some (.int .i64 n)) (m := 10) (by kernel_rfl) ?_
      have hHeld : (fun W' : World => W'.cell? ⟨w8.heap.size, 1, none⟩ = some (.slice ao8 L cap8) ∧ W'.cell? ⟨w6.heap.size, 0, none⟩ = some (.int .i64 N) ∧ W'.cell? ⟨w6.heap.size, 1, none⟩ = some (.slice aob K capb) ∧ W'.cell? ⟨w.heap.size, 0, none⟩ = some (.int .i64 n)) W9.drew := ⟨e1, t0, t1, f0⟩
      refine wpU_take (i := 0) (v := ?v0) rfl (by kernel_rfl) (fun _ _ _ h => h) ⟨by rfl, ?hy0⟩ hHeld ?rest0
      case hy0 => (intro w hSw; (try dsimp only at hSw); go_simp; try with_reducible rfl)
      try simp only [Act.put, List.setIfInBounds_toArray, List.set_cons_zero, List.set_cons_succ]
      refine wpU_take (i := 1) (v := ?v1) rfl (by kernel_rfl) (fun _ _ _ h => h) ⟨by rfl, ?hy1⟩ hHeld ?rest1
      case hy1 => (intro w hSw; (try dsimp only at hSw); go_simp; try with_reducible rfl)
      try simp only [Act.put, List.setIfInBounds_toArray, List.set_cons_zero, List.set_cons_succ]
      refine wpU_take (i := 2) (v := ?v2) rfl (by kernel_rfl) (fun _ _ _ h => h) ⟨by rfl, ?hy2⟩ hHeld ?rest2
      case hy2 => (intro w hSw; (try dsimp only at hSw); go_simp; try with_reducible rfl)
      try simp only [Act.put, List.setIfInBounds_toArray, List.set_cons_zero, List.set_cons_succ]
      refine wpU_take (i := 3) (v := ?v3) rfl (by kernel_rfl) (fun _ _ _ h => h) ⟨by rfl, ?hy3⟩ hHeld ?rest3
      case hy3 => (intro w hSw; (try dsimp only at hSw); go_simp; try with_reducible rfl)
      try simp only [Act.put, List.setIfInBounds_toArray, List.set_cons_zero, List.set_cons_succ]
      refine wpU_take (i := 4) (v := ?v4) rfl (by kernel_rfl) (fun _ _ _ h => h) ⟨by rfl, ?hy4⟩ hHeld ?rest4
      case hy4 => (intro w hSw; (try dsimp only at hSw); go_simp; try with_reducible rfl)
      try simp only [Act.put, List.setIfInBounds_toArray, List.set_cons_zero, List.set_cons_succ]
      refine wpU_take (i := 5) (v := ?v5) rfl (by kernel_rfl) (fun _ _ _ h => h) ⟨by rfl, ?hy5⟩ hHeld ?rest5
      case hy5 => (intro w hSw; (try dsimp only at hSw); go_simp; try with_reducible rfl)
      try simp only [Act.put, List.setIfInBounds_toArray, List.set_cons_zero, List.set_cons_succ]
      refine wpU_one (i := 6) (by kernel_rfl) rfl (fun K hK => ?_)
      go_simp; go_at_call 130; refine (HREN.out).mono ?_; rintro e w4 ⟨u4, us4, rfl, o4, b4⟩; obtain ⟨ao4, g4, cap4, e4, -, -, -⟩ := o4.rows; rw [renP_len, ← HK8.out] at e4; subst e4; have zb4 : W9.heap.size ≤ w4.heap.size := b4.size; have b4u := undrew b4; have x1 := (b4u.cell (p := ⟨w8.heap.size, 1, none⟩) (by show w8.heap.size < W9.heap.size; omega)).trans e1; have v0 := (b4u.cell (p := ⟨w6.heap.size, 0, none⟩) (by show w6.heap.size < W9.heap.size; omega)).trans t0; have v1 := (b4u.cell (p := ⟨w6.heap.size, 1, none⟩) (by show w6.heap.size < W9.heap.size; omega)).trans t1; have v2 := (b4u.cell (p := ⟨w.heap.size, 0, none⟩) (by show w.heap.size < W9.heap.size; omega)).trans f0; have O4 := Lib.hid o4; have BB4 := blk_below B10.out b4u (by show w8.heap.size < W9.heap.size; omega); have BX4 := Lib.hid BB4; have N4 := Lib.hid (O9.out.below b4 (by show w8.heap.size ≤ W9.heap.size; omega)); have B4 := Lib.hid b4u; clear o4 b4 b4u BB4
      refine hK.out _ _ (⟨x1, v0, v1, v2⟩) (fun hHeld => ?_)
      clear hK K
      try simp only [Act.put, List.setIfInBounds_toArray, List.set_cons_zero, List.set_cons_succ]
      refine wpU_one (i := 7) (by kernel_rfl) rfl (fun K hK => ?_)
      go_simp
      refine hK.out _ _ (⟨x1, v0, v1, v2⟩) (fun hHeld => ?_)
      clear hK K
      try simp only [Act.put, List.setIfInBounds_toArray, List.set_cons_zero, List.set_cons_succ]
      refine wpU_one (i := 8) (by kernel_rfl) rfl (fun K hK => ?_)
      refine wp_app_rowsB (.tmp 50) (.tmp 56) rfl w4 W7.heap.size w8.heap.size _ _ us8 us4 xss (renP (lookI xs) (bat N (upI 0 N))) N4.out (O4.out.mono (by show w8.heap.size ≤ W9.heap.size; omega) (Nat.le_refl _)) z8 (by omega) HLN.out rfl rfl ?_; intro ao5 L5 cap5 w5 us5 hL5 o5 b5 z5 k5; have BX5 := Lib.hid ((k5 w8.heap.size (Nat.le_refl _) (by omega)).trans BX4.out); have g1 := blk_cell BX5.out 1; have y5 := blk_free BX5.out 1; replace g1 : w5.cell? ⟨w8.heap.size, 1, none⟩ = some (.slice ao8 L cap8) := g1; have i0 := (b5.cell (p := ⟨w6.heap.size, 0, none⟩) (by show w6.heap.size < _; omega)).trans v0; have i1 := (b5.cell (p := ⟨w6.heap.size, 1, none⟩) (by show w6.heap.size < _; omega)).trans v1; have i2 := (b5.cell (p := ⟨w.heap.size, 0, none⟩) (by show w.heap.size < _; omega)).trans v2; have O5 := Lib.hid o5; have B5 := Lib.hid b5; clear o5 b5 k5
      refine hK.out _ _ (⟨g1, i0, i1, i2⟩) (fun hHeld => ?_)
      clear hK K
      try simp only [Act.put, List.setIfInBounds_toArray, List.set_cons_zero, List.set_cons_succ]
      refine wpU_take (i := 9) (v := ?v9) rfl (by kernel_rfl) (fun _ _ _ h => h) ⟨by rfl, ?hy9⟩ hHeld ?rest9
      case hy9 => (intro w hSw; (try dsimp only at hSw); go_simp; try with_reducible rfl)
      try simp only [Act.put, List.setIfInBounds_toArray, List.set_cons_zero, List.set_cons_succ]
      refine wpU_last (by kernel_rfl) rfl (fun K hK => ?_)
      go_simp
      refine hK.out _ _ ?_
      clear hK K
      try simp only [Act.put, List.setIfInBounds_toArray, List.set_cons_zero, List.set_cons_succ]
      refine wpU_done (by kernel_rfl) ?_ _
      obtain ⟨W10, hW10⟩ : ∃ W, W = w5.setCell ⟨w8.heap.size, 1, none⟩ (.slice ao5 L5 cap5) := ⟨_, rfl⟩
      try rw [← hW10]
      have hBX : W10.heap[w8.heap.size]? = some (.cells #[.int .i64 n, .slice ao5 L5 cap5] 30 (0, 0)) := by rw [hW10]; exact box_set1 BX5.out
      have hz10 : W10.heap.size = w5.heap.size := by rw [hW10]; exact World.size_setCell _ _ _
      have hO10 : OwnR W10 W7.heap.size W10.heap.size (.slice ao5 L5 cap5) us5 (sortOnX xss xs) := by
        rw [hz10, hW10, show sortOnX xss xs = xss ++ renP (lookI xs) (bat N (upI 0 N)) from by rw [HN.out]; rfl]
        exact O5.out.past_box BX5.out
      have HB10 : Hid (Below w3.heap.size w3 W10) := by
        show Below _ _ _
        rw [hW10]
        exact ((B9.out.trans (B4.out.mono (by have := B9.out.size; omega))).trans (B5.out.mono (by have := B9.out.size; omega))).setCell (by show w3.heap.size ≤ w8.heap.size; omega) _
      clear hW10 g1 i0 i1 i2 e0 e1 v0 v1 v2 x1 fu9
      have e0 := blk_cell hBX 0
      have e1 := blk_cell hBX 1
      replace e0 : W10.cell? ⟨w8.heap.size, 0, none⟩ = some (.int .i64 n) := e0
      replace e1 : W10.cell? ⟨w8.heap.size, 1, none⟩ = some (.slice ao5 L5 cap5) := e1
      have HRR := Lib.hid (blk_below HR9.out HB10.out hw3)
      have CK := Lib.hid (checked_c (n : Int) W7.heap.size W10.heap.size _ _ _ W10 hO10 (Nat.le_refl _))
      have hHB10 := HB10.out.size
      have O10 := Lib.hid hO10
      obtain ⟨b9, hb9⟩ : ∃ b, b = netOk (n : Int) (sortOnX xss xs) := ⟨_, rfl⟩
      rw [← hb9] at CK HP9
      clear hb9 hO10 hBX
      cases b9
      all_goals
        go_wp2_with fail
        refine CK.out.mono ?_
        rintro e w9 ⟨rfl, b9⟩
        have hr9 := blk_below HRR.out b9 (by omega)
        have q0 := blk_cell hr9 0
        have q1 := blk_cell hr9 1
        have x0 := blk_free hr9 0
        have x1 := blk_free hr9 1
        have HR9' := Lib.hid hr9
        have HO9 := Lib.hid (O10.out.later b9)
        have HB9' : Hid (Below w.heap.size w w9) := (HB3.out.trans (HB10.out.mono (by omega))).trans (b9.mono (by omega))
        have z9 := b9.size
        clear hr9 b9
      · simp only [Bool.false_eq_true, if_false]
        go_wp2
        refine bodyPost_ret (v := .tuple #[.agg #[.int .i64 0, .slice none 0 0], .bool false]) (by simp [results, Try.results56, go_sem, q0, q1]) rfl ?_
        rw [HP9.out]
        refine ⟨_, [], rfl, OwnR.nil _ _ _, ?_⟩
        first
          | exact (HB9'.out.setCell (by show w.heap.size ≤ w.heap.size + 1 + 1; omega) _).setCell (by show w.heap.size ≤ w.heap.size + 1 + 1; omega) _
          | exact HB9'.out
      · simp only [if_true]
        go_wp2
        refine bodyPost_ret (v := .tuple #[.agg #[.int .i64 (n : Int), .slice ao5 L5 cap5], .bool true]) (by simp [results, Try.results56, go_sem, q0, q1]) rfl ?_
        rw [HP9.out]
        refine ⟨_, us5, rfl, ?_, (HB9'.out.setCell (by show w.heap.size ≤ w.heap.size + 1 + 1; omega) _).setCell (by show w.heap.size ≤ w.heap.size + 1 + 1; omega) _⟩
        exact ((HO9.out.past_box HR9'.out).past_box (box_set0 HR9'.out)).mono (by omega) (by simp [World.setCell]; omega)

end Go.Proofs.Ytiodolbgapjmkaa
