/- Batcher's merge of two lists of wires, the reference's. Conditions: at most eight wires together. -/
import Derived.Test.YtiodolbgapjmkaaMrg
namespace Go.Proofs.Ytiodolbgapjmkaa
open Go.RowKit
set_option maxRecDepth 100000
set_option maxHeartbeats 4000000 in
theorem l08Merge_c (f : Nat) : ∀ (a b : List Int) (lo hi : Nat) (u v : Value) (w : World), a.length + b.length ≤ f → f ≤ 8 → IntsV w lo hi u a → IntsV w lo hi v b → hi ≤ w.heap.size →
    Calls Try.prog 207 #[u, v] w (RowC w (mrg f a b)) := by
  induction f with
  | zero =>
    intro a b lo hi u v w hf h8 hu hv hh
    obtain ⟨ao, g, off, cap, rfl, hcap, hao, hc⟩ := hu
    obtain ⟨ao2, g2, off2, cap2, rfl, hcap2, hao2, hc2⟩ := hv
    have hl : a.length = 0 := by omega
    rw [hl] at *
    clear hao hao2 hc hc2
    go_enter Try.func207, Try.ntmps207
    go_wp2
    go_ret
    exact ⟨_, [], rfl, (ownR_empty w).mono (Nat.le_refl _) (by simp), (Below.refl _ _).alloc (Nat.le_refl _) _⟩
  | succ f ih =>
    intro a b lo hi u v w hf h8 hu hv hh
    obtain ⟨ao, g, off, cap, rfl, hcap, hao, hc⟩ := hu
    obtain ⟨ao2, g2, off2, cap2, rfl, hcap2, hao2, hc2⟩ := hv
    obtain ⟨la, hla⟩ : ∃ la, la = a.length := ⟨_, rfl⟩
    obtain ⟨lb, hlb⟩ : ∃ lb, lb = b.length := ⟨_, rfl⟩
    have IH := Lib.hid ih
    have HC := Lib.hid hc
    have HC2 := Lib.hid hc2
    have HAO := Lib.hid hao
    have HAO2 := Lib.hid hao2
    clear ih hc hc2 hao hao2
    by_cases h0 : la = 0 ∨ lb = 0
    · rw [show mrg (f + 1) a b = [] from by unfold mrg; rw [if_pos (by rw [← hla, ← hlb]; exact h0)], ← hla, ← hlb]
      clear hla hlb HAO HAO2 HC HC2
      by_cases h00 : la = 0
      · subst h00
        go_enter Try.func207, Try.ntmps207
        go_wp2
        go_ret
        exact ⟨_, [], rfl, (ownR_empty w).mono (Nat.le_refl _) (by simp), (Below.refl _ _).alloc (Nat.le_refl _) _⟩
      · obtain rfl : lb = 0 := by omega
        have hne : ((la : Int) == 0) = false := by rw [beq_eq_false_iff_ne]; omega
        go_enter Try.func207, Try.ntmps207
        go_wp2
        go_ret
        exact ⟨_, [], rfl, (ownR_empty w).mono (Nat.le_refl _) (by simp), (Below.refl _ _).alloc (Nat.le_refl _) _⟩
    · have hne : ((la : Int) == 0) = false := by rw [beq_eq_false_iff_ne]; omega
      have hne2 : ((lb : Int) == 0) = false := by rw [beq_eq_false_iff_ne]; omega
      by_cases h1 : la = 1 ∧ lb = 1
      · obtain ⟨rfl, rfl⟩ := h1
        obtain ⟨rfl, q1, q2⟩ := HAO.out (by omega)
        obtain ⟨rfl, q3, q4⟩ := HAO2.out (by omega)
        obtain ⟨x, hx⟩ : ∃ x, x = a.getD 0 0 := ⟨_, rfl⟩
        obtain ⟨y, hy⟩ : ∃ y, y = b.getD 0 0 := ⟨_, rfl⟩
        rw [show mrg (f + 1) a b = [[x, y]] from by unfold mrg; rw [if_neg (by omega), if_pos (by omega), hx, hy], ← hla, ← hlb]
        have c1 : w.cell? ⟨g, off, none⟩ = some (.int .i64 x) := by rw [hx]; exact HC.out 0 (by omega)
        have c2 : w.cell? ⟨g2, off2, none⟩ = some (.int .i64 y) := by rw [hy]; exact HC2.out 0 (by omega)
        clear hla hlb hx hy
        go_enter Try.func207, Try.ntmps207
        go_wp2_with fail
        go_still_tail 6, (by kernel_rfl)
        change wpList _ _ _ _ _ w.drew
        have hsz : w.drew.heap.size = w.heap.size := rfl
        have hb2 : Below w.heap.size w w.drew := (Below.refl _ _).drew
        have hp := ownR_pair w.drew x y
        generalize w.drew = w2 at *
        rw [hsz] at hp
        have HP := Lib.hid hp
        have HB2 := Lib.hid hb2
        clear hp hb2
        go_wp2
        go_ret
        exact ⟨_, _, rfl, HP.out.mono (Nat.le_refl _) (by simp; omega), (HB2.out.alloc (by omega) _).alloc (by simp; omega) _⟩
      · have HU : Hid (IntsV w lo hi (.slice ao la cap) a) := ⟨ao, g, off, cap, by rw [hla], hcap, HAO.out, HC.out⟩
        have HV : Hid (IntsV w lo hi (.slice ao2 lb cap2) b) := ⟨ao2, g2, off2, cap2, by rw [hlb], hcap2, HAO2.out, HC2.out⟩
        have e0 := halfI_len0 a
        have e1 := halfI_len1 a
        have e2 := halfI_len0 b
        have e3 := halfI_len1 b
        obtain ⟨a0, ha0⟩ : ∃ x, x = halfI 0 a := ⟨_, rfl⟩
        obtain ⟨a1, ha1⟩ : ∃ x, x = halfI 1 a := ⟨_, rfl⟩
        obtain ⟨b0, hb0⟩ : ∃ x, x = halfI 0 b := ⟨_, rfl⟩
        obtain ⟨b1, hb1⟩ : ∃ x, x = halfI 1 b := ⟨_, rfl⟩
        obtain ⟨lw, hlw⟩ : ∃ x, x = (a1 ++ b1).length := ⟨_, rfl⟩
        obtain ⟨lv, hlv⟩ : ∃ x, x = (a0 ++ b0).length := ⟨_, rfl⟩
        rw [show mrg (f + 1) a b = mrg f a0 b0 ++ mrg f a1 b1 ++ cmpW (a0 ++ b0) (a1 ++ b1) (min lw (lv - 1)) from by
          show (if a.length = 0 ∨ b.length = 0 then _ else _) = _
          rw [if_neg (by omega), if_neg (by omega), ← ha0, ← ha1, ← hb0, ← hb1, ← hlw, ← hlv]]
        have h256 : 2 ^ f ≤ 2 ^ 8 := Nat.pow_le_pow_right (by omega) (by omega)
        rw [← ha0] at e0
        rw [← ha1] at e1
        rw [← hb0] at e2
        rw [← hb1] at e3
        have m0 := mrg_len f a0 b0 (by omega)
        have m1 := mrg_len f a1 b1 (by omega)
        have hlv2 : lv = a0.length + b0.length := by rw [hlv, List.length_append]
        have hlw2 : lw = a1.length + b1.length := by rw [hlw, List.length_append]
        have hcallA : ∀ (w1 : World) (p : Nat), p ≤ 1 → Below w.heap.size w w1 → Calls Try.prog 221 #[.slice ao la cap, .int .i64 p] w1 (IntC w1 (if p = 0 then a0 else a1)) := by
          intro w1 p hp hb
          have := l08Half_c lo hi _ a p w1 (HU.out.below hb hh) (by have := hb.size; omega) hp (by omega)
          rcases (by omega : p = 0 ∨ p = 1) with rfl | rfl
          · rw [if_pos rfl, ha0]; exact this
          · rw [if_neg (by omega), ha1]; exact this
        have hcallB : ∀ (w1 : World) (p : Nat), p ≤ 1 → Below w.heap.size w w1 → Calls Try.prog 221 #[.slice ao2 lb cap2, .int .i64 p] w1 (IntC w1 (if p = 0 then b0 else b1)) := by
          intro w1 p hp hb
          have := l08Half_c lo hi _ b p w1 (HV.out.below hb hh) (by have := hb.size; omega) hp (by omega)
          rcases (by omega : p = 0 ∨ p = 1) with rfl | rfl
          · rw [if_pos rfl, hb0]; exact this
          · rw [if_neg (by omega), hb1]; exact this
        have hne3 : ((la : Int) == 1) = true → ((lb : Int) == 1) = false := by
          intro h
          rw [beq_iff_eq] at h
          rw [beq_eq_false_iff_ne]
          omega
        have CA := Lib.hid hcallA
        have CB := Lib.hid hcallB
        have HLW := Lib.hid hlw
        have HLV := Lib.hid hlv
        have hla8 : la + lb ≤ 8 := by omega
        have hvpos : 0 < lv := by omega
        have hlv8 : lv ≤ 8 := by omega
        have hlw8 : lw ≤ 8 := by omega
        have hs1 : a0.length + b0.length ≤ f := by omega
        have hs2 : a1.length + b1.length ≤ f := by omega
        have hs3 : a0.length ≤ 8 ∧ a1.length ≤ 8 ∧ b0.length ≤ 8 ∧ b1.length ≤ 8 := by omega
        obtain ⟨RES, hRES⟩ : ∃ x, x = mrg f a0 b0 ++ mrg f a1 b1 ++ cmpW (a0 ++ b0) (a1 ++ b1) (min lw (lv - 1)) := ⟨_, rfl⟩
        rw [← hRES]
        have HRES := Lib.hid hRES
        have HLM : Hid ((mrg f a0 b0).length + (mrg f a1 b1).length ≤ 5000) := by show _ ≤ _; omega
        have HS : Hid (a0.length + b0.length ≤ f ∧ a1.length + b1.length ≤ f ∧ a0.length ≤ 8 ∧ a1.length ≤ 8 ∧ b0.length ≤ 8 ∧ b1.length ≤ 8) := ⟨hs1, hs2, hs3⟩
        rw [← hla, ← hlb]
        clear m0 m1 h256 hlv2 hlw2 hs1 hs2 hs3 hcap hcap2
        clear hRES hcallA hcallB ha0 ha1 hb0 hb1 hlw hlv HAO HAO2 HC HC2 HU HV hla hlb e0 e1 e2 e3
        have hfirst : ((la : Int) == 1) = false ∨ (((la : Int) == 1) = true ∧ ((lb : Int) == 1) = false) := by
          cases h : ((la : Int) == 1)
          · exact .inl rfl
          · exact .inr ⟨rfl, hne3 h⟩
        clear hne3
        rcases hfirst with hx1 | ⟨hx1, hx2⟩
        all_goals
          go_enter Try.func207, Try.ntmps207
          go_wp2_with fail
          refine (CA.out w 0 (by omega) (Below.refl _ _)).mono ?_
          rintro e w1 ⟨u0, rfl, p0, q1⟩
          obtain ⟨x0, n0, y0, rfl⟩ := p0.ints.shape
          have P0 : Hid (IntsV w1 w.heap.size w1.heap.size (.slice x0 n0 y0) a0) := p0.ints
          have z1 := q1.size
          have Q1 := Lib.hid q1
          clear p0 q1
          go_wp2_with fail
          refine (CB.out w1 0 (by omega) Q1.out).mono ?_
          rintro e w2 ⟨v0, rfl, p2, q2⟩
          obtain ⟨x2, n2, y2, rfl⟩ := p2.ints.shape
          have P2 : Hid (IntsV w2 0 w2.heap.size (.slice x2 n2 y2) b0) := p2.ints.mono (Nat.zero_le _) (Nat.le_refl _)
          have z2 := q2.size
          have P0' : Hid (IntsV w2 0 w2.heap.size (.slice x0 n0 y0) a0) := (P0.out.below q2 (Nat.le_refl _)).mono (Nat.zero_le _) z2
          have Q2 : Hid (Below w.heap.size w w2) := Q1.out.trans (q2.mono z1)
          clear p2 q2 P0 Q1
          go_wp2_with fail
          refine (IH.out a0 b0 0 w2.heap.size _ _ w2 HS.out.1 (by omega) P0'.out P2.out (Nat.le_refl _)).mono ?_
          rintro e w3 ⟨r0, rs0, rfl, o0, q3⟩
          have O0 := Lib.hid o0
          have z3 := q3.size
          have Q3 : Hid (Below w.heap.size w w3) := Q2.out.trans (q3.mono (by omega))
          clear o0 q3 P0' P2 Q2
          go_wp2_with fail
          refine (CA.out w3 1 (by omega) Q3.out).mono ?_
          rintro e w3a ⟨u1, rfl, p1, q3a⟩
          obtain ⟨x1, n1, y1, rfl⟩ := p1.ints.shape
          have P1 : Hid (IntsV w3a w3.heap.size w3a.heap.size (.slice x1 n1 y1) a1) := p1.ints
          have z3a := q3a.size
          have O0a := Lib.hid (O0.out.below q3a (Nat.le_refl _))
          have Q3a : Hid (Below w.heap.size w w3a) := Q3.out.trans (q3a.mono (by omega))
          clear p1 q3a O0 Q3
          go_wp2_with fail
          refine (CB.out w3a 1 (by omega) Q3a.out).mono ?_
          rintro e w3b ⟨v1, rfl, p3, q3b⟩
          obtain ⟨x3, n3, y3, rfl⟩ := p3.ints.shape
          have P3 : Hid (IntsV w3b 0 w3b.heap.size (.slice x3 n3 y3) b1) := p3.ints.mono (Nat.zero_le _) (Nat.le_refl _)
          have z3b := q3b.size
          have P1' : Hid (IntsV w3b 0 w3b.heap.size (.slice x1 n1 y1) a1) := (P1.out.below q3b (Nat.le_refl _)).mono (Nat.zero_le _) z3b
          have O0b := Lib.hid (O0a.out.below q3b (by omega))
          have Q3b : Hid (Below w.heap.size w w3b) := Q3a.out.trans (q3b.mono (by omega))
          clear p3 q3b O0a Q3a P1
          go_wp2_with fail
          refine (IH.out a1 b1 0 w3b.heap.size _ _ w3b HS.out.2.1 (by omega) P1'.out P3.out (Nat.le_refl _)).mono ?_
          rintro e w4 ⟨r1, rs1, rfl, o1, q4⟩
          have z4 := q4.size
          have O1 := Lib.hid (o1.mono (show w3.heap.size ≤ w3b.heap.size by omega) (Nat.le_refl _))
          have O0' := Lib.hid (O0b.out.below q4 (by omega))
          have Q4 : Hid (Below w.heap.size w w4) := Q3b.out.trans (q4.mono (by omega))
          have HL5 : Hid ((mrg f a0 b0).length + (mrg f a1 b1).length ≤ 1000000) := by show _ ≤ _; have := HLM.out; omega
          have z34 : w3.heap.size ≤ w4.heap.size := by omega
          clear o1 q4 O0b P1' P3 Q3b
          go_wp2_with (at_builtin; refine wpList_app_rows rfl (.tmp 39) (.tmp 44) rfl w4 w2.heap.size w3.heap.size r0 r1 rs0 rs1 _ _ O0'.out O1.out z3 z34 HL5.out rfl rfl ?_; intro ao5 L5 cap5 w5 vs5 hL5 o5 q5 z5; have O5 := Lib.hid o5; have Q5 : Hid (Below w.heap.size w w5) := Q4.out.trans (q5.mono (by omega)); clear o5 q5 Q4 O0' O1)
          refine (CA.out w5 0 (by omega) Q5.out).mono ?_
          rintro e w5a ⟨t0, rfl, p4, q5a⟩
          have P4 : Hid (OwnI w5a w5.heap.size w5a.heap.size t0 a0) := p4
          have z5a := q5a.size
          have O5a := Lib.hid (O5.out.below q5a (Nat.le_refl _))
          have Q5a : Hid (Below w.heap.size w w5a) := Q5.out.trans (q5a.mono (by omega))
          clear p4 q5a O5 Q5
          go_wp2_with fail
          refine (CB.out w5a 0 (by omega) Q5a.out).mono ?_
          rintro e w5b ⟨t1, rfl, p5, q5b⟩
          have P5 : Hid (IntsV w5b w5a.heap.size w5b.heap.size t1 b0) := p5.ints
          have z5b := q5b.size
          have P4b : Hid (OwnI w5b w5.heap.size w5a.heap.size t0 a0) := Own.below P4.out q5b (Nat.le_refl _)
          have O5b := Lib.hid (O5a.out.below q5b (by omega))
          have Q5b : Hid (Below w.heap.size w w5b) := Q5a.out.trans (q5b.mono (by omega))
          have HL6 : Hid (a0.length + b0.length ≤ 1000000000) := by show _ ≤ _; have := HS.out; omega
          have z55 : w5.heap.size ≤ w5b.heap.size := by omega
          clear p5 q5b O5a Q5a P4
          go_wp2_with (at_builtin; refine wpList_app_ints rfl (.tmp 47) (.tmp 49) rfl w5b w5.heap.size w5a.heap.size w5a.heap.size w5b.heap.size _ t1 a0 b0 P4b.out P5.out z55 HL6.out rfl rfl ?_; intro aoV6 LV6 capV6 w6 hL6 o6 q6 z6; have O6 : Hid (IntsV w6 w5.heap.size w6.heap.size (.slice aoV6 LV6 capV6) (a0 ++ b0)) := OwnI.ints o6; have O5f := Lib.hid (O5b.out.below q6 (Nat.le_refl _)); have Q6 : Hid (Below w.heap.size w w6) := Q5b.out.trans (q6.mono (by omega)); clear o6 q6 O5b Q5b P4b P5)
          refine (CA.out w6 1 (by omega) Q6.out).mono ?_
          rintro e w6a ⟨t2, rfl, p6, q6a⟩
          have P6 : Hid (OwnI w6a w6.heap.size w6a.heap.size t2 a1) := p6
          have z6a := q6a.size
          have O6a := Lib.hid (O6.out.below q6a (Nat.le_refl _))
          have O5g := Lib.hid (O5f.out.below q6a (by omega))
          have Q6a : Hid (Below w.heap.size w w6a) := Q6.out.trans (q6a.mono (by omega))
          clear p6 q6a O6 O5f Q6
          go_wp2_with fail
          refine (CB.out w6a 1 (by omega) Q6a.out).mono ?_
          rintro e w6b ⟨t3, rfl, p7, q6b⟩
          have P7 : Hid (IntsV w6b w6a.heap.size w6b.heap.size t3 b1) := p7.ints
          have z6b := q6b.size
          have P6b : Hid (OwnI w6b w6.heap.size w6a.heap.size t2 a1) := Own.below P6.out q6b (Nat.le_refl _)
          have O6b := Lib.hid (O6a.out.below q6b (by omega))
          have O5h := Lib.hid (O5g.out.below q6b (by omega))
          have Q6b : Hid (Below w.heap.size w w6b) := Q6a.out.trans (q6b.mono (by omega))
          have HL7 : Hid (a1.length + b1.length ≤ 1000000000) := by show _ ≤ _; have := HS.out; omega
          have z66 : w6.heap.size ≤ w6b.heap.size := by omega
          clear p7 q6b O6a O5g Q6a P6
          go_wp2_with (at_builtin; refine wpList_app_ints rfl (.tmp 52) (.tmp 54) rfl w6b w6.heap.size w6a.heap.size w6a.heap.size w6b.heap.size _ t3 a1 b1 P6b.out P7.out z66 HL7.out rfl rfl ?_; intro aoW7 LW7 capW7 w7 hL7 o7 q7 z7; have O6 := Lib.hid ((O6b.out.below q7 (Nat.le_refl _)).mono (Nat.le_refl _) z7); have O7i := Lib.hid ((OwnI.ints o7).mono z6 (Nat.le_refl _)); have O5f := Lib.hid (O5h.out.below q7 z6); have Q7 : Hid (Below w.heap.size w w7) := Q6b.out.trans (q7.mono (by omega)); clear o7 q7 O6b O5h Q6b P6b P7)
          obtain ⟨aoV, bV, offV, capV, eV, hV1, hV2, hV3⟩ := O6.out.cellK
          obtain ⟨aoW, bW, offW, capW, eW, hW1, hW2, hW3⟩ := O7i.out.cellK
          have O7 := O5f
          have HV3 := Lib.hid hV3
          have HW3 := Lib.hid hW3
          have hk7 : keptB w5.heap.size w7.heap.size w7 w7 (.slice ao5 L5 cap5) := fun k k1 k2 => ⟨rfl, fun e => by have := O7.out.top.lt k e; omega⟩
          have HK7 := Lib.hid hk7
          rw [← HLV.out] at eV hV1 hV2
          rw [← HLW.out] at eW hW1 hW2
          injection eV with eV1 eV2 eV3
          injection eW with eW1 eW2 eW3
          subst aoV6 LV6 capV6 aoW7 LW7 capW7
          obtain ⟨hV1, hVlo, hVhi⟩ := hV1 (by omega)
          subst hV1
          obtain ⟨m, hm⟩ : ∃ m, m = min lw (lv - 1) := ⟨_, rfl⟩
          rw [← hm] at HRES
          have HB7 : Hid ((mrg f a0 b0 ++ mrg f a1 b1).length ≤ 5000) := by show _ ≤ _; rw [List.length_append]; exact HLM.out
          obtain ⟨base, hbase⟩ : ∃ base, base = mrg f a0 b0 ++ mrg f a1 b1 := ⟨_, rfl⟩
          rw [← hbase] at HB7 O7 HRES
          obtain ⟨VV, hVV⟩ : ∃ VV, VV = a0 ++ b0 := ⟨_, rfl⟩
          obtain ⟨WW, hWW⟩ : ∃ WW, WW = a1 ++ b1 := ⟨_, rfl⟩
          rw [← hVV] at HV3 HLV
          rw [← hWW] at HW3 HLW
          rw [← hVV, ← hWW] at HRES
          clear hV3 hW3 hk7 hbase hVV hWW O6 O7i O5f
          go_wp2_with fail
          go_loopw [5, 8] (fun v i wr => ∃ k : Nat, k ≤ m ∧ i = .int .i64 k ∧ ∃ vs, OwnR wr w2.heap.size wr.heap.size v vs (base ++ cmpW VV WW k) ∧ Below w.heap.size w wr ∧ keptB w5.heap.size w7.heap.size w7 wr v ∧ w7.heap.size ≤ wr.heap.size) (fun _ i _ => m - (intOf i).toNat)
          case atStart => exact ⟨0, by omega, rfl, vs5, by simpa [cmpW] using O7.out.mono (Nat.le_refl _) (by omega), Q7.out, HK7.out, Nat.le_refl _⟩
          case round =>
            obtain ⟨k, hk, rfl, vs, hR, hB, hK, hzr⟩ := hrel
            have HR := Lib.hid hR
            have HB := Lib.hid hB
            have HK := Lib.hid hK
            have HL : Hid ((base ++ cmpW VV WW k).length ≤ 1000000) := by show _ ≤ _; rw [List.length_append, cmpW_len]; have := HB7.out; omega
            by_cases hlt : k < m
            · have hi1 : (k : Int) < (lw : Int) := by omega
              have hi2 : (k : Int) + 1 < (lv : Int) := by omega
              have hwpos : 0 < lw := by omega
              obtain ⟨hW1', hWlo, hWhi⟩ := hW1 hwpos
              subst hW1'
              obtain ⟨x, hx⟩ : ∃ x, x = WW.getD k 0 := ⟨_, rfl⟩
              obtain ⟨y, hy⟩ : ∃ y, y = VV.getD (k + 1) 0 := ⟨_, rfl⟩
              have c1 : wr.cell? ⟨bW, offW + k, none⟩ = some (.int .i64 x) := by rw [hx]; exact HW3.out wr _ HK.out k (by rw [← HLW.out]; omega)
              have c2 : wr.cell? ⟨bV, offV + (k + 1), none⟩ = some (.int .i64 y) := by rw [hy]; exact HV3.out wr _ HK.out (k + 1) (by rw [← HLV.out]; omega)
              have HXY : Hid (cmpP VV WW k = [if y < x then y else x, if x < y then y else x]) := cmpP_eq hx hy
              clear hR hB hK hx hy
              have HRd := Lib.hid (HR.out.kept (w' := wr.drew) fun _ _ _ _ => rfl)
              have hz2 : w2.heap.size ≤ wr.drew.heap.size := by show _ ≤ wr.heap.size; omega
              have hz7 : w7.heap.size ≤ wr.drew.heap.size := hzr
              have h0k : (0 : Int) ≤ (k : Int) + 1 := by omega
              have htn : ((k : Int) + 1).toNat = k + 1 := by omega
              have hwr : IntKind.i64.wrap ((k : Int) + 1) = (k : Int) + 1 := IntWalk.i64_in _ (by omega)
              go_wp2_with fail
              have hbW : bW < wr.heap.size := by omega
              have hbV : bV < wr.heap.size := by omega
              have hS : ∀ (X Y : Obj), (((wr.drew.alloc X).alloc Y).cell? ⟨bW, offW + k, none⟩ = some (.int .i64 x) ∧ ((wr.drew.alloc X).alloc Y).cell? ⟨bV, offV + (k + 1), none⟩ = some (.int .i64 y)) ∧
                  ((wr.drew.alloc X).cell? ⟨bW, offW + k, none⟩ = some (.int .i64 x) ∧ (wr.drew.alloc X).cell? ⟨bV, offV + (k + 1), none⟩ = some (.int .i64 y)) := fun X Y => by
                have hb1 : Below wr.heap.size wr (wr.drew.alloc X) := (Below.refl _ _).drew.alloc (Nat.le_refl _) _
                have hb2 : Below wr.heap.size wr ((wr.drew.alloc X).alloc Y) := hb1.alloc (by simp) _
                exact ⟨⟨(hb2.cell (p := ⟨bW, offW + k, none⟩) hbW).trans c1, (hb2.cell (p := ⟨bV, offV + (k + 1), none⟩) hbV).trans c2⟩, (hb1.cell (p := ⟨bW, offW + k, none⟩) hbW).trans c1, (hb1.cell (p := ⟨bV, offV + (k + 1), none⟩) hbV).trans c2⟩
              have HSS := Lib.hid hS
              clear hS
              go_region_held3 (fun W' => W'.cell? ⟨bW, offW + k, none⟩ = some (.int .i64 x) ∧ W'.cell? ⟨bV, offV + (k + 1), none⟩ = some (.int .i64 y)) (first | exact ⟨c1, c2⟩ | exact (HSS.out _ default).2 | exact (HSS.out _ _).1 | exact ⟨cc1, cc2⟩) (first | (refine wp_app_pair2 (.tmp 69) (.tmp 91) rfl wr.drew (if y < x then y else x) (if x < y then y else x) w2.heap.size _ vs (base ++ cmpW VV WW k) w5.heap.size w7.heap.size w7 HRd.out hz2 HK.out hz7 HL.out rfl rfl ?_; intro g' L' cap' w8 vs8 hL8 o8 q8 z8 k8 y8; have cc1 := (k8.cell bW (offW + k) hWlo hWhi).trans ((HK.out.cell bW (offW + k) hWlo hWhi).symm.trans c1); have cc2 := (k8.cell bV (offV + (k + 1)) hVlo hVhi).trans ((HK.out.cell bV (offV + (k + 1)) hVlo hVhi).symm.trans c2); have O8 := Lib.hid o8; have Q8 := Lib.hid (undrew q8); have K8 := Lib.hid k8; clear o8 q8 k8) | fail)
              all_goals
                clear hwr htn
                go_wp2
                go_roundw
                case rel => exact ⟨k + 1, by omega, by go_num, vs8, by rw [cmpW_succ, HXY.out, ← List.append_assoc]; exact O8.out, HB.out.trans (Q8.out.mono (by omega)), K8.out, by omega⟩
                case measure => simp [intOf]; omega
            · have HE : Hid (k = m) := by show k = m; omega
              have hend : ((k : Int) < (lw : Int)) = False ∨ (((k : Int) < (lw : Int)) = True ∧ ((k : Int) + 1 < (lv : Int)) = False) := by
                by_cases h : (k : Int) < (lw : Int)
                · right
                  exact ⟨eq_true h, eq_false (by omega)⟩
                · exact .inl (eq_false h)
              clear hR hB hK
              rcases hend with hx3 | ⟨hx3, hx4⟩
              all_goals
                go_wp2
                go_ret
                exact ⟨_, vs, rfl, by rw [HRES.out, ← HE.out]; exact HR.out.mono (by omega) (Nat.le_refl _), HB.out⟩
end Go.Proofs.Ytiodolbgapjmkaa
