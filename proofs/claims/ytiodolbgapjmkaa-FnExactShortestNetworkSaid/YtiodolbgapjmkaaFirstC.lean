/- The reference's search for a shortest network, by its contract. Conditions: at most eight wires, at most five comparators. -/
import Derived.Test.YtiodolbgapjmkaaVisit
import Derived.Test.YtiodolbgapjmkaaCountC
import Derived.Test.YtiodolbgapjmkaaRowApp
namespace Go.Proofs.Ytiodolbgapjmkaa
open Go.RowKit Go.Sort
set_option maxRecDepth 100000
set_option linter.unusedVariables false
set_option linter.unusedSimpArgs false

theorem rows_top_apart {w : World} {lo hi lo2 hi2 : Nat} {v u : Value} {vs us : List Value} {xss yss : List (List Int)} (h : OwnR w lo hi v vs xss) (k : OwnR w lo2 hi2 u us yss) : ∀ t ∈ us, t.ownBlock = none ∨ t.ownBlock ≠ v.ownBlock := by
  intro t ht
  obtain ⟨i, hi', rfl⟩ := List.getElem_of_mem ht
  have hx : i < yss.length := by rw [← k.len]; exact hi'
  have hr := k.row i us[i] yss[i] (List.getElem?_eq_getElem hi') (List.getElem?_eq_getElem hx)
  rcases hr.row.2 with ⟨e, _⟩ | ⟨g, cap, cur, e, _, hh, _⟩
  · left; rw [e]; rfl
  · right
    rcases h.top.row.2 with ⟨e', _⟩ | ⟨g', cap', cur', e', _, hh', _⟩
    · rw [e, e']; simp [Value.ownBlock]
    · rw [e, e']
      simp only [Value.ownBlock, ne_eq, Option.some.injEq]
      intro hc; subst hc
      rw [hh] at hh'
      simp at hh'
/-- 'append(out, more...)' where no row of the one shares its block with a row of the other. -/
theorem wpList_app_rowsG {ops : Array Oper} {rest : List Oper} {o : Oper} {a : Act} {Q : Exit → Act → World → Prop} (hgd : o.guard = none) (s x : Operand)
    (ho : o.op = .call { callee := .builtin .append, args := #[s, x], argTypes := #[28, 28] })
    (W : World) (lo : Nat) (v u : Value) (vs us : List Value) (xss yss : List (List Int)) (hR : OwnR W lo W.heap.size v vs xss) (hS : OwnR W lo W.heap.size u us yss) (hap : ∀ a ∈ vs, ∀ b ∈ us, apartV a b) (hlo : lo ≤ W.heap.size)
    (hlen : xss.length + yss.length ≤ 1000000) (hs : a.eval s = v) (hx : a.eval x = u)
    (h : ∀ ao L cap w' vs', Hid (L = xss.length + yss.length) → OwnR w' lo w'.heap.size (.slice ao L cap) vs' (xss ++ yss) → Below lo W w' → wpList Try.prog ops Q rest (a.put o.dst (.slice ao L cap)) w') :
    wpList Try.prog ops Q (o :: rest) a W := by
  refine wpList_plain hgd fun K hK => ?_
  replace h := fun ao L cap w' vs' h1 h2 h3 => hK _ _ (h ao L cap w' vs' h1 h2 h3)
  obtain ⟨i0, hi, hz0, hz1, hz2⟩ := info_parts Try.infoS
  have hl1 := hR.len
  have hl2 := hS.len
  have htop := rows_top_apart hR hS
  rcases hS.top.row.2 with ⟨hu, hn⟩ | ⟨g, cap, cur, hu, hg, hh, hnc, hm, hcs, ht⟩
  · have hus : us = [] := List.eq_nil_of_length_eq_zero hn
    have hys : yss = [] := List.eq_nil_of_length_eq_zero (by omega)
    have hrun := run_append_owned_none (P := Try.prog) (w := W) lo 28 o.type 22 i0 1 Try.underlying28 hi v vs.length vs hR.top.row
    have hK : K (a.put o.dst v) W := by
      obtain ⟨ao, g, cap, e, -, -, -⟩ := hR.rows
      rw [e]
      refine h ao _ cap W vs (by show _ = _; rw [hys]; rfl) ?_ (Below.refl _ _)
      rw [← e, hys, List.append_nil]
      exact hR
    rw [hu] at hx
    unfold Oper.wp
    simp [execOp, ho, resolve, invoke, builtin, hs, hx, hrun, Result.andThen]
    exact hK
  · have hcell : ∀ (j : Nat) (t : Value), us[j]? = some t → W.cell? ((⟨g, 0, none⟩ : Addr).add j) = some t := hS.top.row.cells (g := g) (by rw [hu]; rfl)
    refine wp_append_own W s x 28 ho lo 22 i0 (.slice none 0 0) 1 24 Try.underlying28 hi hz0 hz1 hz2 rfl (by decide) v vs.length vs hs hR.top.row ⟨g, 0, none⟩ us.length cap us (by rw [hx, hu]) (by simp) ?_ ?_ ?_ ?_ ?_ ?_
    · exact hcell
    · exact hS.oneCell
    · unfold maxLen; omega
    · omega
    · omega
    · intro v' w' hown hg hnil
      have ho2 : OwnR w' lo w'.heap.size v' (vs ++ us) (xss ++ yss) := hR.appended (hi2 := W.heap.size) hl2 (fun i t xs a b => hS.row i t xs a b) hS.sep hap htop hown hg
      obtain ⟨ao, g2, cap2, e, -, -, -⟩ := ho2.rows
      rw [List.length_append] at e
      subst e
      exact h ao _ cap2 w' _ rfl ho2 ((Below.refl _ _).grown hg (by omega) fun k hk => (hR.top.row.lt k hk).1)
theorem fstF_len {f : List Int → List (List Int) × Bool} {p : Nat} (h : ∀ r, (f r).1.length ≤ p) : ∀ rs : List (List Int), (fstF f rs).1.length ≤ p + 1
  | [] => by simp [fstF]
  | r :: rs => by
    unfold fstF
    split
    · have := h r; simp; omega
    · exact fstF_len h rs
theorem fstL_len (n : Nat) : ∀ (p : Nat) (S : List Int), (fstL n p S).1.length ≤ p
  | 0, S => by unfold fstL; split <;> simp
  | p + 1, S => by
    unfold fstL
    split
    · simp
    · exact fstF_len (fun r => fstL_len n p _) _
/-- The call hands back rows in new memory, and a truth value. -/
def FirstC (w : World) (r : List (List Int) × Bool) (e : Ending) (w' : World) : Prop :=
  ∃ ao L cap vs, e = .returned (.tuple #[.slice ao L cap, .bool r.2]) ∧ OwnR w' w.heap.size w'.heap.size (.slice ao L cap) vs r.1 ∧ Below w.heap.size w w'
theorem l12First_0 (n lo hi : Nat) (v : Value) (S : List Int) (w : World) (hn : n ≤ 8) (hv : IntsV w lo hi v S) (hl : S.length ≤ 256) :
    Calls Try.prog 158 #[.int .i64 n, .int .i64 (0 : Nat), v] w (FirstC w (fstL n 0 S)) := by
  obtain ⟨ao, g, off, cap, rfl, hcap, hao, hc⟩ := hv
  clear hc hao
  obtain ⟨L, hL⟩ : ∃ L, L = S.length := ⟨_, rfl⟩
  have HE : Hid (fstL n 0 S = if L = n + 1 then ([], true) else ([], false)) := by show _ = _; rw [hL]; rfl
  rw [← hL] at hcap hl ⊢
  clear hL
  have HO := Lib.hid (ownR_empty w)
  by_cases h : L = n + 1
  · have hi : (L : Int) = (n : Int) + 1 := by omega
    rw [if_pos h] at HE
    go_enter Try.func158, Try.ntmps158
    go_wp2
    go_ret2
    rw [HE.out]
    exact ⟨_, _, _, [], rfl, HO.out.mono (Nat.le_refl _) (by simp), (Below.refl _ _).alloc (Nat.le_refl _) _⟩
  · have hi : ¬ (L : Int) = (n : Int) + 1 := by omega
    rw [if_neg h] at HE
    go_enter Try.func158, Try.ntmps158
    go_wp2
    go_ret2
    rw [HE.out]
    exact ⟨_, _, _, [], rfl, OwnR.nil _ _ _, Below.refl _ _⟩
set_option maxHeartbeats 1000000 in
theorem l12First_c (n : Nat) (hn : n ≤ 8) : ∀ p : Nat, p ≤ 5 → ∀ (S : List Int) (v : Value) (lo hi : Nat) (w : World), IntsV w lo hi v S → hi ≤ w.heap.size → masksP n S → 0 < S.length → S.length ≤ 256 →
    Calls Try.prog 158 #[.int .i64 n, .int .i64 p, v] w (FirstC w (fstL n p S))
  | 0, _, S, v, lo, hi, w, hv, hhi, hS, h0, hl => l12First_0 n lo hi v S w hn hv hl
  | p + 1, hp, S, v, lo, hi, w, hv, hhi, hS, h0, hl => by
    have IH := Lib.hid (l12First_c n hn p (by omega))
    have HV := Lib.hid hv
    obtain ⟨ao, g, off, cap, rfl, hcap, hao, hc⟩ := hv
    clear hc hao
    obtain ⟨L, hL⟩ : ∃ L, L = S.length := ⟨_, rfl⟩
    have HL := Lib.hid hL
    obtain ⟨R, hR⟩ : ∃ R, R = fstL n (p + 1) S := ⟨_, rfl⟩
    have HR : Hid (R = if L = n + 1 then ([], false) else fstF (fun r => fstL n p (nxr n S r)) (prs n)) := by show _ = _; rw [hR, hL]; rfl
    rw [← hL] at HV hcap h0 hl ⊢
    rw [← hR]
    clear hR hL
    obtain ⟨q, hq⟩ : ∃ q, q = p + 1 := ⟨_, rfl⟩
    have HQ := Lib.hid hq
    rw [← hq]
    have hq0 : ¬ (q : Int) = 0 := by omega
    have hqb : ((q : Int) == 0) = false := by simpa using hq0
    have hq1 : (q : Int) - 1 = (p : Int) := by omega
    have hq5 : q ≤ 5 := by omega
    clear hq
    have HO := Lib.hid (ownR_empty w)
    by_cases hln : L = n + 1
    · have hi : (L : Int) = (n : Int) + 1 := by omega
      rw [if_pos hln] at HR
      go_enter Try.func158, Try.ntmps158
      go_wp2
      go_ret2
      rw [HR.out]
      exact ⟨_, _, _, [], rfl, HO.out.mono (Nat.le_refl _) (by simp), (Below.refl _ _).alloc (Nat.le_refl _) _⟩
    have hli : ¬ (L : Int) = (n : Int) + 1 := by omega
    have hlb : ((L : Int) == (n : Int) + 1) = false := by simpa using hli
    rw [if_neg hln] at HR
    clear HO
    have CL : Hid (Calls Try.prog 187 #[.int .i64 n] w (RowC w (prs n))) := l12All_c n w hn
    obtain ⟨F, hF⟩ : ∃ F : List Int → List (List Int) × Bool, F = fun r => fstL n p (nxr n S r) := ⟨_, rfl⟩
    have HF := Lib.hid hF
    rw [← hF] at HR
    clear hF
    go_enter Try.func158, Try.ntmps158
    go_wp2_with fail
    refine CL.out.mono ?_
    rintro e w1 ⟨u1, us1, rfl, o1, b1⟩
    obtain ⟨ao1, g1, cap1, rfl, hcap1, hao1, hrow1⟩ := o1.rows
    have HROW := Lib.hid hrow1
    have B1 := Lib.hid b1
    have hzw := b1.size
    obtain ⟨K, hK⟩ : ∃ K, K = (prs n).length := ⟨_, rfl⟩
    have HK := Lib.hid hK
    have hK64 : K ≤ 64 := by rw [hK]; exact prs_len hn
    rw [← hK] at HROW hcap1 hao1 ⊢
    clear hrow1 o1 b1 hK
    go_wp2_with fail
    go_loopw [25] (fun t wr => ∃ j : Nat, j ≤ K ∧ t = .int .i64 j ∧ fstF F ((prs n).drop j) = R ∧ Below w1.heap.size w1 wr) (fun t _ => K - (intOf t).toNat)
    case atStart => exact ⟨0, Nat.zero_le _, rfl, by rw [HR.out]; rfl, Below.refl _ _⟩
    case round =>
      obtain ⟨j, hj, rfl, hfj, hb⟩ := hrel
      have HFJ := Lib.hid hfj
      have hz := hb.size
      have HB : Hid (Below w.heap.size w wr) := B1.out.trans (hb.mono hzw)
      clear hfj
      by_cases hlt : j < K
      · have hji : (j : Int) < (K : Int) := by omega
        obtain ⟨a, b, hab, ha, hbn⟩ := prs_pair (n := n) (j := j) (by rw [← HK.out]; exact hlt)
        obtain ⟨h2, h3⟩ := HROW.out j hlt
        rw [hab] at h3
        obtain ⟨ha1, hg0, hg1⟩ := hao1 (by omega)
        subst ha1
        have c1 := (hb.cell (p := ⟨g1, j, none⟩) (by show g1 < _; exact hg1)).trans h2
        obtain ⟨ao2, g2, cap2, e2, -, -, -⟩ := OwnI.view h3
        rw [e2] at c1 h3
        have O3w : Hid (OwnI wr w.heap.size w1.heap.size (.slice ao2 2 cap2) [(a : Int), (b : Int)]) := h3.later hb
        have O3 : Hid (OwnI wr w.heap.size wr.heap.size (.slice ao2 2 cap2) [(a : Int), (b : Int)]) := Own.mono (h3.later hb) (Nat.le_refl _) hz
        obtain ⟨W2, hW2⟩ : ∃ W, W = wr.alloc (.cells #[.slice ao2 2 cap2] 22) := ⟨_, rfl⟩
        have HW2 := Lib.hid hW2
        have O4 := Lib.hid (ownR_one O3.out (by omega))
        rw [← hW2] at O4
        have B2 : Hid (Below wr.heap.size wr W2) := by show Below _ _ _; rw [hW2]; exact (Below.refl _ _).alloc (Nat.le_refl _) _
        have HB2 : Hid (Below w.heap.size w W2) := HB.out.trans (B2.out.mono (by omega))
        have hz2 := HB2.out.size
        have CA := Lib.hid (l04All_c n _ _ lo hi _ _ _ S a b W2 hn O4.out (Nat.le_refl _) (HV.out.below HB2.out hhi) (by omega) hS (by rw [← HL.out]; exact h0) (by rw [← HL.out]; exact hl) (by omega) hbn (by omega))
        have HDJ : Hid ((prs n).drop j = [(a : Int), (b : Int)] :: (prs n).drop (j + 1)) := by
          show _ = _
          have hjl : j < (prs n).length := by rw [← HK.out]; exact hlt
          rw [List.drop_eq_getElem_cons hjl]
          congr 1
          rw [← hab, List.getD_eq_getElem?_getD, List.getElem?_eq_getElem hjl]; rfl
        clear hW2 h2 h3 e2
        go_wp2_with fail
        try rw [← HW2.out]
        refine CA.out.mono ?_
        rintro e w3 ⟨u3, rfl, o3, b3⟩
        have hz3 := b3.size
        have hlt8 : ∀ m, m < 2 ^ n → stp m a b < 2 ^ n := by
          intro m hm
          have := (bitsP_lt' (netOk_one hn (show a < n by omega) hbn (by omega)) hm).1
          simpa [bitsP] using this
        have CB := Lib.hid (IH.out _ u3 _ _ w3 o3.ints (Nat.le_refl _) (nxt_masks n S a b) (nxt_pos hS (by rw [← HL.out]; exact h0) hlt8) (nxt_len hn S a b))
        obtain ⟨z, hz9⟩ : ∃ z, z = fstL n p (nxt n S a b) := ⟨_, rfl⟩
        have HZL : Hid (z.1.length ≤ p) := by show _ ≤ _; rw [hz9]; exact fstL_len n p _
        have HFZ : Hid (F [(a : Int), (b : Int)] = z) := by show _ = _; rw [HF.out, hz9]; simp [nxr]
        rw [← hz9] at CB
        have HB3 : Hid (Below w1.heap.size w1 w3) := hb.trans ((B2.out.trans (b3.mono B2.out.size)).mono hz)
        have HB3w : Hid (Below wr.heap.size wr w3) := B2.out.trans (b3.mono B2.out.size)
        obtain ⟨z1, z2⟩ := z
        clear hlt8 hz9 o3 b3
        go_wp2_with fail
        refine CB.out.mono ?_
        rintro e w4 ⟨ao4, L4, cap4, vs4, rfl, o4, b4⟩
        have O5 := Lib.hid o4
        have HB4 : Hid (Below w1.heap.size w1 w4) := HB3.out.trans (b4.mono HB3.out.size)
        have HBw4 : Hid (Below wr.heap.size wr w4) := HB3w.out.trans (b4.mono HB3w.out.size)
        have hz43 := b4.size
        have hz31 := HB3.out.size
        have hz4 := HBw4.out.size
        have hzl := HZL.out
        clear o4 b4
        cases z2
        · have HRN : Hid (fstF F ((prs n).drop (j + 1)) = R) := by
            show _ = _
            rw [← HFJ.out, HDJ.out]
            show _ = (if (F [(a : Int), (b : Int)]).2 then _ else _)
            rw [HFZ.out]
            rfl
          go_wp2_with fail
          go_roundw
          case rel => exact ⟨j + 1, by omega, by go_num, HRN.out, HB4.out⟩
          case measure => simp [intOf]; omega
        · have HRY : Hid (R = ([[(a : Int), (b : Int)]] ++ z1, true)) := by
            show _ = _
            rw [← HFJ.out, HDJ.out]
            show (if (F [(a : Int), (b : Int)]).2 then _ else _) = _
            rw [HFZ.out]
            rfl
          have P4 : Hid (OwnI w4 w.heap.size w1.heap.size (.slice ao2 2 cap2) [(a : Int), (b : Int)]) := Own.below O3w.out HBw4.out (by omega)
          obtain ⟨W5, hW5⟩ : ∃ W, W = w4.alloc (.cells #[.slice ao2 2 cap2] 22) := ⟨_, rfl⟩
          have HW5 := Lib.hid hW5
          have P5 := Lib.hid (ownR_one (Own.mono P4.out (Nat.le_refl _) (by omega)) (show w.heap.size ≤ w4.heap.size by omega))
          rw [← hW5] at P5
          have B5 : Hid (Below w4.heap.size w4 W5) := by show Below _ _ _; rw [hW5]; exact (Below.refl _ _).alloc (Nat.le_refl _) _
          have hz5 := B5.out.size
          have Q5 : Hid (OwnR W5 w.heap.size W5.heap.size (.slice ao4 L4 cap4) vs4 z1) := (O5.out.below B5.out (Nat.le_refl _)).mono (by omega) hz5
          have HAP : Hid (∀ x ∈ [(Value.slice ao2 2 cap2)], ∀ y ∈ vs4, apartV x y) := by
            intro x hx y hy
            rw [List.mem_singleton] at hx
            subst hx
            unfold apartV
            cases hob : (Value.slice ao2 2 cap2).ownBlock with
            | none => exact .inl rfl
            | some k =>
              right
              intro e
              have l1 := P4.out.lt k hob
              obtain ⟨t, ht, rfl⟩ := List.getElem_of_mem hy
              have hx2 : t < z1.length := by rw [← O5.out.len]; exact ht
              have l2 := (O5.out.row t vs4[t] z1[t] (List.getElem?_eq_getElem ht) (List.getElem?_eq_getElem hx2)).row.lt k e.symm
              have l3 := P4.out.row.lt k hob
              have := (P4.out.lt k hob)
              omega
          have hlo5 : w.heap.size ≤ W5.heap.size := by omega
          clear hW5
          go_wp2_with (at_builtin; (try rw [← HW5.out]); refine wpList_app_rowsG rfl (.tmp 43) (.tmp 44) rfl W5 w.heap.size _ _ _ vs4 [[(a : Int), (b : Int)]] z1 P5.out Q5.out HAP.out hlo5 (by simp; omega) rfl rfl ?_; intro ao6 L6 cap6 w6 vs6 hL6 o6 b6; have O6 := Lib.hid o6; have B6 := Lib.hid b6; clear o6 b6)
          go_ret2
          rw [HRY.out]
          exact ⟨_, _, _, vs6, rfl, O6.out, (HB.out.trans ((HBw4.out.trans (B5.out.mono (by omega))).mono (by omega))).trans B6.out⟩
      · have hji : ¬ (j : Int) < (K : Int) := by omega
        have HE : Hid (R = ([], false)) := by
          show _ = _
          rw [← HFJ.out, List.drop_of_length_le (by rw [← HK.out]; omega)]
          rfl
        go_wp2
        go_ret2
        rw [HE.out]
        exact ⟨_, _, _, [], rfl, OwnR.nil _ _ _, HB.out⟩
end Go.Proofs.Ytiodolbgapjmkaa
