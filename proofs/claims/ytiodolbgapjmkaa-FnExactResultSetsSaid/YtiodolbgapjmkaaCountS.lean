/- The reference's count of networks: the list of all comparators, the image of a set. Conditions: at most eight wires. -/
import Derived.Test.YtiodolbgapjmkaaMaskSetC
import Derived.Test.YtiodolbgapjmkaaNet2
import Derived.Test.YtiodolbgapjmkaaDraw
namespace Go.Proofs.Ytiodolbgapjmkaa
open Go.RowKit Go.Sort
set_option maxRecDepth 100000
set_option linter.unusedVariables false
set_option linter.unusedSimpArgs false

/-- All comparators of n wires, in order. -/
def prs (n : Nat) : List (List Int) := net2 (fun s => n - 1 - s) (fun (s k : Nat) => [(s : Int), ((s + 1 + k : Nat) : Int)]) n
set_option maxHeartbeats 1000000 in
theorem l12All_c (n : Nat) (w : World) (hn : n ≤ 8) : Calls Try.prog 187 #[.int .i64 n] w (RowC w (prs n)) := by
  obtain ⟨cn, hcn⟩ : ∃ cn : Nat → Nat, cn = (fun s => n - 1 - s) := ⟨_, rfl⟩
  obtain ⟨PP, hPP⟩ : ∃ PP : Nat → Nat → List Int, PP = (fun (s k : Nat) => [(s : Int), ((s + 1 + k : Nat) : Int)]) := ⟨_, rfl⟩
  have HR : Hid (prs n = net2 cn PP n) := by show _ = _; rw [hcn, hPP]; rfl
  have HCN : Hid (∀ s, cn s = n - 1 - s) := by rw [hcn]; exact fun _ => rfl
  have HPP : Hid (∀ s k, PP s k = [(s : Int), ((s + 1 + k : Nat) : Int)]) := by rw [hPP]; exact fun _ _ => rfl
  have HL0 : Hid (∀ t, (net2 cn PP t).length ≤ 8 * t) := net2_len cn PP (by intro s; have := HCN.out s; omega)
  obtain ⟨RES, hRES⟩ : ∃ R, R = prs n := ⟨_, rfl⟩
  rw [← hRES] at HR ⊢
  obtain ⟨W0, hW0⟩ : ∃ W, W = w.alloc (.cells #[] 22) := ⟨_, rfl⟩
  have HO0 : Hid (OwnR W0 w.heap.size W0.heap.size (.slice (some ⟨w.heap.size, 0, none⟩) 0 0) [] []) := by show OwnR _ _ _ _ _ _; rw [hW0]; exact (ownR_empty w).mono (Nat.le_refl _) (by simp)
  have HB0 : Hid (Below w.heap.size w W0) := by show Below _ _ _; rw [hW0]; exact (Below.refl _ _).alloc (Nat.le_refl _) _
  have HW := Lib.hid hW0
  clear hW0 hRES hcn hPP
  go_enter Try.func187, Try.ntmps187
  go_wp2_with fail
  try rw [← HW.out]
  go_loopw [3, 4] (fun v i wr => ∃ (t : Nat) (vs : List Value), t ≤ n ∧ i = .int .i64 t ∧ OwnR wr w.heap.size wr.heap.size v vs (net2 cn PP t) ∧ Below w.heap.size w wr) (fun _ i _ => n - (intOf i).toNat)
  case atStart => exact ⟨0, [], Nat.zero_le _, rfl, HO0.out, HB0.out⟩
  case round =>
    obtain ⟨t, vs, ht, rfl, ho, hb⟩ := hrel
    have HO := Lib.hid ho
    have HB := Lib.hid hb
    clear ho hb
    by_cases hlt : t < n
    · have hti : (t : Int) < (n : Int) := by omega
      go_wp2_with fail
      go_loopw [3, 5] (fun v i wr => ∃ (k : Nat) (vs : List Value), k ≤ cn t ∧ i = .int .i64 ((t + 1 + k : Nat) : Int) ∧ OwnR wr w.heap.size wr.heap.size v vs (net2 cn PP t ++ (List.range k).map (PP t)) ∧ Below w.heap.size w wr) (fun _ i _ => n - (intOf i).toNat)
      case atStart => exact ⟨0, vs, Nat.zero_le _, by go_num, by simpa using HO.out, HB.out⟩
      case round =>
        obtain ⟨k, vs2, hk, rfl, ho2, hb2⟩ := hrel
        have hcnt := HCN.out t
        have HO2 := Lib.hid ho2
        have HB2 := Lib.hid hb2
        have hz := hb2.size
        have HL : Hid ((net2 cn PP t ++ (List.range k).map (PP t)).length ≤ 1000000) := by
          show _ ≤ _; rw [List.length_append, List.length_map, List.length_range]; have := HL0.out t; omega
        have HPT : Hid (net2 cn PP t ++ (List.range (k + 1)).map (PP t) = (net2 cn PP t ++ (List.range k).map (PP t)) ++ [[(t : Int), ((t + 1 + k : Nat) : Int)]]) := by show _ = _; rw [row_succ, HPP.out]
        clear ho2 hb2
        obtain ⟨q, hq⟩ : ∃ q, q = t + 1 + k := ⟨_, rfl⟩
        have HQ := Lib.hid hq
        by_cases hlk : q < n
        · have hqi : (q : Int) < (n : Int) := by omega
          rw [← hq] at HPT ⊢
          have hk2 : k + 1 ≤ cn t := by omega
          clear hq hcnt
          go_wp2_with (at_builtin; refine wpList_app_pair rfl (.tmp 19) (.tmp 23) rfl wr t q w.heap.size _ vs2 _ HO2.out hz HL.out rfl rfl ?_; intro g5 L5 cap5 w5 vs5 hL5 o5 b5 z5; have O5 := Lib.hid o5; have B5 := Lib.hid b5; clear o5 b5)
          go_roundw
          case rel => exact ⟨k + 1, vs5, hk2, by have := HQ.out; go_num, by rw [HPT.out]; exact O5.out, HB2.out.trans B5.out⟩
          case measure => simp [intOf]; omega
        · have hqi : ¬ (q : Int) < (n : Int) := by omega
          have HE : Hid (net2 cn PP t ++ (List.range k).map (PP t) = net2 cn PP (t + 1)) := by show _ = _; rw [net2_succ, show k = cn t by omega]
          rw [← hq]
          clear hq hcnt
          go_wp2_with fail
          go_roundw
          case rel => exact ⟨t + 1, vs2, by omega, by go_num, by rw [← HE.out]; exact HO2.out, HB2.out⟩
          case measure => simp [intOf]; omega
    · have hti : ¬ (t : Int) < (n : Int) := by omega
      have HE : Hid (t = n) := by show t = n; omega
      go_wp2
      go_ret
      exact ⟨_, vs, rfl, by rw [HR.out, ← HE.out]; exact HO.out, HB.out⟩
theorem made_cell (w : World) (z : Value) (t : TypeId) {P m : Nat} (hm : m < P) : (w.alloc (.cells (madeCells #[z] P) t)).cell? ⟨w.heap.size, m, none⟩ = some z := by
  obtain ⟨c, hc1, -, hc2⟩ := World.rowIs_made w z P t
  have h2 := hc2 m hm
  unfold World.cell?
  rw [hc1]
  simpa using h2
theorem netOk_one {n i k : Nat} (hn : n ≤ 8) (hi : i < n) (hk : k < n) (hne : i ≠ k) : netOk n [[(i : Int), (k : Int)]] = true := by
  simp [netOk, pairOk, inB]
  omega
set_option maxHeartbeats 1000000 in
theorem l04All_c (n lo hi lo2 hi2 : Nat) (v v2 : Value) (vs : List Value) (S : List Int) (i k : Nat) (w : World) (hn : n ≤ 8) (hr : OwnR w lo hi v vs [[(i : Int), (k : Int)]]) (hhi : hi ≤ w.heap.size)
    (hv : IntsV w lo2 hi2 v2 S) (hhi2 : hi2 ≤ w.heap.size) (hS : masksP n S) (h0 : 0 < S.length) (hl : S.length ≤ 256) (hin : i < n) (hkn : k < n) (hne : i ≠ k) :
    Calls Try.prog 188 #[.int .i64 n, v, v2] w (IntC w (nxt n S i k)) := by
  have hps : wrap64 (2 ^ n) = ((2 ^ n : Nat) : Int) := wrap_pow n hn
  have hsh : (1 : Int) * 2 ^ n = ((2 ^ n : Nat) : Int) := by simp
  obtain ⟨P, hP⟩ : ∃ P, P = 2 ^ n := ⟨_, rfl⟩
  have HP := Lib.hid hP
  have hP256 : P ≤ 256 := by rw [hP]; exact pow_le_256 n hn
  rw [← hP] at hps hsh
  have hmk := run_make_row' (P := Try.prog) 137 4 (.bool false) 1 (by kernel_rfl) (by kernel_rfl) rfl .i64 .i64 P (by omega) (by omega)
  have hpair : ∀ m, bitsP [[(i : Int), (k : Int)]] m = stp m i k := by intro m; simp [bitsP]
  have HPR := Lib.hid hpair
  have hok : netOk n [[(i : Int), (k : Int)]] = true := netOk_one hn hin hkn hne
  have CA : Hid (∀ (m : Nat) (wr : World), Below w.heap.size w wr → m < P → Calls Try.prog 212 #[v, .int .i64 m] wr fun e w' => e = .returned (.int .i64 (stp m i k : Nat)) ∧ Below wr.heap.size wr w') := by
    intro m wr hb hm
    rw [← hpair]
    exact l03Apply_c n lo hi v vs _ m wr (hr.below hb hhi) (by have := hb.size; omega) hok (by rw [← HP.out]; exact hm)
  have HLT : Hid (∀ m, m < P → stp m i k < P) := by intro m hm; rw [← hpair, hP]; exact (bitsP_lt' hok (by rw [← hP]; exact hm)).1
  have HMS : Hid (∀ x ∈ S, ∃ m : Nat, x = m ∧ m < P) := by rw [hP]; exact hS
  obtain ⟨ao, g, off, cap, rfl, hcap, hao, hc⟩ := hv
  have HC := Lib.hid hc
  obtain ⟨hao1, g1, g2⟩ := hao (by omega)
  subst hao1
  obtain ⟨L, hL⟩ : ∃ L, L = S.length := ⟨_, rfl⟩
  have HL := Lib.hid hL
  rw [← hL] at HC hcap h0 hl ⊢
  obtain ⟨RES, hRES⟩ : ∃ R, R = nxt n S i k := ⟨_, rfl⟩
  have HRES := Lib.hid hRES
  rw [← hRES]
  obtain ⟨MK, hMK⟩ : ∃ M : Nat → Nat → Bool, M = fun j m => (S.take j).any fun x => stp x.toNat i k == m := ⟨_, rfl⟩
  have HMK := Lib.hid hMK
  clear hP hc hao hL hRES hMK hpair hr hS
  obtain ⟨W0, hW0⟩ : ∃ W, W = w.alloc (.cells (madeCells #[Value.bool false] P) 4) := ⟨_, rfl⟩
  have HCL0 : Hid (∀ m, m < P → W0.cell? ⟨w.heap.size, m, none⟩ = some (.bool (MK 0 m))) := by show ∀ _, _; intro m hm; rw [hW0, HMK.out]; exact made_cell w (.bool false) _ hm
  have HB0 : Hid (Below w.heap.size w W0) := by show Below _ _ _; rw [hW0]; exact (Below.refl _ _).alloc (Nat.le_refl _) _
  have HFZ0 : Hid (∀ m, W0.frozen? ⟨w.heap.size, m, none⟩ = false) := by show ∀ _, _; intro m; rw [hW0]; exact World.frozen?_alloc_at (hn := rfl) ..
  have HZ0 : w.heap.size < W0.heap.size := by rw [hW0]; simp
  have HW := Lib.hid hW0
  clear hW0
  go_enter Try.func188, Try.ntmps188
  go_wp2_with fail
  try rw [← HW.out]
  go_loopw [18] (fun t wr => ∃ j : Nat, j ≤ L ∧ t = .int .i64 j ∧ (∀ m, m < P → wr.cell? ⟨w.heap.size, m, none⟩ = some (.bool (MK j m))) ∧ (∀ m, wr.frozen? ⟨w.heap.size, m, none⟩ = false) ∧ Below w.heap.size w wr ∧ w.heap.size < wr.heap.size) (fun t _ => L - (intOf t).toNat)
  case atStart => exact ⟨0, Nat.zero_le _, rfl, HCL0.out, HFZ0.out, HB0.out, HZ0⟩
  case round =>
    obtain ⟨j, hj, rfl, hcl, hfz, hb, hzz⟩ := hrel
    have HFZ := Lib.hid hfz
    have HCL := Lib.hid hcl
    have HB := Lib.hid hb
    have hz := hb.size
    clear hcl hfz hb
    by_cases hlt : j < L
    · have hji : (j : Int) < (L : Int) := by omega
      obtain ⟨m, hm, hmn⟩ : ∃ m : Nat, S.getD j 0 = m ∧ m < P := HMS.out _ (by rw [List.getD_eq_getElem?_getD, List.getElem?_eq_getElem (by rw [← HL.out]; exact hlt)]; exact List.getElem_mem _)
      have c1 : wr.cell? ⟨g, off + j, none⟩ = some (.int .i64 m) := by rw [← hm]; exact (HB.out.cell (p := ⟨g, off + j, none⟩) (by show g < _; omega)).trans (HC.out j hlt)
      obtain ⟨z, hzs⟩ : ∃ z, z = stp m i k := ⟨_, rfl⟩
      have hzP : z < P := by rw [hzs]; exact HLT.out m hmn
      have HT : Hid (∀ q, MK (j + 1) q = (MK j q || z == q)) := by
        show ∀ _, _
        intro q
        rw [HMK.out]
        show ((S.take (j + 1)).any fun x => stp x.toNat i k == q) = (((S.take j).any fun x => stp x.toNat i k == q) || z == q)
        rw [take_snoc_getD 0 (by rw [← HL.out]; exact hlt), hm, hzs]
        simp [List.any_append]
      have CC : Hid (Calls Try.prog 212 #[v, .int .i64 m] wr fun e w' => e = .returned (.int .i64 (z : Nat)) ∧ Below wr.heap.size wr w') := by rw [hzs]; exact CA.out m wr HB.out hmn
      clear hm hzs
      go_wp2_with fail
      refine CC.out.mono ?_
      rintro e wq ⟨rfl, bq⟩
      have HCQ : Hid (∀ m, m < P → wq.cell? ⟨w.heap.size, m, none⟩ = some (.bool (MK j m))) := by show ∀ _, _; intro m hm; exact (bq.cell (p := ⟨w.heap.size, m, none⟩) (by show w.heap.size < _; omega)).trans (HCL.out m hm)
      have HBQ : Hid (Below w.heap.size w wq) := HB.out.trans (bq.mono hz)
      have HFQ : Hid (∀ m, wq.frozen? ⟨w.heap.size, m, none⟩ = false) := by show ∀ _, _; intro m; exact (bq.frozen (p := ⟨w.heap.size, m, none⟩) (by show w.heap.size < _; omega)).trans (HFZ.out m)
      have f2 : wq.frozen? ⟨w.heap.size, z, none⟩ = false := HFQ.out z
      have hzq : w.heap.size < wq.heap.size := by have := bq.size; omega
      have c2 : wq.cell? ⟨w.heap.size, z, none⟩ = some (.bool (MK j z)) := HCQ.out z hzP
      clear bq
      go_wp2_with fail
      go_roundw
      case rel =>
        refine ⟨j + 1, by omega, by go_num, ?_, by intro m; simpa using HFQ.out m, HBQ.out.setCell (Nat.le_refl _) _, by simpa [World.setCell] using hzq⟩
        intro m hm
        rw [HT.out]
        by_cases hmz : m = z
        · subst hmz
          simpa using World.cell?_setCell_same (v := .bool true) (h := c2) ..
        · have hne2 : (⟨w.heap.size, z, none⟩ : Addr) ≠ ⟨w.heap.size, m, none⟩ := by intro h; injection h with _ h2 _; exact hmz h2.symm
          rw [World.cell?_setCell_other (h := hne2), HCQ.out m hm]
          have : (z == m) = false := by simp; omega
          rw [this, Bool.or_false]
      case measure => simp [intOf]; omega
    · have hji : ¬ (j : Int) < (L : Int) := by omega
      obtain ⟨ST, hST⟩ : ∃ f : Nat → Bool, f = MK L := ⟨_, rfl⟩
      have HE : Hid (∀ m, m < P → wr.cell? ⟨w.heap.size, m, none⟩ = some (.bool (ST m))) := by show ∀ _, _; rw [hST, ← show j = L by omega]; exact HCL.out
      have HF : Hid (((List.range P).filter ST).map (fun m : Nat => (m : Int)) = RES) := by
        show _ = _
        rw [HRES.out, hST, HMK.out, HP.out]
        show _ = ((List.range (2 ^ n)).filter _).map _
        rw [HL.out]
        show ((List.range (2 ^ n)).filter fun m => (S.take S.length).any fun x => stp x.toNat i k == m).map _ = _
        rw [List.take_length]
      clear hST
      obtain ⟨W1, hW1⟩ : ∃ W, W = wr.alloc (.cells #[] 3) := ⟨_, rfl⟩
      have HO1 : Hid (OwnI W1 wr.heap.size W1.heap.size (.slice (some ⟨wr.heap.size, 0, none⟩) 0 0) []) := by show OwnI _ _ _ _ _; rw [hW1]; exact Own.mono (ownI_empty wr) (Nat.le_refl _) (by simp)
      have HB1 : Hid (Below wr.heap.size wr W1) := by show Below _ _ _; rw [hW1]; exact (Below.refl _ _).alloc (Nat.le_refl _) _
      have HWW := Lib.hid hW1
      clear hW1
      go_wp2_with fail
      try rw [← HWW.out]
      go_loopw [10, 31] (fun u t wr2 => ∃ q : Nat, q ≤ P ∧ t = .int .i64 q ∧ OwnI wr2 wr.heap.size wr2.heap.size u (((List.range q).filter ST).map (fun m : Nat => (m : Int))) ∧ Below wr.heap.size wr wr2) (fun _ t _ => P - (intOf t).toNat)
      case atStart => exact ⟨0, Nat.zero_le _, rfl, by simpa using HO1.out, HB1.out⟩
      case round =>
        obtain ⟨q, hq, rfl, ho, hb⟩ := hrel
        have HO := Lib.hid ho
        have HB2 := Lib.hid hb
        have hz2 := hb.size
        have HLN : Hid ((((List.range q).filter ST).map (fun m : Nat => (m : Int))).length ≤ 100000000) := by
          show _ ≤ _; rw [List.length_map]; have := List.length_filter_le ST (List.range q); rw [List.length_range] at this; omega
        by_cases hlt2 : q < P
        · have hqi : (q : Int) < (P : Int) := by omega
          cases hst : ST q
          · have c3 : wr.cell? ⟨w.heap.size, q, none⟩ = some (.bool false) := by rw [← hst]; exact (hb.cell (p := ⟨w.heap.size, q, none⟩) (by show w.heap.size < _; exact hzz)).trans (HE.out q hlt2)
            have HT : Hid ((List.range (q + 1)).filter ST = (List.range q).filter ST) := by show _ = _; rw [List.range_succ, List.filter_append]; simp [hst]
            clear ho hb hst
            go_wp2_with fail
            go_roundw
            case rel => exact ⟨q + 1, by omega, by go_num, by rw [HT.out]; exact HO.out, HB2.out⟩
            case measure => simp [intOf]; omega
          · have c3 : wr.cell? ⟨w.heap.size, q, none⟩ = some (.bool true) := by rw [← hst]; exact (hb.cell (p := ⟨w.heap.size, q, none⟩) (by show w.heap.size < _; exact hzz)).trans (HE.out q hlt2)
            have HT : Hid (((List.range (q + 1)).filter ST).map (fun m : Nat => (m : Int)) = ((List.range q).filter ST).map (fun m : Nat => (m : Int)) ++ [(q : Int)]) := by show _ = _; rw [List.range_succ, List.filter_append]; simp [hst]
            clear ho hb hst
            go_wp2_with (at_builtin; refine wpList_app_int rfl (.tmp 37) (.tmp 39) rfl wr (q : Int) _ wr.heap.size _ (((List.range q).filter ST).map (fun m : Nat => (m : Int))) HO.out hz2 HLN.out rfl rfl ?_; intro ao5 L5 cap5 w5 hL5 o5 b5 z5; have O5 := Lib.hid o5; have B5 := Lib.hid (HB2.out.trans b5); clear o5 b5)
            go_roundw
            case rel => exact ⟨q + 1, by omega, by go_num, by rw [HT.out]; exact O5.out, B5.out⟩
            case measure => simp [intOf]; omega
        · have hqi : ¬ (q : Int) < (P : Int) := by omega
          have hqP : q = P := by omega
          have ho2 := Own.mono ho hz (Nat.le_refl _)
          rw [hqP, HF.out] at ho2
          have O9 := Lib.hid ho2
          have B9 : Hid (Below w.heap.size w wr) := HB.out.trans (hb.mono hz)
          clear ho ho2 hb hqP
          go_wp2
          go_ret
          exact ⟨_, rfl, O9.out, B9.out⟩
end Go.Proofs.Ytiodolbgapjmkaa
