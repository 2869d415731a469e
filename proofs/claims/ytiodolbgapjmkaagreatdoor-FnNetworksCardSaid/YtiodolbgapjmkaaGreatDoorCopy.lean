/- Copies of lists and of networks, and the check at the end: by their contracts. Conditions: the lists are not empty, the networks valid. -/
import Derived.Test.YtiodolbgapjmkaaGreatDoorNetBits
import Derived.Test.YtiodolbgapjmkaaGreatDoorMaskL
import Derived.Test.YtiodolbgapjmkaaGreatDoorInts
import Derived.Test.YtiodolbgapjmkaaGreatDoorRowApp
import Derived.Lib.SliceRun
import Derived.Deep.RegionLaw
import Derived.Deep.RegionHeld3
namespace Go.Proofs.YtiodolbgapjmkaaGreatDoor
open Go.RowKit
set_option maxRecDepth 100000
set_option linter.unusedVariables false

theorem Clone_c (lo hi : Nat) (v : Value) (xs : List Int) (w : World) (hx : IntsV w lo hi v xs) (hh : hi ≤ w.heap.size) (h0 : 0 < xs.length) (hl : xs.length ≤ 100000000) : Calls Tryz.prog 29 #[v] w (IntC w xs) := by
  have HX := Lib.hid hx
  obtain ⟨ao, b, off, cap, rfl, hcap, hao, hc⟩ := hx
  obtain ⟨rfl, q1, q2⟩ := hao (by omega)
  have HE0 : Hid (OwnI (w.alloc (.cells #[] 3)) w.heap.size (w.heap.size + 1) (.slice (some ⟨w.heap.size, 0, none⟩) 0 0) []) := ownI_empty w
  have HEu : Hid (IntsV (w.alloc (.cells #[] 3)) lo hi (.slice (some ⟨b, off, none⟩) xs.length cap) xs) := HX.out.below ((Below.refl _ _).alloc (Nat.le_refl _) _) hh
  have HEz : Hid (w.heap.size ≤ (w.alloc (.cells #[] 3)).heap.size) := by show _ ≤ _; simp
  have HEb : Hid (Below w.heap.size w (w.alloc (.cells #[] 3))) := (Below.refl _ _).alloc (Nat.le_refl _) _
  have HL0 : Hid (([] : List Int).length + xs.length ≤ 1000000000) := by show _ ≤ _; simp; omega
  have qT : ∀ w : World, (binOp .eql 27 (.slice (some ⟨b, off, none⟩) xs.length cap) (.slice none 0 0)).run Tryz.prog w = .ok (.bool false) w := fun w => Lib.run_eql_slice_nil w _ _ _ _ _ _ _ Tryz.underlying27
  clear hc hao
  go_enter Tryz.func29, Tryz.ntmps29
  go_wp2_with (at_builtin; refine wpList_app_ints rfl (.tmp 5) (.tmp 6) rfl (w.alloc (.cells #[] 3)) w.heap.size (w.heap.size + 1) lo hi _ _ [] xs HE0.out HEu.out HEz.out HL0.out rfl rfl ?_; intro ao4 L4 cap4 w1 hL4 o1 q1 z1; have O1 := Lib.hid o1; have Q1 : Hid (Below w.heap.size w w1) := HEb.out.trans q1; clear o1 q1)
  go_ret
  exact ⟨_, rfl, by have := O1.out; rwa [List.nil_append] at this, Q1.out⟩
/-- A list of one row that a call has built. -/
theorem ownR_one {w : World} {lo : Nat} {u : Value} {xs : List Int} (h : OwnI w lo w.heap.size u xs) (hlo : lo ≤ w.heap.size) : OwnR (w.alloc (.cells #[u] 27)) lo (w.alloc (.cells #[u] 27)).heap.size (.slice (some ⟨w.heap.size, 0, none⟩) 1 1) [u] [xs] := by
  refine ⟨⟨⟨rfl, .inr ⟨w.heap.size, 1, _, rfl, hlo, blk_new w _, Nat.le_refl _, by unfold maxLen; omega, rfl, rfl⟩⟩, fun k hk => ?_⟩, rfl, fun i t ys a b => ?_, .cons (by simp) .nil⟩
  · simp [Value.ownBlock] at hk
    simp
    omega
  · match i, a, b with
    | 0, a, b =>
      simp at a b
      subst a b
      exact Own.mono (Own.alloc h _) (Nat.le_refl _) (by simp)

set_option maxHeartbeats 2000000 in
theorem own_c (n : Nat) (lo hi : Nat) (v : Value) (vs : List Value) (xss : List (List Int)) (w : World) (hv : OwnR w lo hi v vs xss) (hhi : hi ≤ w.heap.size) (hok : netOk n xss = true) :
    Calls Tryz.prog 33 #[.agg #[.int .i64 n, v]] w fun e w' => ∃ u us, e = .returned (.agg #[.int .i64 n, u]) ∧ OwnR w' w.heap.size w'.heap.size u us xss ∧ Below w.heap.size w w' := by
  have HROW := Lib.hid hv.rows
  have HV := Lib.hid hv
  have HP := Lib.hid (netOk_pair hok)
  have hl60 := netOk_len hok
  obtain ⟨ao, g, cap, rfl, hcap, hao, hrow⟩ := hv.rows
  have HRW := Lib.hid hrow
  obtain ⟨L, hlen⟩ : ∃ l, l = xss.length := ⟨_, rfl⟩
  have HLEN := Lib.hid hlen
  rw [← hlen] at HV hl60 hcap hao HRW HP ⊢
  clear hv hlen hok hrow HROW
  go_enter Tryz.func33, Tryz.ntmps33
  go_wp2_with fail
  obtain ⟨W1, hW1, c0, c1, hsz, hB1, -, -⟩ := box2 w (.int .i64 n) (.slice ao L cap) 25
  have hs1 : w.heap.size + 1 = W1.heap.size := by omega
  rw [hW1]
  clear hW1
  have HS1 := Lib.hid hs1
  try rw [hs1]
  obtain ⟨W, hW, hnb, hrs, hbw, hszW⟩ := netInit W1 n
  try rw [hW]
  clear hW
  have hx : W1.heap.size + 1 < W.heap.size := by omega
  have hB2 : Below W1.heap.size W1 W := hbw
  have HB0 : Hid (Below w.heap.size w W) := hB1.trans (hbw.mono (by omega))
  have hw1 : w.heap.size < W1.heap.size := by omega
  clear c0 c1 hsz hs1
  go_loopw [12] (fun i wr => ∃ k : Nat, k ≤ L ∧ i = .int .i64 k ∧ ∃ v us, NB wr (W1.heap.size + 1) n v us (xss.take k) ∧ Below (W1.heap.size + 1) W wr) (fun i _ => L - (intOf i).toNat)
  case atStart => exact ⟨0, Nat.zero_le _, rfl, _, _, by simpa using hnb, Below.refl _ _⟩
  case round =>
    obtain ⟨k, hk, rfl, v, us, hN, hB⟩ := hrel
    have HRS := Lib.hid (blk_below hrs hB (by omega))
    have HN := Lib.hid hN
    have HB := Lib.hid hB
    have hzB := hB.size
    have HSZ := Lib.hid hszW
    clear hnb hrs hszW hbw
    by_cases hlt : k < L
    · obtain ⟨e0, e1, y0, y1⟩ := hN.cells
      have hXl := hN.lt
      obtain ⟨i, j, hr, hi1, hj1, hne⟩ := HP.out k hlt
      obtain ⟨rfl, hg1, hg2⟩ := hao (by omega)
      obtain ⟨r0, r1⟩ := HRW.out k hlt
      have hbw : Below w.heap.size w wr := HB0.out.trans (hB.mono (by omega))
      have f0 := (hbw.cell (p := ⟨g, k, none⟩) (by show g < _; omega)).trans r0
      have r2 := OwnI.ints (Own.below r1 hbw hhi)
      obtain ⟨s, hs⟩ : ∃ s, s = vs.getD k undef := ⟨_, rfl⟩
      rw [← hs] at f0 r2
      have HR2 := Lib.hid r2
      have hlen2 : (xss.getD k []).length = 2 := by rw [hr]; rfl
      have HT : Hid (xss.take (k + 1) = xss.take k ++ [xss.getD k []]) := take_snoc_getD [] (by have := HLEN.out; omega)
      have HLN : Hid ((xss.take k).length + ([xss.getD k []] : List (List Int)).length ≤ 1000000) := by show _ ≤ _; rw [List.length_take]; simp; omega
      have hle : hi ≤ wr.heap.size := by have := hbw.size; omega
      obtain ⟨R, hR⟩ : ∃ R, R = xss.getD k [] := ⟨_, rfl⟩
      rw [← hR] at HR2 hlen2 HT HLN
      have HBX := Lib.hid hN.box
      have HOW := Lib.hid hN.own
      clear hN hB r0 r1 r2 hr hs hR hbw
      have HR3 : Hid (IntsV wr.drew lo hi s R) := HR2.out.below (B := wr.heap.size) ((Below.refl _ _).drew) hle
      have hr1 : 0 < R.length := by omega
      have hr2 : R.length ≤ 100000000 := by omega
      have hXX : W1.heap.size + 1 + 1 ≤ wr.heap.size := by omega
      go_wp2_with fail
      go_region_law (first | (refine wp_app_rows (.tmp 17) (.tmp 20) rfl (wc.alloc (.cells #[.slice ao4 2 cap4] 27)) (W1.heap.size + 1 + 1) wr.heap.size _ _ us [.slice ao4 2 cap4] (xss.take k) [R] ((HOW.out.later BC.out).alloc _) (ownR_one (lo := wr.heap.size) OC.out zc) hXX (by simp; omega) HLN.out rfl rfl ?_; intro ao5 L5 cap5 w5 us5 hL5 o5 b5 z5; have bx5 := blk_below (blk_old (blk_below HBX.out BC.out hXl) (.cells #[.slice ao4 2 cap4] 27)) b5 (by omega); have g0 := blk_cell bx5 0; have g1 := blk_cell bx5 1; have fr := blk_free bx5 1; have BX5 := Lib.hid bx5; have O5 := Lib.hid o5; have B5 := Lib.hid b5; clear bx5 o5 b5) | (go_simp; go_at_call 29; refine (Clone_c lo hi s R wr.drew HR3.out hle hr1 hr2).mono ?_; rintro e wc ⟨uc, rfl, oc, bc⟩; have bcw : Below wr.heap.size wr wc := undrew bc; have zc := bcw.size; obtain ⟨ao4, g4, cap4, e4, -, -, -⟩ := OwnI.view oc; rw [hlen2] at e4; have OC := Lib.hid oc; subst e4; have BC := Lib.hid bcw; have hXc : W1.heap.size + 1 < wc.heap.size := (by omega); have ec := (bcw.cell (p := ⟨W1.heap.size + 1, 1, none⟩) (by show W1.heap.size + 1 < _; omega)).trans e1; clear oc bc bcw) | fail)
      all_goals
        have HB5 : Hid (Below (W1.heap.size + 1) W w5) := HB.out.trans ((BC.out.alloc (by omega) _).mono (by omega) |>.trans (B5.out.mono (by omega)))
        go_wp2
        go_roundw
        case rel => exact ⟨k + 1, by omega, by go_num, _, us5, by rw [HT.out]; exact NB.store BX5.out O5.out, HB5.out.setCell (by show W1.heap.size + 1 ≤ W1.heap.size + 1; omega) _⟩
        case measure => simp [intOf]; omega
    · have HE : Hid (xss.take k = xss) := List.take_of_length_le (by have := HLEN.out; omega)
      obtain ⟨r0, r1, y0, y1⟩ := hN.cells
      obtain ⟨hfin, hbel, q0, q1, x0, x1⟩ := netFin hN (by omega) HRS.out (hB2.trans (hB.mono (by omega)))
      have HF := Lib.hid hfin
      have HL := Lib.hid hbel
      obtain ⟨M, hM⟩ : ∃ M, M = (xss.take k).length := ⟨_, rfl⟩
      obtain ⟨ao9, g9, cap9, ev, -, -, -⟩ := hN.own.rows
      rw [← hM] at ev
      have HBf : Hid (Below w.heap.size w wr) := HB0.out.trans (hB.mono (by omega))
      clear hfin hbel hN hB hM
      subst ev
      go_wp2
      refine bodyPost_ret (v := .agg #[.int .i64 n, .slice ao9 M cap9]) (by simp [results, Tryz.results33, go_sem, q0, q1]) rfl ⟨_, us, rfl, by rw [← HE.out]; exact HF.out.mono (by omega) (Nat.le_refl _), (HBf.out.setCell (by show w.heap.size ≤ W1.heap.size; omega) _).setCell (by show w.heap.size ≤ W1.heap.size; omega) _⟩
end Go.Proofs.YtiodolbgapjmkaaGreatDoor
