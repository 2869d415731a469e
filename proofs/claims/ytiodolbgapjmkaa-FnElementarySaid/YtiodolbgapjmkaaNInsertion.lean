/- The function that builds this network, the program's and the reference's, on valid sizes: it hands back the pairs that two loops name. Conditions: the sizes are valid. -/
import Derived.Test.YtiodolbgapjmkaaNet2
namespace Go.Proofs.Ytiodolbgapjmkaa
open Go.RowKit
set_option maxRecDepth 100000

set_option maxHeartbeats 1000000 in
theorem InsertionNetwork_i (n : Nat) (w : World) (h1 : 1 ≤ n) (h2 : n ≤ 8) (hb : inB (n : Int) 1 8 = true) :
    Calls Try.prog 58 #[.int .i64 n] w (NetC w n (net2 (fun s => s + 1) (fun (s k : Nat) => [(s : Int) - k, (s : Int) - k + 1]) (n - 1)) true) := by
  obtain ⟨cn, hcn⟩ : ∃ cn : Nat → Nat, cn = (fun s => s + 1) := ⟨_, rfl⟩
  obtain ⟨PP, hPP⟩ : ∃ PP : Nat → Nat → List Int, PP = (fun (s k : Nat) => [(s : Int) - k, (s : Int) - k + 1]) := ⟨_, rfl⟩
  rw [← hcn, ← hPP]
  have HCN := Lib.hid hcn
  have HPP := Lib.hid hPP
  have HLEN : Hid (∀ t k, t ≤ n - 1 → k ≤ cn t → (net2 cn PP t ++ (List.range k).map (PP t)).length ≤ 1000000) := by
    intro t k ht hk
    have hc : ∀ s, s ≤ t → cn s ≤ 8 := by intro s hs; rw [HCN.out]; show (s + 1) ≤ 8; omega
    have h0 : ∀ i, i ≤ t → (net2 cn PP i).length ≤ 8 * i := by
      intro i
      induction i with
      | zero => simp [net2]
      | succ i ih => intro hi; rw [net2_succ, List.length_append, List.length_map, List.length_range]; have := hc i (by omega); have := ih (by omega); omega
    have := h0 t (Nat.le_refl _)
    have := hc t (Nat.le_refl _)
    rw [List.length_append, List.length_map, List.length_range]; omega
  clear hcn hPP
  go_enter Try.func58, Try.ntmps58
  go_wp2_with ((go_at_call 105; refine (isWires_c _ _).mono ?_; rintro e w' ⟨rfl, rfl⟩))
  obtain ⟨W, hW, hnb, hrs, hbw, hsz⟩ := netInit w n
  rw [hW]
  clear hW
  have hX : w.heap.size < w.heap.size + 1 := by omega
  go_loopw [5] (fun j wr => ∃ t : Nat, t ≤ n - 1 ∧ j = .int .i64 ((t : Int) + 1) ∧ ∃ v vs, NB wr (w.heap.size + 1) n v vs (net2 cn PP t) ∧ Below (w.heap.size + 1) W wr) (fun j _ => (n - (intOf j).toNat))
  case atStart => exact ⟨0, by omega, by go_num, _, _, hnb, Below.refl _ _⟩
  case round =>
    obtain ⟨t, ht, rfl, v, vs, hN, hB⟩ := hrel
    clear hnb
    have HRS := Lib.hid (blk_below hrs hB (by omega))
    have HN := Lib.hid hN
    have HB := Lib.hid hB
    have HSZ := Lib.hid hsz
    clear hsz
    by_cases hlt : t < n - 1
    · clear hN hB
      have hj : (t : Int) + 1 < (n : Int) := by omega
      obtain ⟨wo, rfl⟩ : ∃ wo : World, wo = wr := ⟨_, rfl⟩
      go_wp2
      go_loopw [6] (fun i wr => ∃ k : Nat, k ≤ cn t ∧ i = .int .i64 ((t : Int) - k) ∧ ∃ v vs, NB wr (w.heap.size + 1) n v vs (net2 cn PP t ++ (List.range k).map (PP t)) ∧ Below (w.heap.size + 1) W wr) (fun i _ => ((intOf i) + 1).toNat)
      case atStart => exact ⟨0, by omega, by go_num, v, vs, by simpa using HN.out, HB.out⟩
      case round =>
        obtain ⟨k, hk, rfl, v, vs, hN, hB⟩ := hrel
        clear HN HB HRS
        obtain ⟨c0, c1, z0, z1⟩ := hN.cells
        have HN := Lib.hid hN
        have HB := Lib.hid hB
        have hXl := hN.lt
        have hlen := HLEN.out t k ht hk
        have hcn : cn t = t + 1 := by rw [HCN.out]
        have HCNT := Lib.hid hcn
        rw [hcn] at hk
        clear hN hB hcn
        by_cases hkl : k < t + 1
        · have hi : (0 : Int) ≤ (t : Int) - k := by omega
          have HLN := Lib.hid hlen
          clear hlen
          go_wp2_with (at_builtin; refine wpList_app_pair rfl (.tmp 25) (.tmp 30) rfl wr _ _ (w.heap.size + 1 + 1) v vs (net2 cn PP t ++ (List.range k).map (PP t)) HN.out.own (by omega) HLN.out rfl rfl ?_; intro g' L' cap' w1 vs1 hL o1 b1 z1; have bx := blk_below HN.out.box b1 (by omega); have c0 := blk_cell bx 0; have c1 := blk_cell bx 1; have f1 := blk_free bx 1; have BX := Lib.hid bx; have O1 := Lib.hid o1; clear bx o1)
          go_roundw
          case rel => exact ⟨k + 1, by have := HCNT.out; omega, by go_num, _, _, by rw [row_succ, show PP t k = _ from by rw [HPP.out]]; exact NB.store BX.out O1.out, (HB.out.trans (b1.mono (by omega))).setCell (by show w.heap.size + 1 ≤ w.heap.size + 1; omega) _⟩
          case measure => simp [intOf]; omega
        · have hi : (t : Int) - k < (0 : Int) := by omega
          have HE : Hid (k = cn t) := by have := HCNT.out; show k = _; omega
          clear hlen
          go_wp2
          go_roundw
          case rel => exact ⟨t + 1, by omega, by go_num, v, vs, by rw [net2_succ, ← HE.out]; exact HN.out, HB.out⟩
          case measure => simp [intOf]; omega
    · have HE : Hid (t = n - 1) := by show t = _; omega
      have hj : (n : Int) ≤ (t : Int) + 1 := by omega
      obtain ⟨c0, c1, z0, z1⟩ := hN.cells
      obtain ⟨hfin, hbel, r0, r1, y0, y1⟩ := netFin hN (by omega) HRS.out (hbw.trans (hB.mono (by omega)))
      have HF := Lib.hid hfin
      have HL := Lib.hid hbel
      obtain ⟨L, hL⟩ : ∃ L, L = (net2 cn PP t).length := ⟨_, rfl⟩
      obtain ⟨ao, g, cap, ev, -, -, -⟩ := hN.own.rows
      rw [← hL] at ev
      clear hfin hbel hN hB hL
      subst ev
      go_wp2
      refine bodyPost_ret (v := .tuple #[.agg #[.int .i64 n, .slice ao L cap], .bool true]) (by simp [results, Try.results58, go_sem, r0, r1]) rfl ⟨_, vs, rfl, by rw [← HE.out]; exact HF.out, HL.out⟩

set_option maxHeartbeats 1000000 in
theorem InsertionNetwork_s (n : Nat) (w : World) (h1 : 1 ≤ n) (h2 : n ≤ 8) (hb : inB (n : Int) 1 8 = true) :
    Calls Try.prog 93 #[.int .i64 n] w (NetC w n (net2 (fun s => s + 1) (fun (s k : Nat) => [(s : Int) - k, (s : Int) - k + 1]) (n - 1)) true) := by
  obtain ⟨cn, hcn⟩ : ∃ cn : Nat → Nat, cn = (fun s => s + 1) := ⟨_, rfl⟩
  obtain ⟨PP, hPP⟩ : ∃ PP : Nat → Nat → List Int, PP = (fun (s k : Nat) => [(s : Int) - k, (s : Int) - k + 1]) := ⟨_, rfl⟩
  rw [← hcn, ← hPP]
  have HCN := Lib.hid hcn
  have HPP := Lib.hid hPP
  have HLEN : Hid (∀ t k, t ≤ n - 1 → k ≤ cn t → (net2 cn PP t ++ (List.range k).map (PP t)).length ≤ 1000000) := by
    intro t k ht hk
    have hc : ∀ s, s ≤ t → cn s ≤ 8 := by intro s hs; rw [HCN.out]; show (s + 1) ≤ 8; omega
    have h0 : ∀ i, i ≤ t → (net2 cn PP i).length ≤ 8 * i := by
      intro i
      induction i with
      | zero => simp [net2]
      | succ i ih => intro hi; rw [net2_succ, List.length_append, List.length_map, List.length_range]; have := hc i (by omega); have := ih (by omega); omega
    have := h0 t (Nat.le_refl _)
    have := hc t (Nat.le_refl _)
    rw [List.length_append, List.length_map, List.length_range]; omega
  clear hcn hPP
  go_enter Try.func93, Try.ntmps93
  go_wp2_with ((go_at_call 175; refine (l07N_c _ _).mono ?_; rintro e w' ⟨rfl, rfl⟩))
  obtain ⟨W, hW, hnb, hrs, hbw, hsz⟩ := netInit w n
  rw [hW]
  clear hW
  have hX : w.heap.size < w.heap.size + 1 := by omega
  go_loopw [5] (fun j wr => ∃ t : Nat, t ≤ n - 1 ∧ j = .int .i64 ((t : Int) + 1) ∧ ∃ v vs, NB wr (w.heap.size + 1) n v vs (net2 cn PP t) ∧ Below (w.heap.size + 1) W wr) (fun j _ => (n - (intOf j).toNat))
  case atStart => exact ⟨0, by omega, by go_num, _, _, hnb, Below.refl _ _⟩
  case round =>
    obtain ⟨t, ht, rfl, v, vs, hN, hB⟩ := hrel
    clear hnb
    have HRS := Lib.hid (blk_below hrs hB (by omega))
    have HN := Lib.hid hN
    have HB := Lib.hid hB
    have HSZ := Lib.hid hsz
    clear hsz
    by_cases hlt : t < n - 1
    · clear hN hB
      have hj : (t : Int) + 1 < (n : Int) := by omega
      obtain ⟨wo, rfl⟩ : ∃ wo : World, wo = wr := ⟨_, rfl⟩
      go_wp2
      go_loopw [6] (fun i wr => ∃ k : Nat, k ≤ cn t ∧ i = .int .i64 ((t : Int) - k) ∧ ∃ v vs, NB wr (w.heap.size + 1) n v vs (net2 cn PP t ++ (List.range k).map (PP t)) ∧ Below (w.heap.size + 1) W wr) (fun i _ => ((intOf i) + 1).toNat)
      case atStart => exact ⟨0, by omega, by go_num, v, vs, by simpa using HN.out, HB.out⟩
      case round =>
        obtain ⟨k, hk, rfl, v, vs, hN, hB⟩ := hrel
        clear HN HB HRS
        obtain ⟨c0, c1, z0, z1⟩ := hN.cells
        have HN := Lib.hid hN
        have HB := Lib.hid hB
        have hXl := hN.lt
        have hlen := HLEN.out t k ht hk
        have hcn : cn t = t + 1 := by rw [HCN.out]
        have HCNT := Lib.hid hcn
        rw [hcn] at hk
        clear hN hB hcn
        by_cases hkl : k < t + 1
        · have hi : (0 : Int) ≤ (t : Int) - k := by omega
          have HLN := Lib.hid hlen
          clear hlen
          go_wp2_with (at_builtin; refine wpList_app_pair rfl (.tmp 25) (.tmp 30) rfl wr _ _ (w.heap.size + 1 + 1) v vs (net2 cn PP t ++ (List.range k).map (PP t)) HN.out.own (by omega) HLN.out rfl rfl ?_; intro g' L' cap' w1 vs1 hL o1 b1 z1; have bx := blk_below HN.out.box b1 (by omega); have c0 := blk_cell bx 0; have c1 := blk_cell bx 1; have f1 := blk_free bx 1; have BX := Lib.hid bx; have O1 := Lib.hid o1; clear bx o1)
          go_roundw
          case rel => exact ⟨k + 1, by have := HCNT.out; omega, by go_num, _, _, by rw [row_succ, show PP t k = _ from by rw [HPP.out]]; exact NB.store BX.out O1.out, (HB.out.trans (b1.mono (by omega))).setCell (by show w.heap.size + 1 ≤ w.heap.size + 1; omega) _⟩
          case measure => simp [intOf]; omega
        · have hi : (t : Int) - k < (0 : Int) := by omega
          have HE : Hid (k = cn t) := by have := HCNT.out; show k = _; omega
          clear hlen
          go_wp2
          go_roundw
          case rel => exact ⟨t + 1, by omega, by go_num, v, vs, by rw [net2_succ, ← HE.out]; exact HN.out, HB.out⟩
          case measure => simp [intOf]; omega
    · have HE : Hid (t = n - 1) := by show t = _; omega
      have hj : (n : Int) ≤ (t : Int) + 1 := by omega
      obtain ⟨c0, c1, z0, z1⟩ := hN.cells
      obtain ⟨hfin, hbel, r0, r1, y0, y1⟩ := netFin hN (by omega) HRS.out (hbw.trans (hB.mono (by omega)))
      have HF := Lib.hid hfin
      have HL := Lib.hid hbel
      obtain ⟨L, hL⟩ : ∃ L, L = (net2 cn PP t).length := ⟨_, rfl⟩
      obtain ⟨ao, g, cap, ev, -, -, -⟩ := hN.own.rows
      rw [← hL] at ev
      clear hfin hbel hN hB hL
      subst ev
      go_wp2
      refine bodyPost_ret (v := .tuple #[.agg #[.int .i64 n, .slice ao L cap], .bool true]) (by simp [results, Try.results93, go_sem, r0, r1]) rfl ⟨_, vs, rfl, by rw [← HE.out]; exact HF.out, HL.out⟩

end Go.Proofs.Ytiodolbgapjmkaa
