/- The reference's network of bricks on valid sizes. Conditions: the sizes are valid. -/
import Derived.Test.YtkgbmainabgamaaBrickS
import Derived.Test.YtkgbmainabgamaaNet2
import Derived.Deep.RegionLaw
import Derived.Deep.RegionWith
namespace Go.Proofs.Ytkgbmainabgamaa
open Go.RowKit
set_option maxRecDepth 100000

set_option maxHeartbeats 1000000 in
theorem BrickNetwork_s (n m : Nat) (w : World) (h1 : 1 ≤ n) (h2 : n ≤ 8) (hb : inB (n : Int) 1 8 = true) (h3 : m ≤ 8) (_hb2 : inB (m : Int) 0 8 = true) :
    Calls Try.prog 26 #[.int .i64 n, .int .i64 m] w (NetC w n (net2 (fun s => (n - s % 2) / 2) (fun (s k : Nat) => [((s % 2 : Nat) : Int) + 2 * k, ((s % 2 : Nat) : Int) + 2 * k + 1]) m) true) := by
  obtain ⟨cn, hcn⟩ : ∃ cn : Nat → Nat, cn = (fun s => (n - s % 2) / 2) := ⟨_, rfl⟩
  obtain ⟨PP, hPP⟩ : ∃ PP : Nat → Nat → List Int, PP = (fun (s k : Nat) => [((s % 2 : Nat) : Int) + 2 * k, ((s % 2 : Nat) : Int) + 2 * k + 1]) := ⟨_, rfl⟩
  rw [← hcn, ← hPP]
  have HROW : Hid (∀ t, brickR n (t % 2) ((n - t % 2) / 2) = (List.range (cn t)).map (PP t)) := by
    intro t
    rw [hcn, hPP]
    rfl
  have HCN : Hid (∀ t, cn t ≤ 4) := by intro t; rw [hcn]; show (n - t % 2) / 2 ≤ 4; omega
  have HLN : Hid (∀ t, t ≤ 8 → (net2 cn PP t).length ≤ 64) := by
    intro t ht
    have := net2_len cn PP (fun s => by have := HCN.out s; omega) t
    omega
  clear hcn hPP
  go_enter Try.func26, Try.ntmps26
  go_wp2_with (first | (go_at_call 42; refine (l07N_c _ _).mono ?_; rintro e w' ⟨rfl, rfl⟩) | (go_at_call 47; refine (l01In_c _ _ _ _).mono ?_; rintro e w' ⟨rfl, rfl⟩))
  obtain ⟨W, hW, hnb, hrs, hbw, hsz⟩ := netInit w n
  rw [hW]
  clear hW
  go_loopw [7] (fun j wr => ∃ t : Nat, t ≤ m ∧ j = .int .i64 t ∧ ∃ v vs, NB wr (w.heap.size + 1) n v vs (net2 cn PP t) ∧ Below (w.heap.size + 1) W wr) (fun j _ => m - (intOf j).toNat)
  case atStart => exact ⟨0, by omega, rfl, _, _, hnb, Below.refl _ _⟩
  case round =>
    obtain ⟨t, ht, rfl, v, vs, hN, hB⟩ := hrel
    clear hnb
    have HRS := Lib.hid (blk_below hrs hB (by omega))
    have HN := Lib.hid hN
    have HB := Lib.hid hB
    have HSZ := Lib.hid hsz
    obtain ⟨c0, c1, z0, z1⟩ := hN.cells
    have hXl := hN.lt
    clear hsz
    by_cases hlt : t < m
    · clear hN hB
      have hlen := HLN.out t (by omega)
      have hlen2 := HCN.out t
      have hcall : ∀ w, Calls Try.prog 48 #[.int .i64 n, .int .i64 t] w (RowC w ((List.range (cn t)).map (PP t))) := fun w => by rw [← HROW.out t]; exact l07Brick_c n t w (by omega) (by omega)
      have HC := Lib.hid hcall
      clear hcall
      have hlo : w.heap.size + 1 + 1 ≤ wr.heap.size := by omega
      have HLE : Hid ((net2 cn PP t).length + ((List.range (cn t)).map (PP t)).length ≤ 1000000) := by show _ + _ ≤ _; rw [List.length_map, List.length_range]; omega
      go_wp2_with fail
      go_region_law (first | (refine wp_app_rows (.tmp 25) (.tmp 28) rfl w1 (w.heap.size + 1 + 1) wr.heap.size v u vs us _ _ H1.out O1.out hlo b1.size HLE.out rfl rfl ?_; intro ao L cap w2 vs2 hL o2 b2 z2; have bx := blk_below BX1.out b2 (Nat.lt_succ_self _); have k2 := blk_cell bx 1; have k3 := blk_free bx 1; have BX := Lib.hid bx; have O2 := Lib.hid o2; clear bx o2) | (go_simp; go_at_call 48; refine (HC.out _).mono ?_; rintro e w1 ⟨u, us, rfl, o1, b0⟩; have b1 : Below wr.heap.size wr w1 := undrew b0; have k1 := (b1.cell (p := ⟨w.heap.size + 1, 1, none⟩) hXl).trans c1; have O1 := Lib.hid o1; have H1 := Lib.hid (HN.out.own.later b1); have BX1 := Lib.hid (blk_below HN.out.box b1 hXl); clear o1) | fail)
      all_goals
        go_wp2
        go_roundw
        case rel => exact ⟨t + 1, by omega, by go_num, _, _, by rw [net2_succ]; exact NB.store BX.out O2.out, ((HB.out.trans (b1.mono (by omega))).trans (b2.mono (by omega))).setCell (by show w.heap.size + 1 ≤ w.heap.size + 1; omega) _⟩
        case measure => simp [intOf]; omega
    · have HE : Hid (t = m) := by show t = _; omega
      obtain ⟨hfin, hbel, r0, r1, y0, y1⟩ := netFin hN (by omega) HRS.out (hbw.trans (hB.mono (by omega)))
      have HF := Lib.hid hfin
      have HL := Lib.hid hbel
      obtain ⟨L, hL⟩ : ∃ L, L = (net2 cn PP t).length := ⟨_, rfl⟩
      obtain ⟨ao, g, cap, ev, -, -, -⟩ := hN.own.rows
      rw [← hL] at ev
      clear hfin hbel hN hB hL
      subst ev
      go_wp2
      exact bodyPost_ret (v := .tuple #[.agg #[.int .i64 n, .slice ao L cap], .bool true]) (by simp [results, Try.results26, go_sem, r0, r1]) rfl ⟨_, vs, rfl, by rw [← HE.out]; exact HF.out, HL.out⟩
end Go.Proofs.Ytkgbmainabgamaa
