/- LiveNetwork on all arguments, MedianNetwork, and the laws. Conditions: none. -/
import Derived.Test.YtgdkihabphihoaaLive
import Derived.Test.YtgdkihabphihoaaOut
namespace Go.Proofs.Ytgdkihabphihoaa
open Go.RowKit
set_option maxRecDepth 100000
set_option linter.unusedVariables false

set_option maxHeartbeats 1000000 in
theorem LiveNetwork_i_none (n : Int) (lo hi : Nat) (v : Value) (vs : List Value) (xss : List (List Int)) (u : Value) (w : World) (hv : OwnR w lo hi v vs xss) (hhi : hi ≤ w.heap.size) (hok : netOk n xss = false) :
    Calls Try.prog 45 #[.agg #[.int .i64 n, v], u] w (NetC w 0 [] false) := by
  have HC : Hid (∀ w, OwnR w lo hi v vs xss → hi ≤ w.heap.size → Calls Try.prog 104 #[.agg #[.int .i64 n, v]] w fun e w' => e = .returned (.bool false) ∧ Below w.heap.size w w') := fun w h1 h2 => by
    have := NetworkOk_c n lo hi v vs xss w h1 h2
    rwa [hok] at this
  have HV := Lib.hid hv
  obtain ⟨ao, g, cap, rfl, -, -, -⟩ := hv.rows
  obtain ⟨L, hlen⟩ : ∃ l, l = xss.length := ⟨_, rfl⟩
  rw [← hlen] at HV HC ⊢
  clear hv hlen hok
  go_enter Try.func45, Try.ntmps45
  go_wp2_with fail
  obtain ⟨W1, hW1, c0, c1, hsz, hB1, -, -⟩ := box2 w (.int .i64 n) (.slice ao L cap) 27
  have hb9 := blk_new W1 (.cells #[.int .i64 0, .slice none 0 0] 27)
  obtain ⟨W2, hW2⟩ : ∃ W, W = W1.alloc (.cells #[.int .i64 0, .slice none 0 0] 27) := ⟨_, rfl⟩
  have hBa : Below W1.heap.size W1 W2 := by rw [hW2]; exact (Below.refl _ _).alloc (Nat.le_refl _) _
  have hs2 : W2.heap.size = W1.heap.size + 1 := by rw [hW2]; simp
  rw [← hW2] at hb9
  obtain ⟨c0, c1, hz0⟩ := boxC hBa (by omega) c0 c1
  have hB2 : Below w.heap.size w W2 := hB1.trans (hBa.mono (by omega))
  rw [hsz] at hb9
  try rw [hW1, ← hW2]
  have hw2 : w.heap.size + 1 < W2.heap.size := by omega
  clear hW1 hW2 hBa hs2 hsz hB1
  refine (HC.out W2 (HV.out.below hB2 (by omega)) (by omega)).mono ?_
  rintro e w3 ⟨rfl, b3⟩
  have hr9 := blk_below hb9 b3 hw2
  have q0 := blk_cell hr9 0
  have q1 := blk_cell hr9 1
  have x0 := blk_free hr9 0
  have x1 := blk_free hr9 1
  have HB3 : Hid (Below w.heap.size w w3) := hB2.trans (b3.mono (by omega))
  clear c0 c1 hb9 b3 hB2 HC HV hz0 hw2 hr9
  go_wp2_with fail
  refine bodyPost_ret (v := .tuple #[.agg #[.int .i64 0, .slice none 0 0], .bool false]) (by simp [results, Try.results45, go_sem, q0, q1]) rfl ⟨_, [], rfl, OwnR.nil _ _ _, ?_⟩
  first
    | exact (HB3.out.setCell (by show w.heap.size ≤ w.heap.size + 1; omega) _).setCell (by show w.heap.size ≤ w.heap.size + 1; omega) _
    | exact HB3.out

set_option maxHeartbeats 2000000 in
theorem LiveNetwork_i_bad (n : Nat) (lo hi lo2 hi2 : Nat) (v : Value) (vs : List Value) (xss : List (List Int)) (u : Value) (xs : List Int) (w : World) (hv : OwnR w lo hi v vs xss) (hhi : hi ≤ w.heap.size) (hok : netOk n xss = true)
    (hu : IntsV w lo2 hi2 u xs) (hh2 : hi2 ≤ w.heap.size) (hlx : xs.length ≤ 1048576) (hws : wiresOk n xs = false) :
    Calls Try.prog 45 #[.agg #[.int .i64 n, v], u] w (NetC w 0 [] false) := by
  have HC : Hid (∀ w, OwnR w lo hi v vs xss → hi ≤ w.heap.size → Calls Try.prog 104 #[.agg #[.int .i64 n, v]] w fun e w' => e = .returned (.bool true) ∧ Below w.heap.size w w') := fun w h1 h2 => by
    have := NetworkOk_c n lo hi v vs xss w h1 h2
    rwa [hok] at this
  have hn8 : n ≤ 8 := by have := netOk_n hok; omega
  have hn1 : 1 ≤ n := by have := netOk_n hok; omega
  obtain ⟨K, hK, hKb, hKg⟩ := wiresOk_no hws
  have HKG : Hid (∀ k, k < K → inB (xs.getD k 0) 0 ((n : Int) - 1) = true) := hKg
  obtain ⟨x, hx⟩ : ∃ x, x = xs.getD K 0 := ⟨_, rfl⟩
  rw [← hx] at hKb
  have HX := Lib.hid hx
  have HV := Lib.hid hv
  obtain ⟨ao, g, cap, rfl, -, -, -⟩ := hv.rows
  obtain ⟨L, hlen⟩ : ∃ l, l = xss.length := ⟨_, rfl⟩
  rw [← hlen] at HV HC ⊢
  obtain ⟨ao2, g2, off2, cap2, rfl, hcap2, hao2, hc2⟩ := hu
  have HCL := Lib.hid hc2
  have HAO2 := Lib.hid hao2
  obtain ⟨N, hN⟩ : ∃ N, N = xs.length := ⟨_, rfl⟩
  rw [← hN] at HCL hcap2 hlx hK ⊢
  have hbad := hKb
  have HBAD := Lib.hid hbad
  clear hv hlen hok hao2 hc2 hN hws hKg hx hKb hbad
  go_enter Try.func45, Try.ntmps45
  go_wp2_with fail
  obtain ⟨W1, hW1, c0, c1, hsz, hB1, -, -⟩ := box2 w (.int .i64 n) (.slice ao L cap) 27
  have hb9 := blk_new W1 (.cells #[.int .i64 0, .slice none 0 0] 27)
  obtain ⟨W2, hW2⟩ : ∃ W, W = W1.alloc (.cells #[.int .i64 0, .slice none 0 0] 27) := ⟨_, rfl⟩
  have hBa : Below W1.heap.size W1 W2 := by rw [hW2]; exact (Below.refl _ _).alloc (Nat.le_refl _) _
  have hs2 : W2.heap.size = W1.heap.size + 1 := by rw [hW2]; simp
  rw [← hW2] at hb9
  obtain ⟨c0, c1, hz0⟩ := boxC hBa (by omega) c0 c1
  have hB2 : Below w.heap.size w W2 := hB1.trans (hBa.mono (by omega))
  rw [hsz] at hb9
  try rw [hW1, ← hW2]
  have hw2 : w.heap.size + 1 < W2.heap.size := by omega
  clear hW1 hW2 hBa hs2 hsz hB1
  refine (HC.out W2 (HV.out.below hB2 (by omega)) (by omega)).mono ?_
  rintro e w3 ⟨rfl, b3⟩
  obtain ⟨d0, d1, z3⟩ := boxC b3 hz0 c0 c1
  have hr9 := blk_below hb9 b3 hw2
  have HR9 := Lib.hid hr9
  have zz3 := b3.size
  have HB3 : Hid (Below w.heap.size w w3) := hB2.trans (b3.mono (by omega))
  have hw3 : w.heap.size + 1 < w3.heap.size := by omega
  clear c0 c1 hb9 b3 hB2 HC HV hz0 hw2 zz3 hr9
  go_wp2_with fail
  obtain ⟨W4, hW4⟩ : ∃ W, W = w3.alloc (.cells #[.bool false, .bool false, .bool false, .bool false, .bool false, .bool false, .bool false, .bool false] 78) := ⟨_, rfl⟩
  have hR4 : ∃ f : Nat → Bool, W4.rowIs w3.heap.size 78 8 (fun j => .bool (f j)) := by
    refine ⟨fun _ => false, ?_⟩
    rw [hW4]
    refine World.rowIs_alloc w3 _ _ _ fun i hi => ?_
    replace hi : i < 8 := hi
    match i, hi with
    | 0, _ | 1, _ | 2, _ | 3, _ | 4, _ | 5, _ | 6, _ | 7, _ => rfl
  have hB4 : Below w3.heap.size w3 W4 := by rw [hW4]; exact (Below.refl _ _).alloc (Nat.le_refl _) _
  rw [← hW4]
  clear hW4
  have HR4 := Lib.hid hR4
  have HB4 := Lib.hid hB4
  clear hR4 hB4
  go_loopw [23] (fun i wr => ∃ k : Nat, k ≤ K ∧ i = .int .i64 k ∧ (∃ f : Nat → Bool, wr.rowIs w3.heap.size 78 8 (fun j => .bool (f j))) ∧ Below w3.heap.size w3 wr) (fun i _ => N - (intOf i).toNat)
  case atStart => exact ⟨0, Nat.zero_le _, rfl, HR4.out, HB4.out⟩
  case round =>
    obtain ⟨k, hk, rfl, ⟨f, hf⟩, hB⟩ := hrel
    have HF := Lib.hid hf
    have hX := hf.lt
    have HB := Lib.hid hB
    have zB := hB.size
    obtain ⟨f0, f1, zf⟩ := boxC hB z3 d0 d1
    clear HR4 HB4 hf
    have hkN : (k : Int) < (N : Int) := by omega
    obtain ⟨ha2, l2, l3⟩ := HAO2.out (by omega)
    subst ha2
    have hcx : wr.cell? ⟨g2, off2 + k, none⟩ = some (.int .i64 (xs.getD k 0)) := ((HB3.out.trans (hB.mono (by omega))).cell (p := ⟨g2, off2 + k, none⟩) (by show g2 < _; omega)).trans (HCL.out k (by omega))
    by_cases hlt : k < K
    · have hg := inB_of (HKG.out k hlt)
      obtain ⟨i, hi, hin⟩ : ∃ i : Nat, xs.getD k 0 = (i : Int) ∧ i < n := ⟨(xs.getD k 0).toNat, by omega, by omega⟩
      rw [hi] at hcx
      clear hg
      have IW : Hid (∀ w, Calls Try.prog 113 #[.agg #[.int .i64 n, .slice ao L cap], .int .i64 i] w fun e w' => e = .returned (.bool true) ∧ Below w.heap.size w w') := fun w => by
        have := isWire_c n i (.slice ao L cap) w
        rwa [inB_mk ⟨by omega, by omega⟩] at this
      clear hB hi
      go_wp2_with fail
      refine (IW.out wr).mono ?_
      rintro e w5 ⟨rfl, b5⟩
      have r5 := HF.out.of_block (b5.block _ hX)
      have q1 := r5.cell (i := i) (by omega)
      have q2 := r5.frozen i
      have R5 := Lib.hid r5
      have B5 : Hid (Below w3.heap.size w3 w5) := HB.out.trans (b5.mono zB)
      have hii : (i : Int) < 8 := by omega
      clear r5 b5 f0 f1
      go_wp2_with fail
      go_roundw
      case rel => exact ⟨k + 1, by omega, by go_num, ⟨fun j => if j = i then true else f j, (R5.out.set i (.bool true)).congr fun j _ => by show _ = Value.bool (if j = i then true else f j); split <;> rfl⟩, B5.out.setCell (by show w3.heap.size ≤ w3.heap.size; omega) _⟩
      case measure => simp [intOf]; omega
    · have hkK : k = K := by omega
      have hcx2 : wr.cell? ⟨g2, off2 + k, none⟩ = some (.int .i64 x) := by rw [hcx, HX.out, hkK]
      have hbad := HBAD.out
      clear hcx hkK
      have IW : Hid (∀ w, Calls Try.prog 113 #[.agg #[.int .i64 n, .slice ao L cap], .int .i64 x] w fun e w' => e = .returned (.bool false) ∧ Below w.heap.size w w') := fun w => by
        have := isWire_c n x (.slice ao L cap) w
        rwa [hbad] at this
      have hr9 := blk_below HR9.out hB hw3
      have HRR := Lib.hid hr9
      clear hB hr9
      go_wp2_with fail
      refine (IW.out wr).mono ?_
      rintro e w5 ⟨rfl, b5⟩
      have hr9 := blk_below HRR.out b5 (by omega)
      have B5 : Hid (Below w.heap.size w w5) := HB3.out.trans ((HB.out.mono (by omega)).trans (b5.mono (by omega)))
      clear b5 f0 f1
      have q0 := blk_cell hr9 0
      have q1 := blk_cell hr9 1
      have x0 := blk_free hr9 0
      have x1 := blk_free hr9 1
      clear hr9
      go_wp2_with fail
      refine bodyPost_ret (v := .tuple #[.agg #[.int .i64 0, .slice none 0 0], .bool false]) (by simp [results, Try.results45, go_sem, q0, q1]) rfl ⟨_, [], rfl, OwnR.nil _ _ _, ?_⟩
      first
        | exact (B5.out.setCell (by show w.heap.size ≤ w.heap.size + 1; omega) _).setCell (by show w.heap.size ≤ w.heap.size + 1; omega) _
        | exact B5.out

/-- Whether a network is valid and all wires are its own. -/
def liveB (n : Int) (xss : List (List Int)) (xs : List Int) : Bool := netOk n xss && wiresOk n.toNat xs
def liveN (n : Int) (xss : List (List Int)) (xs : List Int) : Int := if liveB n xss xs = true then n else 0
def liveX (n : Int) (xss : List (List Int)) (xs : List Int) : List (List Int) := if liveB n xss xs = true then liveP (wantB xs xs.length) xss else []
theorem liveP_mem (W : Nat → Bool) (xss : List (List Int)) (p : List Int) (h : p ∈ liveP W xss) : p ∈ xss := by
  induction xss with
  | nil => exact h
  | cons q r ih =>
    unfold liveP at h
    split at h
    · rcases List.mem_cons.1 h with h | h
      · rw [h]; exact List.mem_cons_self ..
      · exact List.mem_cons_of_mem _ (ih h)
    · exact List.mem_cons_of_mem _ (ih h)
theorem liveX_small (n : Int) (xss : List (List Int)) (xs : List Int) : smallR (liveX n xss xs) := by
  unfold liveX
  by_cases h : liveB n xss xs = true
  · rw [if_pos h]
    have hok : netOk n xss = true := by unfold liveB at h; simp at h; exact h.1
    have hl := netOk_len hok
    have hle := liveP_le (wantB xs xs.length) xss
    refine smallR_pairs (by omega) fun x hx => ?_
    obtain ⟨k, hk, rfl⟩ := List.getElem_of_mem (liveP_mem _ _ _ hx)
    obtain ⟨i, j, e, -⟩ := netOk_pair (n := n.toNat) (by rwa [Int.toNat_of_nonneg (by have := netOk_n hok; omega)]) k hk
    have : xss[k] = xss.getD k [] := by simp [List.getD, hk]
    rw [this, e]
    simp
  · rw [if_neg h]
    exact smallR_pairs (by simp) (by simp)
theorem LiveNetwork_i_c (a : Int) (lo hi lo2 hi2 : Nat) (v : Value) (vs : List Value) (xss : List (List Int)) (u : Value) (xs : List Int) (w : World) (hv : OwnR w lo hi v vs xss) (hhi : hi ≤ w.heap.size) (hu : IntsV w lo2 hi2 u xs) (hh2 : hi2 ≤ w.heap.size) (hlx : xs.length ≤ 1048576) :
    Calls Try.prog 45 #[.agg #[.int .i64 a, v], u] w (NetC w (liveN a xss xs) (liveX a xss xs) (liveB a xss xs)) := by
  by_cases hok : netOk a xss = true
  · obtain ⟨n, rfl⟩ : ∃ n : Nat, a = n := ⟨a.toNat, by have := netOk_n hok; omega⟩
    by_cases hw : wiresOk n xs = true
    · have hb : liveB n xss xs = true := by simp [liveB, hok, hw]
      unfold liveN liveX
      rw [hb, if_pos rfl, if_pos rfl]
      exact LiveNetwork_i_yes n lo hi lo2 hi2 v vs xss u xs w hv hhi hok hu hh2 hlx hw
    · have hw2 : wiresOk n xs = false := Bool.eq_false_iff.2 hw
      have hb : liveB n xss xs = false := by simp [liveB, hok, hw2]
      unfold liveN liveX
      rw [hb, if_neg (by simp), if_neg (by simp)]
      exact LiveNetwork_i_bad n lo hi lo2 hi2 v vs xss u xs w hv hhi hok hu hh2 hlx hw2
  · have hb : liveB a xss xs = false := by simp [liveB, Bool.eq_false_iff.2 hok]
    unfold liveN liveX
    rw [hb, if_neg (by simp), if_neg (by simp)]
    exact LiveNetwork_i_none a lo hi v vs xss u w hv hhi (Bool.eq_false_iff.2 hok)
end Go.Proofs.Ytgdkihabphihoaa
