/- LiveNetwork: the comparators on which some wires depend: both functions. Conditions: the network is valid. -/
import Derived.Test.YtgdkihabphihoaaCopy2
import Derived.Test.YtgdkihabphihoaaRowApp
import Derived.Test.YtgdkihabphihoaaWalkU
import Derived.Test.YtgdkihabphihoaaMaskL
import Derived.Test.YtgdkihabphihoaaPast
namespace Go.Proofs.Ytgdkihabphihoaa
open Go.RowKit
set_option maxRecDepth 100000
set_option linter.unusedVariables false

theorem Try.infoBool : (Try.prog.info? 4).map (fun i => (i.zero, i.size, i.bytes)) = some (some (.bool false), 1, 1) := by kernel_rfl
def rowA (p : List Int) : Nat := (p.getD 0 0).toNat
def rowB (p : List Int) : Nat := (p.getD 1 0).toNat
def upB (W : Nat → Bool) (i : Nat) : Nat → Bool := fun j => j == i || W j
/-- The wires that are wanted ahead of a list of comparators. -/
def liveW (W : Nat → Bool) : List (List Int) → Nat → Bool
  | [] => W
  | p :: r => if liveW W r (rowA p) || liveW W r (rowB p) then upB (upB (liveW W r) (rowA p)) (rowB p) else liveW W r
/-- The comparators that are kept. -/
def liveP (W : Nat → Bool) : List (List Int) → List (List Int)
  | [] => []
  | p :: r => if liveW W r (rowA p) || liveW W r (rowB p) then p :: liveP W r else liveP W r
def keepB (W : Nat → Bool) (xss : List (List Int)) (k : Nat) : Bool := liveW W (xss.drop (k + 1)) (rowA (xss.getD k [])) || liveW W (xss.drop (k + 1)) (rowB (xss.getD k []))
theorem drop_getD {xss : List (List Int)} {k : Nat} (hk : k < xss.length) : xss.drop k = xss.getD k [] :: xss.drop (k + 1) := by
  rw [List.drop_eq_getElem_cons hk]
  simp [List.getD, hk]
theorem liveW_yes {W : Nat → Bool} {xss : List (List Int)} {k : Nat} (hk : k < xss.length) (h : keepB W xss k = true) : liveW W (xss.drop k) = upB (upB (liveW W (xss.drop (k + 1))) (rowA (xss.getD k []))) (rowB (xss.getD k [])) := by
  rw [drop_getD hk, liveW]
  unfold keepB at h
  rw [if_pos h]
theorem liveW_no {W : Nat → Bool} {xss : List (List Int)} {k : Nat} (hk : k < xss.length) (h : keepB W xss k = false) : liveW W (xss.drop k) = liveW W (xss.drop (k + 1)) := by
  rw [drop_getD hk, liveW]
  unfold keepB at h
  rw [if_neg (by rw [h]; simp)]
theorem liveP_yes {W : Nat → Bool} {xss : List (List Int)} {k : Nat} (hk : k < xss.length) (h : keepB W xss k = true) : liveP W (xss.drop k) = xss.getD k [] :: liveP W (xss.drop (k + 1)) := by
  rw [drop_getD hk, liveP]
  unfold keepB at h
  rw [if_pos h]
theorem liveP_no {W : Nat → Bool} {xss : List (List Int)} {k : Nat} (hk : k < xss.length) (h : keepB W xss k = false) : liveP W (xss.drop k) = liveP W (xss.drop (k + 1)) := by
  rw [drop_getD hk, liveP]
  unfold keepB at h
  rw [if_neg (by rw [h]; simp)]
/-- The first k comparators that are kept. -/
def keptK (W : Nat → Bool) (xss : List (List Int)) (k : Nat) : List (List Int) := ((List.range k).filter (keepB W xss)).map fun j => xss.getD j []
theorem keptK_yes {W : Nat → Bool} {xss : List (List Int)} {k : Nat} (h : keepB W xss k = true) : keptK W xss (k + 1) = keptK W xss k ++ [xss.getD k []] := by simp [keptK, List.range_succ, List.filter_append, h]
theorem keptK_no {W : Nat → Bool} {xss : List (List Int)} {k : Nat} (h : keepB W xss k = false) : keptK W xss (k + 1) = keptK W xss k := by simp [keptK, List.range_succ, List.filter_append, h]
theorem keptK_le (W : Nat → Bool) (xss : List (List Int)) (k : Nat) : (keptK W xss k).length ≤ k := by
  have := List.length_filter_le (keepB W xss) (List.range k)
  simpa [keptK] using this
theorem keptK_all (W : Nat → Bool) (xss : List (List Int)) : keptK W xss xss.length = liveP W xss := by
  have : ∀ k, k ≤ xss.length → keptK W xss k ++ liveP W (xss.drop k) = liveP W xss := by
    intro k
    induction k with
    | zero => intro _; simp [keptK]
    | succ k ih =>
      intro hk
      rw [← ih (by omega)]
      cases h : keepB W xss k with
      | true => rw [keptK_yes h, liveP_yes (by omega) h, List.append_assoc]; rfl
      | false => rw [keptK_no h, liveP_no (by omega) h]
  have h := this xss.length (Nat.le_refl _)
  rwa [List.drop_length, liveP, List.append_nil] at h
theorem liveP_le (W : Nat → Bool) (xss : List (List Int)) : (liveP W xss).length ≤ xss.length := by
  rw [← keptK_all]; exact keptK_le _ _ _
/-- The wires of a list. -/
def wantB (xs : List Int) (k : Nat) : Nat → Bool := fun j => (xs.take k).contains (j : Int)
theorem wantB_zero (xs : List Int) (j : Nat) : wantB xs 0 j = false := by simp [wantB]
theorem wantB_succ {xs : List Int} {k : Nat} (hk : k < xs.length) {i : Nat} (h : xs.getD k 0 = (i : Int)) (j : Nat) : wantB xs (k + 1) j = if j = i then true else wantB xs k j := by
  unfold wantB
  rw [take_snoc_getD 0 hk, h]
  by_cases e : j = i
  · rw [if_pos e, e]; simp
  · rw [if_neg e]
    simp only [List.contains_eq_any_beq, List.any_append, List.any_cons, List.any_nil, Bool.or_false]
    have : ((j : Int) == (i : Int)) = false := by rw [beq_eq_false_iff_ne]; omega
    rw [this, Bool.or_false]
def wiresOk (n : Nat) (xs : List Int) : Bool := xs.all fun x => inB x 0 ((n : Int) - 1)
theorem wiresOk_at {n : Nat} {xs : List Int} (h : wiresOk n xs = true) {k : Nat} (hk : k < xs.length) : ∃ i : Nat, xs.getD k 0 = (i : Int) ∧ i < n := by
  simp only [wiresOk, List.all_eq_true] at h
  have := inB_of (h (xs.getD k 0) (by simp [List.getD, List.getElem?_eq_getElem hk]))
  exact ⟨(xs.getD k 0).toNat, by omega, by omega⟩
theorem wiresOk_no {n : Nat} {xs : List Int} (h : wiresOk n xs = false) : ∃ K, K < xs.length ∧ inB (xs.getD K 0) 0 ((n : Int) - 1) = false ∧ ∀ k, k < K → inB (xs.getD k 0) 0 ((n : Int) - 1) = true := by
  have hex : ∃ K, K < xs.length ∧ inB (xs.getD K 0) 0 ((n : Int) - 1) = false := by
    unfold wiresOk at h
    rw [List.all_eq_false] at h
    obtain ⟨x, hx, h2⟩ := h
    obtain ⟨k, hk, rfl⟩ := List.getElem_of_mem hx
    exact ⟨k, hk, by simpa [List.getD, hk] using h2⟩
  obtain ⟨K0, h1, h2⟩ := hex
  have : ∀ K0, (K0 < xs.length ∧ inB (xs.getD K0 0) 0 ((n : Int) - 1) = false) → ∃ K, K ≤ K0 ∧ inB (xs.getD K 0) 0 ((n : Int) - 1) = false ∧ ∀ k, k < K → inB (xs.getD k 0) 0 ((n : Int) - 1) = true := by
    intro K0
    induction K0 using Nat.strongRecOn with
    | ind K0 ih =>
      intro ⟨a, b⟩
      by_cases hc : ∃ m, m < K0 ∧ inB (xs.getD m 0) 0 ((n : Int) - 1) = false
      · obtain ⟨m, hm, hp⟩ := hc
        obtain ⟨K, c1, c2, c3⟩ := ih m hm ⟨by omega, hp⟩
        exact ⟨K, by omega, c2, c3⟩
      · refine ⟨K0, Nat.le_refl _, b, fun k hk => ?_⟩
        cases e : inB (xs.getD k 0) 0 ((n : Int) - 1) with
        | true => rfl
        | false => exact absurd ⟨k, hk, e⟩ hc
  obtain ⟨K, c1, c2, c3⟩ := this K0 ⟨h1, h2⟩
  exact ⟨K, by omega, c2, c3⟩

set_option maxHeartbeats 4000000 in
theorem LiveNetwork_i_yes (n : Nat) (lo hi lo2 hi2 : Nat) (v : Value) (vs : List Value) (xss : List (List Int)) (u : Value) (xs : List Int) (w : World) (hv : OwnR w lo hi v vs xss) (hhi : hi ≤ w.heap.size) (hok : netOk n xss = true)
    (hu : IntsV w lo2 hi2 u xs) (hh2 : hi2 ≤ w.heap.size) (hlx : xs.length ≤ 1048576) (hws : wiresOk n xs = true) :
    Calls Try.prog 45 #[.agg #[.int .i64 n, v], u] w (NetC w n (liveP (wantB xs xs.length) xss) true) := by
  have HC : Hid (∀ w, OwnR w lo hi v vs xss → hi ≤ w.heap.size → Calls Try.prog 104 #[.agg #[.int .i64 n, v]] w fun e w' => e = .returned (.bool true) ∧ Below w.heap.size w w') := fun w h1 h2 => by
    have := NetworkOk_c n lo hi v vs xss w h1 h2
    rwa [hok] at this
  have HP := Lib.hid (netOk_pair hok)
  have hn8 : n ≤ 8 := by have := netOk_n hok; omega
  have hn1 : 1 ≤ n := by have := netOk_n hok; omega
  have hl60 := netOk_len hok
  have HWS := Lib.hid hws
  obtain ⟨P9, hP9⟩ : ∃ P9, P9 = NetC w n (liveP (wantB xs xs.length) xss) true := ⟨_, rfl⟩
  have HP9 := Lib.hid hP9
  rw [← hP9]
  obtain ⟨ao, g, cap, A, G, C, rfl, hcap, hao, hrow⟩ := hv.view
  have HRW := Lib.hid hrow
  have HV := Lib.hid hv
  obtain ⟨L, hlen⟩ : ∃ l, l = xss.length := ⟨_, rfl⟩
  have HLEN := Lib.hid hlen
  rw [← hlen] at HV HC hl60 hcap hao HRW HP ⊢
  have HAO := Lib.hid hao
  obtain ⟨ao2, g2, off2, cap2, rfl, hcap2, hao2, hc2⟩ := hu
  have HCL := Lib.hid hc2
  have HAO2 := Lib.hid hao2
  obtain ⟨N, hN⟩ : ∃ N, N = xs.length := ⟨_, rfl⟩
  have HN := Lib.hid hN
  rw [← hN] at HCL hcap2 hlx ⊢
  clear hv hlen hok hP9 hrow hao hao2 hc2 hN hws
  go_enter Try.func45, Try.ntmps45
  go_wp2_with fail
  obtain ⟨W1, hW1, c0, c1, hsz, hB1, -, -⟩ := box2 w (.int .i64 n) (.slice ao L cap) 27
  have hb9 := blk_new W1 (.cells #[.int .i64 0, .slice none 0 0] 27)
  obtain ⟨W2, hW2⟩ : ∃ W, W = W1.alloc (.cells #[.int .i64 0, .slice none 0 0] 27) := ⟨_, rfl⟩
  have hBa : Below W1.heap.size W1 W2 := by rw [hW2]; exact (Below.refl _ _).alloc (Nat.le_refl _) _
  have hs2 : W2.heap.size = W1.heap.size + 1 := by rw [hW2]; simp
  rw [← hW2] at hb9
  obtain ⟨c0, c1, hz0⟩ := boxC hBa (by omega) c0 c1
  have hB2 : Below w.heap.size w W2 := hB1.trans (hBa.mono (by omega))
  rw [hsz] at hb9
  try rw [hW1, ← hW2]
  have hw2 : w.heap.size + 1 < W2.heap.size := by omega
  clear hW1 hW2 hBa hs2 hsz hB1
  refine (HC.out W2 (HV.out.below hB2 (by omega)) (by omega)).mono ?_
  rintro e w3 ⟨rfl, b3⟩
  obtain ⟨d0, d1, z3⟩ := boxC b3 hz0 c0 c1
  have hr9 := blk_below hb9 b3 hw2
  have HR9 := Lib.hid hr9
  have zz3 := b3.size
  have HB3 : Hid (Below w.heap.size w w3) := hB2.trans (b3.mono (by omega))
  have hw3 : w.heap.size + 1 < w3.heap.size := by omega
  have hle3 : hi ≤ w3.heap.size := by omega
  clear c0 c1 hb9 b3 hB2 HC HV hz0 hw2 zz3 hr9
  have hmk := run_make_row' (P := Try.prog) 76 4 (.bool false) 1 Try.underlying76 Try.infoBool rfl .i64 .i64 L (by omega) (by omega)
  go_wp2_with fail
  obtain ⟨W4, hW4⟩ : ∃ W, W = w3.alloc (.cells #[.bool false, .bool false, .bool false, .bool false, .bool false, .bool false, .bool false, .bool false] 78) := ⟨_, rfl⟩
  have hR4 : W4.rowIs w3.heap.size 78 8 (fun j => .bool (wantB xs 0 j)) := by
    rw [hW4]
    refine World.rowIs_alloc w3 _ _ _ fun i hi => ?_
    rw [wantB_zero]
    replace hi : i < 8 := hi
    match i, hi with
    | 0, _ | 1, _ | 2, _ | 3, _ | 4, _ | 5, _ | 6, _ | 7, _ => rfl
  have hB4 : Below w3.heap.size w3 W4 := by rw [hW4]; exact (Below.refl _ _).alloc (Nat.le_refl _) _
  have hs4 : w3.heap.size < W4.heap.size := by rw [hW4]; simp
  rw [← hW4]
  clear hW4
  have HR4 := Lib.hid hR4
  have HB4 := Lib.hid hB4
  clear hR4 hB4
  go_loopw [23] (fun i wr => ∃ k : Nat, k ≤ N ∧ i = .int .i64 k ∧ Hid (wr.rowIs w3.heap.size 78 8 (fun j => .bool (wantB xs k j))) ∧ Below w3.heap.size w3 wr) (fun i _ => N - (intOf i).toNat)
  case atStart => exact ⟨0, Nat.zero_le _, rfl, HR4.out, HB4.out⟩
  case round =>
    obtain ⟨k, hk, rfl, HK, hB⟩ := hrel
    have HB := Lib.hid hB
    have zB := hB.size
    obtain ⟨f0, f1, zf⟩ := boxC hB z3 d0 d1
    clear HR4 HB4
    have hX := HK.out.lt
    by_cases hlt : k < N
    · obtain ⟨i, hi, hin⟩ := wiresOk_at HWS.out (k := k) (by have := HN.out; omega)
      obtain ⟨ha2, l2, l3⟩ := HAO2.out (by omega)
      subst ha2
      have c2 : wr.cell? ⟨g2, off2 + k, none⟩ = some (.int .i64 i) := by
        rw [← hi]
        exact ((HB3.out.trans (hB.mono (by omega))).cell (p := ⟨g2, off2 + k, none⟩) (by show g2 < _; omega)).trans (HCL.out k hlt)
      have IW : Hid (∀ w, Calls Try.prog 113 #[.agg #[.int .i64 n, .slice ao L cap], .int .i64 i] w fun e w' => e = .returned (.bool true) ∧ Below w.heap.size w w') := fun w => by
        have := isWire_c n i (.slice ao L cap) w
        rwa [inB_mk ⟨by omega, by omega⟩] at this
      have HWB : Hid (∀ j, wantB xs (k + 1) j = if j = i then true else wantB xs k j) := fun j => wantB_succ (by have := HN.out; omega) hi j
      clear hB hi hmk
      go_wp2_with fail
      refine (IW.out wr).mono ?_
      rintro e w5 ⟨rfl, b5⟩
      have r5 := HK.out.of_block (b5.block _ hX)
      have q1 := r5.cell (i := i) (by omega)
      have q2 := r5.frozen i
      have R5 := Lib.hid r5
      have B5 : Hid (Below w3.heap.size w3 w5) := HB.out.trans (b5.mono zB)
      have hii : (i : Int) < 8 := by omega
      clear r5 b5 f0 f1
      go_wp2_with fail
      go_roundw
      case rel => exact ⟨k + 1, by omega, by go_num, (by show World.rowIs _ _ _ _ _; exact (R5.out.set i (.bool true)).congr fun j _ => by rw [HWB.out]; split <;> rfl), B5.out.setCell (by show w3.heap.size ≤ w3.heap.size; omega) _⟩
      case measure => simp [intOf] <;> omega
    · have hkN : k = xs.length := by have := HN.out; omega
      obtain ⟨W, hW⟩ : ∃ W, W = wantB xs xs.length := ⟨_, rfl⟩
      have HK2 : Hid (wr.rowIs w3.heap.size 78 8 (fun j => .bool (W j))) := by rw [hW, ← hkN]; exact HK.out
      rw [← hW] at HP9
      clear hkN HK hW hB
      go_wp2_with fail
      clear hmk
      obtain ⟨W6, hW6⟩ : ∃ W6, W6 = wr.alloc (.cells (madeCells #[.bool false] L) 4) := ⟨_, rfl⟩
      have hR6 : W6.rowIs wr.heap.size 4 L (fun j => .bool false) := by rw [hW6]; exact World.rowIs_made wr (.bool false) L 4
      have hB6 : Below w3.heap.size wr W6 := by rw [hW6]; exact (Below.refl _ _).alloc zB _
      have hK6 : W6.rowIs w3.heap.size 78 8 (fun j => .bool (W j)) := by rw [hW6]; exact HK2.out.alloc _
      have hs6 : wr.heap.size < W6.heap.size := by rw [hW6]; simp
      rw [← hW6]
      obtain ⟨Y, hY⟩ : ∃ Y, Y = wr.heap.size := ⟨_, rfl⟩
      rw [← hY] at hR6 hs6 hX ⊢
      have HR6 := Lib.hid hR6
      have HK6 := Lib.hid hK6
      have HB6 : Hid (Below w3.heap.size w3 W6) := HB.out.trans hB6
      clear hW6 hR6 hK6 hB6 HK2 f0 f1 hY
      go_loopw [10] (fun t10 wr => ∃ t : Nat, t ≤ L ∧ t10 = .int .i64 ((L : Int) - 1 - t) ∧ Hid (wr.rowIs w3.heap.size 78 8 (fun j => .bool (liveW W (xss.drop (L - t)) j))) ∧ Hid (wr.rowIs Y 4 L (fun j => .bool (decide (L - t ≤ j) && keepB W xss j))) ∧ Below w3.heap.size w3 wr) (fun t10 _ => (intOf t10 + 1).toNat)
      case atStart =>
        refine ⟨0, Nat.zero_le _, by go_num, ?_, ?_, HB6.out⟩
        · show World.rowIs _ _ _ _ _
          rw [Nat.sub_zero, HLEN.out, List.drop_length]
          exact HK6.out
        · show World.rowIs _ _ _ _ _
          refine HR6.out.congr fun j hj => ?_
          rw [decide_eq_false (by omega)]
          rfl
      case round =>
        obtain ⟨t, ht, rfl, HX2, HY2, hB⟩ := hrel
        have HB2 := Lib.hid hB
        have zB2 := hB.size
        obtain ⟨f0, f1, zf⟩ := boxC hB z3 d0 d1
        clear HR6 HK6 HB6 hlt HB zB hB
        have hXl := HX2.out.lt
        have hYl := HY2.out.lt
        by_cases hlt : t < L
        · obtain ⟨k, hk⟩ : ∃ k, k = L - 1 - t := ⟨_, rfl⟩
          have e1 : (L : Int) - 1 - t = (k : Int) := by omega
          have hkL : k < L := by omega
          have e2 : L - t = k + 1 := by omega
          have e3 : L - (t + 1) = k := by omega
          rw [e2] at HX2 HY2
          obtain ⟨i, j, hr, hi1, hj1, hne⟩ := HP.out k hkL
          obtain ⟨q1, q2, q3, q4⟩ := HRW.out k hkL
          obtain ⟨ha0, hg1, hg2⟩ := HAO.out (by omega)
          subst ha0
          have hra : rowA (xss.getD k []) = i := by rw [hr]; simp [rowA]
          have hrb : rowB (xss.getD k []) = j := by rw [hr]; simp [rowB]
          rw [hr] at q1 q2 q3 q4
          obtain ⟨ea, gk1, gk2⟩ := q3 (by simp)
          rw [ea] at q1
          have hbw : Below w.heap.size w wr := HB3.out.trans (HB2.out.mono (by omega))
          have c0 : wr.cell? ⟨g, k, none⟩ = some (.slice (some ⟨G k, 0, none⟩) 2 (C k)) := (hbw.cell (p := ⟨g, k, none⟩) (by show g < _; omega)).trans q1
          have c1 : wr.cell? ⟨G k, 0, none⟩ = some (.int .i64 i) := (hbw.cell (p := ⟨G k, 0, none⟩) (by show G k < _; omega)).trans (q4 0 (by simp))
          have c2 : wr.cell? ⟨G k, 1, none⟩ = some (.int .i64 j) := (hbw.cell (p := ⟨G k, 1, none⟩) (by show G k < _; omega)).trans (q4 1 (by simp))
          have hGk : G k < wr.heap.size := by omega
          have hgl : g < wr.heap.size := by omega
          have hwl : w.heap.size < wr.heap.size := by omega
          have HE3 := Lib.hid e3
          have HRA := Lib.hid hra
          have HRB := Lib.hid hrb
          have hkeep : keepB W xss k = (liveW W (xss.drop (k + 1)) i || liveW W (xss.drop (k + 1)) j) := by unfold keepB; rw [hra, hrb]
          have hyes : keepB W xss k = true → liveW W (xss.drop k) = upB (upB (liveW W (xss.drop (k + 1))) i) j := fun h => by rw [liveW_yes (by have := HLEN.out; omega) h, hra, hrb]
          have hno : keepB W xss k = false → liveW W (xss.drop k) = liveW W (xss.drop (k + 1)) := fun h => liveW_no (by have := HLEN.out; omega) h
          have HYES := Lib.hid hyes
          have HNO := Lib.hid hno
          obtain ⟨D, hD⟩ : ∃ D, D = liveW W (xss.drop (k + 1)) := ⟨_, rfl⟩
          rw [← hD] at HX2 HYES HNO hkeep
          obtain ⟨A', hA'⟩ : ∃ A', A' = D i := ⟨_, rfl⟩
          obtain ⟨B', hB'⟩ : ∃ B', B' = D j := ⟨_, rfl⟩
          rw [← hA', ← hB'] at hkeep
          have HKP := Lib.hid hkeep
          have HA' := Lib.hid hA'
          have HB' := Lib.hid hB'
          have e1' : (L : Int) - 1 - (t : Int) = (k : Int) := e1
          rw [e1]
          have HE1 := Lib.hid e1
          have hk0 : (0 : Int) ≤ (k : Int) := by omega
          have hkk : (k : Int) < (L : Int) := by omega
          clear q1 q2 q3 q4 hr ea hk e1 e2 e3 hra hrb hkeep hyes hno hD hA' hB' hbw e1'
          go_wp2_with fail
          refine wp_region_later wr.heap.size wr (by kernel_rfl) (by kernel_rfl) (Below.refl _ _) ?_
          have hLW := LW.cells (B := wr.heap.size) (w0 := wr)
          repeat (go_big_quiet_step (fail))
          refine wpQuiet_nil ?_
          rintro w2 ⟨⟨w2s, hb2⟩, rfl⟩
          clear hLW
          have X2 := HX2.out.of_block (hb2.block _ hXl)
          have Y2 := HY2.out.of_block (hb2.block _ hYl)
          have xa := X2.cell (i := i) (by omega)
          have xb := X2.cell (i := j) (by omega)
          rw [← HA'.out] at xa
          rw [← HB'.out] at xb
          have fa := X2.frozen i
          have fb := X2.frozen j
          have ya := Y2.cell (i := k) hkL
          have fy := Y2.frozen k
          have XX2 := Lib.hid X2
          have YY2 := Lib.hid Y2
          have B2 : Hid (Below w3.heap.size w3 w2) := HB2.out.trans (hb2.mono zB2)
          have hi8 : (i : Int) < 8 := by omega
          have hj8 : (j : Int) < 8 := by omega
          have hXY : w3.heap.size ≠ Y := by omega
          have hYX : Y ≠ w3.heap.size := by omega
          clear X2 Y2 hb2 c0 c1 c2 f0 f1
          cases A' <;> cases B'
          case false.false =>
            have HK0 : Hid (keepB W xss k = false) := by show _ = _; rw [HKP.out]; rfl
            clear HKP HYES
            go_wp2_with fail
            go_roundw
            case rel =>
              refine ⟨t + 1, by omega, by have := HE1.out; go_num, ?_, ?_, B2.out⟩
              · show World.rowIs _ _ _ _ _
                rw [HE3.out, HNO.out HK0.out]
                exact XX2.out
              · show World.rowIs _ _ _ _ _
                rw [HE3.out]
                refine YY2.out.congr fun j hj => ?_
                by_cases e : j = k
                · subst e; rw [HK0.out]; simp
                · congr 2
                  apply decide_eq_decide.2
                  omega
            case measure => simp [intOf] <;> omega
          all_goals
            have HK0 : Hid (keepB W xss k = true) := by show _ = _; rw [HKP.out]; rfl
            clear HKP HNO
            go_wp2_with fail
            go_roundw
            case rel =>
              refine ⟨t + 1, by omega, by have := HE1.out; go_num, ?_, ?_, ?_⟩
              · show World.rowIs _ _ _ _ _
                rw [HE3.out, HYES.out HK0.out]
                refine (((XX2.out.setOther hXY _).set i (.bool true)).set j (.bool true)).congr fun l hl => ?_
                by_cases e : l = j
                · simp [upB, e]
                · by_cases e' : l = i
                  · simp [upB, e']
                  · have b1 : (l == j) = false := by rw [beq_eq_false_iff_ne]; exact e
                    have b2 : (l == i) = false := by rw [beq_eq_false_iff_ne]; exact e'
                    simp [upB, b1, b2, e, e']
              · show World.rowIs _ _ _ _ _
                rw [HE3.out]
                refine (((YY2.out.set k (.bool true)).setOther hYX _).setOther hYX _).congr fun j hj => ?_
                by_cases e : j = k
                · subst e; rw [if_pos rfl, HK0.out]; simp
                · rw [if_neg e]
                  congr 2
                  apply decide_eq_decide.2
                  omega
              · exact ((B2.out.setCell (by show w3.heap.size ≤ Y; omega) _).setCell (by show w3.heap.size ≤ w3.heap.size; omega) _).setCell (by show w3.heap.size ≤ w3.heap.size; omega) _
            case measure => simp [intOf] <;> omega
        · have htL : t = L := by omega
          have HYL : Hid (wr.rowIs Y 4 L (fun j => .bool (keepB W xss j))) := by
            show World.rowIs _ _ _ _ _
            refine HY2.out.congr fun j hj => ?_
            rw [htL, decide_eq_true (by omega), Bool.true_and]
          have hneg : (L : Int) - 1 - t < 0 := by omega
          have HT0 := Lib.hid htL
          clear HX2 HY2 htL
          go_wp2_with fail
          have hb7 := blk_new wr (.cells #[.int .i64 n, .slice none 0 0] 27)
          obtain ⟨W7, hW7⟩ : ∃ W, W = wr.alloc (.cells #[.int .i64 n, .slice none 0 0] 27) := ⟨_, rfl⟩
          obtain ⟨Z, hZ⟩ : ∃ Z, Z = wr.heap.size := ⟨_, rfl⟩
          have hB7 : Below Z wr W7 := by rw [hW7, hZ]; exact (Below.refl _ _).alloc (Nat.le_refl _) _
          have hs7 : Z < W7.heap.size := by rw [hW7, hZ]; simp
          rw [← hW7, ← hZ] at hb7
          rw [← hW7]
          try rw [← hZ]
          have hnb : NB W7 Z n (.slice none 0 0) [] [] := ⟨hb7, OwnR.nil _ _ _⟩
          have hYZ : Y < Z := by omega
          have hwZ : w3.heap.size < Z := by omega
          have HY7 : Hid (W7.rowIs Y 4 L (fun j => .bool (keepB W xss j))) := HYL.out.of_block (hB7.block _ hYZ)
          have HB7 : Hid (Below w3.heap.size w3 W7) := HB2.out.trans (hB7.mono (by omega))
          clear hW7 hb7 hB7 HYL hZ
          go_loopw [82] (fun i wr => ∃ k : Nat, k ≤ L ∧ i = .int .i64 k ∧ ∃ v us, NB wr Z n v us (keptK W xss k) ∧ Below Z W7 wr) (fun i _ => L - (intOf i).toNat)
          case atStart => exact ⟨0, Nat.zero_le _, rfl, _, _, by simpa [keptK] using hnb, Below.refl _ _⟩
          case round =>
            obtain ⟨k, hk, rfl, v, us, hN, hB⟩ := hrel
            have HBr := Lib.hid hB
            have HB8 : Hid (Below w3.heap.size w3 wr) := HB7.out.trans (hB.mono (by omega))
            have zB8 := HB8.out.size
            have hXl3 := hN.lt
            obtain ⟨f0, f1, zf⟩ := boxC HB8.out z3 d0 d1
            obtain ⟨e0, e1, y0, y1⟩ := hN.cells
            have HN3 := Lib.hid hN
            have hYY := HY7.out.of_block (hB.block _ hYZ)
            clear hnb hN hB hlt hneg
            by_cases hlt : k < L
            · obtain ⟨i, j, hr, hi1, hj1, hne⟩ := HP.out k hlt
              obtain ⟨q1, q2, q3, q4⟩ := HRW.out k hlt
              obtain ⟨ha0, hg1, hg2⟩ := HAO.out (by omega)
              subst ha0
              have HRR : Hid (xss.getD k [] = [(i : Int), (j : Int)]) := hr
              rw [hr] at q1 q2 q3 q4
              obtain ⟨ea, gk1, gk2⟩ := q3 (by simp)
              rw [ea] at q1
              have hbw : Below w.heap.size w wr := HB3.out.trans (HB8.out.mono (by omega))
              have c0 : wr.cell? ⟨g, k, none⟩ = some (.slice (some ⟨G k, 0, none⟩) 2 (C k)) := (hbw.cell (p := ⟨g, k, none⟩) (by show g < _; omega)).trans q1
              have c1 : wr.cell? ⟨G k, 0, none⟩ = some (.int .i64 i) := (hbw.cell (p := ⟨G k, 0, none⟩) (by show G k < _; omega)).trans (q4 0 (by simp))
              have c2 : wr.cell? ⟨G k, 1, none⟩ = some (.int .i64 j) := (hbw.cell (p := ⟨G k, 1, none⟩) (by show G k < _; omega)).trans (q4 1 (by simp))
              have cy := hYY.cell (i := k) hlt
              clear hYY
              cases hkp : keepB W xss k
              · rw [hkp] at cy
                have HT : Hid (keptK W xss (k + 1) = keptK W xss k) := keptK_no hkp
                clear q1 q2 q3 q4 hr ea hbw hkp
                go_wp2_with fail
                go_roundw
                case rel => exact ⟨k + 1, by omega, by go_num, v, us, by rw [HT.out]; exact HN3.out, HBr.out⟩
                case measure => simp [intOf] <;> omega
              · rw [hkp] at cy
                have HT : Hid (keptK W xss (k + 1) = keptK W xss k ++ [[(i : Int), (j : Int)]]) := by show _ = _; rw [keptK_yes hkp, HRR.out]
                have HLN : Hid ((keptK W xss k).length ≤ 1000000) := by show _ ≤ _; have := keptK_le W xss k; omega
                have HBX := Lib.hid HN3.out.box
                have HRd := Lib.hid (HN3.out.own.kept (w' := wr.drew) fun _ _ _ _ => rfl)
                have hz2 : Z + 1 ≤ wr.drew.heap.size := hXl3
                have HS : ∀ W', Below (Z + 1) wr W' → W'.cell? ⟨G k, 0, none⟩ = some (.int .i64 i) ∧ W'.cell? ⟨G k, 1, none⟩ = some (.int .i64 j) ∧ W'.cell? ⟨Z, 1, none⟩ = some v := fun W' hb =>
                  ⟨(hb.cell (p := ⟨G k, 0, none⟩) (by show G k < _; omega)).trans c1, (hb.cell (p := ⟨G k, 1, none⟩) (by show G k < _; omega)).trans c2, (hb.cell (p := ⟨Z, 1, none⟩) (by show Z < _; omega)).trans e1⟩
                have HSS := Lib.hid HS
                have hA1 : ∀ X : Obj, Below (Z + 1) wr (wr.drew.alloc X) := fun X => (Below.refl _ _).drew.alloc hz2 _
                have hA2 : ∀ X Y : Obj, Below (Z + 1) wr ((wr.drew.alloc X).alloc Y) := fun X Y => (hA1 X).alloc (by simp; omega) _
                have HA1 := Lib.hid hA1
                have HA2 := Lib.hid hA2
                have hKK : keptC 0 0 wr.drew wr.drew v := fun k k1 k2 => by omega
                have HKK := Lib.hid hKK
                have h00 : 0 ≤ wr.drew.heap.size := Nat.zero_le _
                clear hA1 hA2 hKK HS hr ea q1 q2 q3 q4 hbw hkp
                go_wp2_with fail
                refine wpU_start (S := fun W' : World => W'.cell? ⟨G k, 0, none⟩ = some (.int .i64 i) ∧ W'.cell? ⟨G k, 1, none⟩ = some (.int .i64 j) ∧ W'.cell? ⟨Z, 1, none⟩ = some v) (m := 12) (by kernel_rfl) ?_
                have hHeld : (fun W' : World => W'.cell? ⟨G k, 0, none⟩ = some (.int .i64 i) ∧ W'.cell? ⟨G k, 1, none⟩ = some (.int .i64 j) ∧ W'.cell? ⟨Z, 1, none⟩ = some v) wr.drew := ⟨c1, c2, e1⟩
                refine wpU_take (i := 0) (v := ?v0) rfl (by kernel_rfl) (fun _ _ _ h => h) ⟨by rfl, ?hy0⟩ hHeld ?rest0
                case hy0 => (intro w hSw; (try dsimp only at hSw); go_simp; try with_reducible rfl)
                try simp only [Act.put, List.setIfInBounds_toArray, List.set_cons_zero, List.set_cons_succ]
                refine wpU_take (i := 1) (v := ?v1) rfl (by kernel_rfl) (fun _ _ _ h => h) ⟨by rfl, ?hy1⟩ hHeld ?rest1
                case hy1 => (intro w hSw; (try dsimp only at hSw); go_simp; try with_reducible rfl)
                try simp only [Act.put, List.setIfInBounds_toArray, List.set_cons_zero, List.set_cons_succ]
                refine wpU_take (i := 2) (v := ?v2) rfl (by kernel_rfl) (fun _ _ _ h => h) ⟨by rfl, ?hy2⟩ hHeld ?rest2
                case hy2 => (intro w hSw; (try dsimp only at hSw); go_simp; try with_reducible rfl)
                try simp only [Act.put, List.setIfInBounds_toArray, List.set_cons_zero, List.set_cons_succ]
                refine wpU_take (i := 3) (v := ?v3) rfl (by kernel_rfl) (fun _ _ _ h => h) ⟨by rfl, ?hy3⟩ hHeld ?rest3
                case hy3 => (intro w hSw; (try dsimp only at hSw); go_simp; try with_reducible rfl)
                try simp only [Act.put, List.setIfInBounds_toArray, List.set_cons_zero, List.set_cons_succ]
                refine wpU_take (i := 4) (v := ?v4) rfl (by kernel_rfl) (fun _ _ _ h => h) ⟨by rfl, ?hy4⟩ hHeld ?rest4
                case hy4 => (intro w hSw; (try dsimp only at hSw); go_simp; try with_reducible rfl)
                try simp only [Act.put, List.setIfInBounds_toArray, List.set_cons_zero, List.set_cons_succ]
                refine wpU_take (i := 5) (v := ?v5) rfl (by kernel_rfl) (fun _ _ _ h => h) ⟨by rfl, ?hy5⟩ hHeld ?rest5
                case hy5 => (intro w hSw; (try dsimp only at hSw); go_simp; try with_reducible rfl)
                try simp only [Act.put, List.setIfInBounds_toArray, List.set_cons_zero, List.set_cons_succ]
                refine wpU_take (i := 6) (v := ?v6) rfl (by kernel_rfl) (fun _ _ _ h => h) ⟨by rfl, ?hy6⟩ hHeld ?rest6
                case hy6 => (intro w hSw; (try dsimp only at hSw); go_simp; try with_reducible rfl)
                try simp only [Act.put, List.setIfInBounds_toArray, List.set_cons_zero, List.set_cons_succ]
                refine wpU_take (i := 7) (v := ?v7) rfl (by kernel_rfl) (fun _ _ _ h => h) ⟨by rfl, ?hy7⟩ hHeld ?rest7
                case hy7 => (intro w hSw; (try dsimp only at hSw); go_simp; try with_reducible rfl)
                try simp only [Act.put, List.setIfInBounds_toArray, List.set_cons_zero, List.set_cons_succ]
                refine wpU_one (i := 8) (by kernel_rfl) rfl (fun K hK => ?_)
                go_simp
                refine hK.out _ _ (HSS.out _ (HA1.out _)) (fun hHeld => ?_)
                clear hK K
                try simp only [Act.put, List.setIfInBounds_toArray, List.set_cons_zero, List.set_cons_succ]
                refine wpU_one (i := 9) (by kernel_rfl) rfl (fun K hK => ?_)
                go_simp
                refine hK.out _ _ (HSS.out _ (HA2.out _ _)) (fun hHeld => ?_)
                clear hK K
                try simp only [Act.put, List.setIfInBounds_toArray, List.set_cons_zero, List.set_cons_succ]
                refine wpU_one (i := 10) (by kernel_rfl) rfl (fun K hK => ?_)
                refine wp_app_pairC (.tmp 92) (.tmp 100) rfl wr.drew (i : Int) (j : Int) (Z + 1) _ us (keptK W xss k) 0 0 wr.drew HRd.out hz2 HKK.out h00 HLN.out rfl rfl ?_; intro g' L' cap' w8 vs8 hL8 o8 q8 z8 k8 y8; have bx8 := blk_below HBX.out (undrew q8) (by omega); have x0 := blk_cell bx8 0; have x1 := blk_cell bx8 1; have x2 := blk_free bx8 1; have BX8 := Lib.hid bx8; have O8 := Lib.hid o8; have Q8 := Lib.hid (undrew q8); clear o8 k8 bx8
                refine hK.out _ _ (HSS.out _ Q8.out) (fun hHeld => ?_)
                clear hK K
                try simp only [Act.put, List.setIfInBounds_toArray, List.set_cons_zero, List.set_cons_succ]
                refine wpU_take (i := 11) (v := ?v11) rfl (by kernel_rfl) (fun _ _ _ h => h) ⟨by rfl, ?hy11⟩ hHeld ?rest11
                case hy11 => (intro w hSw; (try dsimp only at hSw); go_simp; try with_reducible rfl)
                try simp only [Act.put, List.setIfInBounds_toArray, List.set_cons_zero, List.set_cons_succ]
                refine wpU_last (by kernel_rfl) rfl (fun K hK => ?_)
                go_simp
                refine hK.out _ _ ?_
                clear hK K
                try simp only [Act.put, List.setIfInBounds_toArray, List.set_cons_zero, List.set_cons_succ]
                refine wpU_done (by kernel_rfl) ?_ _
                go_wp2
                go_roundw
                case rel => exact ⟨k + 1, by omega, by go_num, _, vs8, by rw [HT.out]; exact NB.store BX8.out O8.out, (HBr.out.trans (Q8.out.mono (by omega))).setCell (by show Z ≤ Z; omega) _⟩
                case measure => simp [intOf] <;> omega
            · have hkL : k = L := by omega
              have hN9 : NB wr Z n v us (liveP W xss) := by
                have h := HN3.out
                rw [hkL, HLEN.out, keptK_all] at h
                exact h
              have HBf : Hid (Below w.heap.size w wr) := HB3.out.trans (HB8.out.mono (by omega))
              have hr9 := blk_below HR9.out HB8.out hw3
              have q0 := blk_cell hr9 0
              have q1 := blk_cell hr9 1
              have x0 := blk_free hr9 0
              have x1 := blk_free hr9 1
              have HRR := Lib.hid hr9
              obtain ⟨ao9, g9, cap9, e9, -, -, -⟩ := hN9.own.rows
              obtain ⟨M, hM⟩ : ∃ M, M = (liveP W xss).length := ⟨_, rfl⟩
              rw [← hM] at e9
              subst e9
              have HN9 := Lib.hid hN9
              clear hr9 hM hN9 hkL HN3 hYY
              go_wp2_with fail
              refine bodyPost_ret (v := .tuple #[.agg #[.int .i64 n, .slice ao9 M cap9], .bool true]) (by simp [results, Try.results45, go_sem, q0, q1]) rfl ?_
              rw [HP9.out]
              refine ⟨_, us, rfl, ?_, (HBf.out.setCell (by show w.heap.size ≤ w.heap.size + 1; omega) _).setCell (by show w.heap.size ≤ w.heap.size + 1; omega) _⟩
              exact ((HN9.out.own.past_box HRR.out).past_box (box_set0 HRR.out)).mono (by omega) (by simp [World.setCell] <;> omega)

/-- Rows ahead of others: the ones ahead lie in newer blocks. -/
theorem wp_app_rowsR {o : Oper} {a : Act} {K : Act → World → Prop} {Q : Exit → Act → World → Prop} (s x : Operand)
    (ho : o.op = .call { callee := .builtin .append, args := #[s, x], argTypes := #[22, 22] })
    (W : World) (lo mid : Nat) (v u : Value) (vs us : List Value) (xss yss : List (List Int)) (hR : OwnR W mid W.heap.size v vs xss) (hS : OwnR W lo mid u us yss) (hlo : lo ≤ mid) (hmid : mid ≤ W.heap.size)
    (hlen : xss.length + yss.length ≤ 1000000) (hs : a.eval s = v) (hx : a.eval x = u)
    (h : ∀ ao L cap w' vs', Hid (L = xss.length + yss.length) → OwnR w' lo w'.heap.size (.slice ao L cap) vs' (xss ++ yss) → Below mid W w' → mid ≤ w'.heap.size → K (a.put o.dst (.slice ao L cap)) w') :
    o.wp Try.prog a W K Q := by
  obtain ⟨i0, hi, hz0, hz1, hz2⟩ := info_parts Try.infoS
  have hl1 := hR.len
  have hl2 := hS.len
  have hR0 : OwnR W lo W.heap.size v vs xss := hR.mono hlo (Nat.le_refl _)
  rcases hS.top.row.2 with ⟨hu, hn⟩ | ⟨g, cap, cur, hu, hg, hh, hnc, hm, hcs, ht⟩
  · have hus : us = [] := List.eq_nil_of_length_eq_zero hn
    have hys : yss = [] := List.eq_nil_of_length_eq_zero (by omega)
    have hrun := run_append_owned_none (P := Try.prog) (w := W) lo 22 o.type 31 i0 1 Try.underlying22 hi v vs.length vs hR0.top.row
    have hK : K (a.put o.dst v) W := by
      obtain ⟨ao, g, cap, e, -, -, -⟩ := hR.rows
      rw [e]
      refine h ao _ cap W vs (by show _ = _; rw [hys]; rfl) ?_ (Below.refl _ _) hmid
      rw [← e, hys, List.append_nil]
      exact hR0
    rw [hu] at hx
    unfold Oper.wp
    simp [execOp, ho, resolve, invoke, builtin, hs, hx, hrun, Result.andThen]
    exact hK
  · have hcell : ∀ (j : Nat) (t : Value), us[j]? = some t → W.cell? ((⟨g, 0, none⟩ : Addr).add j) = some t := hS.top.row.cells (g := g) (by rw [hu]; rfl)
    refine wp_append_own W s x 22 ho mid 31 i0 (.slice none 0 0) 1 24 Try.underlying22 hi hz0 hz1 hz2 rfl (by decide) v vs.length vs hs hR.top.row ⟨g, 0, none⟩ us.length cap us (by rw [hx, hu]) (by simp) ?_ ?_ ?_ ?_ ?_ ?_
    · exact hcell
    · exact hS.oneCell
    · unfold maxLen; omega
    · omega
    · omega
    · intro v' w' hown hg2 hnil
      have hbs : ∀ t ∈ us, ∀ k, t.ownBlock = some k → k < mid := by
        intro t ht' k hk
        obtain ⟨i, hi', rfl⟩ := List.getElem_of_mem ht'
        exact (hS.row i us[i] (yss[i]'(by omega)) (List.getElem?_eq_getElem hi') (List.getElem?_eq_getElem (by omega))).lt k hk
      have hbr : ∀ t ∈ vs, ∀ k, t.ownBlock = some k → mid ≤ k := by
        intro t ht' k hk
        obtain ⟨i, hi', rfl⟩ := List.getElem_of_mem ht'
        exact ((hR.row i vs[i] (xss[i]'(by omega)) (List.getElem?_eq_getElem hi') (List.getElem?_eq_getElem (by omega))).row.lt k hk).1
      have ho2 : OwnR w' lo w'.heap.size v' (vs ++ us) (xss ++ yss) := by
        refine hR0.appended (hi2 := mid) hl2 (fun i t xs a b => hS.row i t xs a b) hS.sep ?_ ?_ (ownsRow_mono hown hlo) hg2
        · intro u' hu' t ht'
          unfold apartV
          cases hob : u'.ownBlock with
          | none => exact Or.inl rfl
          | some k =>
            right
            intro e
            have l1 := hbr u' hu' k hob
            have l2 := hbs t ht' k e.symm
            omega
        · intro t ht'
          cases hob : t.ownBlock with
          | none => exact Or.inl rfl
          | some k =>
            right
            intro e
            have l1 := hbs t ht' k hob
            have l2 := (hR.top.row.lt k e.symm).1
            omega
      obtain ⟨ao, g2, cap2, e, -, -, -⟩ := ho2.rows
      rw [List.length_append] at e
      subst e
      refine h ao _ cap2 w' _ rfl ho2 ((Below.refl _ _).grown hg2 hmid fun k hk => (hR.top.row.lt k hk).1) ?_
      have := hg2.size; omega
theorem wp_app_pairF {o : Oper} {a : Act} {K : Act → World → Prop} {Q : Exit → Act → World → Prop} (s x : Operand)
    (ho : o.op = .call { callee := .builtin .append, args := #[s, x], argTypes := #[22, 22] })
    (wr : World) (p q : Int) (lo : Nat) (v : Value) (vs : List Value) (xss : List (List Int)) (hR : OwnR wr lo wr.heap.size v vs xss) (hlo : lo ≤ wr.heap.size) (hlen : xss.length ≤ 100000)
    (hs : a.eval s = .slice (some ⟨wr.heap.size + 1, 0, none⟩) 1 1) (hx : a.eval x = v)
    (h : ∀ ao L cap w' vs', Hid (L = 1 + xss.length) → OwnR w' lo w'.heap.size (.slice ao L cap) vs' ([p, q] :: xss) → Below wr.heap.size wr w' → K (a.put o.dst (.slice ao L cap)) w') :
    o.wp Try.prog a ((wr.alloc (.cells #[.int .i64 p, .int .i64 q] 3)).alloc (.cells #[.slice (some ⟨wr.heap.size, 0, none⟩) 2 2] 31)) K Q := by
  have h1 : OwnI (wr.alloc (.cells #[.int .i64 p, .int .i64 q] 3)) wr.heap.size (wr.alloc (.cells #[.int .i64 p, .int .i64 q] 3)).heap.size (.slice (some ⟨wr.heap.size, 0, none⟩) 2 2) [p, q] := Own.mono (ownI_pair wr p q) (Nat.le_refl _) (by simp)
  have hb1 : Below wr.heap.size wr (wr.alloc (.cells #[.int .i64 p, .int .i64 q] 3)) := (Below.refl _ _).alloc (Nat.le_refl _) _
  have hz : (wr.alloc (.cells #[.int .i64 p, .int .i64 q] 3)).heap.size = wr.heap.size + 1 := by simp
  have h2 := ownR_one h1 (by omega)
  rw [hz] at h2
  have hb2 : Below wr.heap.size wr ((wr.alloc (.cells #[.int .i64 p, .int .i64 q] 3)).alloc (.cells #[.slice (some ⟨wr.heap.size, 0, none⟩) 2 2] 31)) := hb1.alloc (by omega) _
  have hold : OwnR ((wr.alloc (.cells #[.int .i64 p, .int .i64 q] 3)).alloc (.cells #[.slice (some ⟨wr.heap.size, 0, none⟩) 2 2] 31)) lo wr.heap.size v vs xss := hR.below hb2 (Nat.le_refl _)
  refine wp_app_rowsR s x ho _ lo wr.heap.size _ v _ vs [[p, q]] xss h2 hold hlo (by simp; omega) (by simp; omega) hs hx ?_
  intro ao L cap w' vs' h3 h4 h5 h6
  exact h ao L cap w' vs' h3 h4 (hb2.trans h5)

end Go.Proofs.Ytgdkihabphihoaa
