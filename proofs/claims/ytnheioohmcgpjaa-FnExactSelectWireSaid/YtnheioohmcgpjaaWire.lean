/- One more wire behind a network: both functions on all arguments. Conditions: none. -/
import Derived.Test.YtnheioohmcgpjaaCopy2
import Derived.Test.YtnheioohmcgpjaaApp
namespace Go.Proofs.Ytnheioohmcgpjaa
open Go.RowKit
set_option maxRecDepth 100000
set_option linter.unusedVariables false

/-- What a call owns is not a network's box. -/
theorem Own.past_box {e T : TypeId} {w : World} {lo hi X i : Nat} {v y : Value} {xs : List Value} {c : Array Value} {f : Nat × Nat} (h : Own e w lo hi v xs) (hb : w.heap[X]? = some (.cells c T f)) (hne : e ≠ T) : Own e (w.setCell ⟨X, i, none⟩ y) lo hi v xs := by
  refine ⟨ownsRow_of_block h.row fun k hk => Below.heap_setCell _ _ _ _ ?_, h.lt⟩
  show k ≠ X
  intro hkx
  subst hkx
  rcases h.row.2 with ⟨e1, _⟩ | ⟨g, cap, cur, e1, hg, hh, _⟩
  · rw [e1] at hk; simp [Value.ownBlock] at hk
  · rw [e1] at hk
    simp [Value.ownBlock] at hk
    subst hk
    rw [hb] at hh
    simp at hh
    exact hne hh.2.1.symm
theorem own_not_box {e T : TypeId} {w : World} {lo hi X : Nat} {v : Value} {xs : List Value} {c : Array Value} {f : Nat × Nat} (h : Own e w lo hi v xs) (hb : w.heap[X]? = some (.cells c T f)) (hne : e ≠ T) : v.ownBlock ≠ some X := by
  intro hk
  rcases h.row.2 with ⟨e1, _⟩ | ⟨g, cap, cur, e1, hg, hh, _⟩
  · rw [e1] at hk; simp [Value.ownBlock] at hk
  · rw [e1] at hk
    simp [Value.ownBlock] at hk
    subst hk
    rw [hb] at hh
    simp at hh
    exact hne hh.2.1.symm
theorem OwnR.past_box {w : World} {lo hi X i : Nat} {v y : Value} {vs : List Value} {xss : List (List Int)} {c : Array Value} {f : Nat × Nat} (h : OwnR w lo hi v vs xss) (hb : w.heap[X]? = some (.cells c 32 f)) : OwnR (w.setCell ⟨X, i, none⟩ y) lo hi v vs xss :=
  ⟨Own.past_box h.top hb (by decide), h.len, fun i u xs a b => Own.past_box (h.row i u xs a b) hb (by decide), h.sep⟩
/-- A network's box with one of its cells set. -/
theorem box_set0 {w : World} {X : Nat} {a b y : Value} (h : w.heap[X]? = some (.cells #[a, b] 32 (0, 0))) : (w.setCell ⟨X, 0, none⟩ y).heap[X]? = some (.cells #[y, b] 32 (0, 0)) := by
  have hlt : X < w.heap.size := lt_of_block h
  have h' : w.heap[X] = .cells #[a, b] 32 (0, 0) := by simpa [Array.getElem?_eq_getElem hlt] using h
  show (w.heap.modify X _)[X]? = _
  rw [Array.getElem?_eq_getElem (by simpa using hlt), Array.getElem_modify_self, h']
  rfl
theorem box_set1 {w : World} {X : Nat} {a b y : Value} (h : w.heap[X]? = some (.cells #[a, b] 32 (0, 0))) : (w.setCell ⟨X, 1, none⟩ y).heap[X]? = some (.cells #[a, y] 32 (0, 0)) := by
  have hlt : X < w.heap.size := lt_of_block h
  have h' : w.heap[X] = .cells #[a, b] 32 (0, 0) := by simpa [Array.getElem?_eq_getElem hlt] using h
  show (w.heap.modify X _)[X]? = _
  rw [Array.getElem?_eq_getElem (by simpa using hlt), Array.getElem_modify_self, h']
  rfl
/-- The comparators that carry the new wire's value down, the first t of them. -/
def insK (n t : Nat) : List (List Int) := (List.range t).map fun i : Nat => [(n : Int) - 1 - (i : Int), (n : Int) - 1 - (i : Int) + 1]
theorem insK_succ (n t : Nat) : insK n (t + 1) = insK n t ++ [[(n : Int) - 1 - (t : Int), (n : Int) - 1 - (t : Int) + 1]] := by simp [insK, List.range_succ]
theorem insK_len (n t : Nat) : (insK n t).length = t := by simp [insK]
set_option maxHeartbeats 2000000 in
theorem InsertWire_i_yes (n : Nat) (lo hi : Nat) (v : Value) (vs : List Value) (xss : List (List Int)) (w : World) (hv : OwnR w lo hi v vs xss) (hhi : hi ≤ w.heap.size) (hok : netOk n xss = true) :
    Calls Try.prog 41 #[.agg #[.int .i64 n, v]] w (NetC w (if netOk ((n : Int) + 1) (xss ++ insK n n) = true then (n : Int) + 1 else 0) (if netOk ((n : Int) + 1) (xss ++ insK n n) = true then xss ++ insK n n else []) (netOk ((n : Int) + 1) (xss ++ insK n n))) := by
  have HC : Hid (∀ w, OwnR w lo hi v vs xss → hi ≤ w.heap.size → Calls Try.prog 59 #[.agg #[.int .i64 n, v]] w fun e w' => e = .returned (.bool true) ∧ Below w.heap.size w w') := fun w h1 h2 => by
    have := NetworkOk_c n lo hi v vs xss w h1 h2
    rwa [hok] at this
  have CO : Hid (∀ w, OwnR w lo hi v vs xss → hi ≤ w.heap.size → Calls Try.prog 83 #[.agg #[.int .i64 n, v]] w fun e w' => ∃ u us, e = .returned (.agg #[.int .i64 n, u]) ∧ OwnR w' w.heap.size w'.heap.size u us xss ∧ Below w.heap.size w w') := fun w h1 h2 => own_c n lo hi v vs xss w h1 h2 hok
  have hn8 : n ≤ 8 := by have := netOk_n hok; omega
  have hn1 : 1 ≤ n := by have := netOk_n hok; omega
  have hl60 := netOk_len hok
  obtain ⟨P9, hP9⟩ : ∃ P9, P9 = NetC w (if netOk ((n : Int) + 1) (xss ++ insK n n) = true then (n : Int) + 1 else 0) (if netOk ((n : Int) + 1) (xss ++ insK n n) = true then xss ++ insK n n else []) (netOk ((n : Int) + 1) (xss ++ insK n n)) := ⟨_, rfl⟩
  have HP9 := Lib.hid hP9
  rw [← hP9]
  obtain ⟨ao, g, cap, rfl, -, -, -⟩ := hv.rows
  have HV := Lib.hid hv
  obtain ⟨L, hlen⟩ : ∃ l, l = xss.length := ⟨_, rfl⟩
  have HLEN := Lib.hid hlen
  rw [← hlen] at HV HC CO hl60 ⊢
  clear hv hlen hok hP9
  go_enter Try.func41, Try.ntmps41
  go_wp2_with fail
  obtain ⟨W1, hW1, c0, c1, hsz, hB1, -, -⟩ := box2 w (.int .i64 n) (.slice ao L cap) 32
  have hb9 := blk_new W1 (.cells #[.int .i64 0, .slice none 0 0] 32)
  obtain ⟨W2, hW2⟩ : ∃ W, W = W1.alloc (.cells #[.int .i64 0, .slice none 0 0] 32) := ⟨_, rfl⟩
  have hBa : Below W1.heap.size W1 W2 := by rw [hW2]; exact (Below.refl _ _).alloc (Nat.le_refl _) _
  have hs2 : W2.heap.size = W1.heap.size + 1 := by rw [hW2]; simp
  rw [← hW2] at hb9
  obtain ⟨c0, c1, hz0⟩ := boxC hBa (by omega) c0 c1
  have hB2 : Below w.heap.size w W2 := hB1.trans (hBa.mono (by omega))
  rw [hsz] at hb9
  try rw [hW1, ← hW2]
  have hw2 : w.heap.size + 1 < W2.heap.size := by omega
  clear hW1 hW2 hBa hs2 hsz hB1
  refine (HC.out W2 (HV.out.below hB2 (by omega)) (by omega)).mono ?_
  rintro e w3 ⟨rfl, b3⟩
  obtain ⟨d0, d1, z3⟩ := boxC b3 hz0 c0 c1
  have hr9 := blk_below hb9 b3 hw2
  have zz3 := b3.size
  have HV3 := Lib.hid ((HV.out.below hB2 hhi).below b3 (by omega))
  have HB3 : Hid (Below w.heap.size w w3) := hB2.trans (b3.mono (by omega))
  have hw3 : w.heap.size + 1 < w3.heap.size := by omega
  have hle3 : hi ≤ w3.heap.size := by omega
  clear c0 c1 hb9 b3 hB2 HC HV hz0 hw2 zz3
  go_wp2_with fail
  refine (CO.out w3 HV3.out hle3).mono ?_
  rintro e w4 ⟨u, us, rfl, o4, b4⟩
  obtain ⟨ao4, g4, cap4, e4, -, -, -⟩ := o4.rows
  rw [← HLEN.out] at e4
  subst e4
  obtain ⟨e0, e1, z4⟩ := boxC b4 z3 d0 d1
  have hr4 := blk_below hr9 b4 hw3
  have O4 := Lib.hid o4
  have HR4 := Lib.hid hr4
  have zz4 := b4.size
  have HB4 : Hid (Below w.heap.size w w4) := HB3.out.trans (b4.mono (by omega))
  have hw4 : w.heap.size + 1 < w4.heap.size := by omega
  clear d0 d1 hr9 HV3 CO b4 o4 hr4
  go_wp2_with fail
  have hb5 := blk_new w4 (.cells #[.int .i64 ((n : Int) + 1), .slice ao4 L cap4] 32)
  obtain ⟨W5, hW5⟩ : ∃ W, W = w4.alloc (.cells #[.int .i64 ((n : Int) + 1), .slice ao4 L cap4] 32) := ⟨_, rfl⟩
  have hB5 : Below w4.heap.size w4 W5 := by rw [hW5]; exact (Below.refl _ _).alloc (Nat.le_refl _) _
  have hs5 : w4.heap.size < W5.heap.size := by rw [hW5]; simp
  have O5 : Hid (OwnR W5 w3.heap.size W5.heap.size (.slice ao4 L cap4) us xss) := by
    show OwnR _ _ _ _ _ _
    rw [hW5]
    exact (O4.out.alloc _).mono (Nat.le_refl _) (by simp)
  rw [← hW5] at hb5
  try rw [← hW5]
  clear hW5
  obtain ⟨X, hX⟩ : ∃ X, X = w4.heap.size := ⟨_, rfl⟩
  have HX4 := Lib.hid hX
  have hr5 := blk_below HR4.out hB5 hw4
  obtain ⟨f0, f1, z5⟩ := boxC hB5 z4 e0 e1
  have HB5 : Hid (Below w.heap.size w W5) := HB4.out.trans (hB5.mono (by omega))
  rw [← hX] at hb5 hs5 ⊢
  have hX3 : w3.heap.size ≤ X := by omega
  have HB5b := Lib.hid hb5
  have HR5 := Lib.hid hr5
  clear e0 e1 z4 HR4 HB4 hB5 hb5 hr5 O4 hX zz4 hw4
  go_loopw [5] (fun i wr => ∃ t : Nat, t ≤ n ∧ i = .int .i64 ((n : Int) - 1 - t) ∧ ∃ v us, wr.heap[X]? = some (.cells #[.int .i64 ((n : Int) + 1), v] 32 (0, 0)) ∧ OwnR wr w3.heap.size wr.heap.size v us (xss ++ insK n t) ∧ Below w3.heap.size W5 wr) (fun i _ => (intOf i + 1).toNat)
  case atStart => exact ⟨0, Nat.zero_le _, by go_num, _, us, HB5b.out, by simpa [insK] using O5.out, Below.refl _ _⟩
  case round =>
    obtain ⟨t, ht, rfl, v, us2, hbx, hR, hb⟩ := hrel
    have HBX := Lib.hid hbx
    have HR := Lib.hid hR
    have HB := Lib.hid hb
    have hzb := hb.size
    have hXl : X < wr.heap.size := by omega
    have g0 := blk_cell hbx 0
    have g1 := blk_cell hbx 1
    have y1 := blk_free hbx 1
    clear O5 HB5b
    by_cases hlt : t < n
    · have hj : (0 : Int) ≤ (n : Int) - 1 - t := by omega
      have HKC : Hid (keptC X (X + 1) wr wr v) := fun k k1 k2 => ⟨rfl, by
        rw [show k = X by omega]
        exact own_not_box hR.top hbx (by decide)⟩
      have HLN : Hid ((xss ++ insK n t).length ≤ 1000000) := by show _ ≤ _; rw [List.length_append, insK_len, ← HLEN.out]; omega
      have hlo : w3.heap.size ≤ wr.heap.size := by omega
      have hX1 : X + 1 ≤ wr.heap.size := by omega
      clear hbx hR hb
      go_wp2_with (at_builtin; refine wpList_app_pairC rfl (.tmp 24) (.tmp 29) rfl wr _ _ w3.heap.size _ us2 (xss ++ insK n t) X (X + 1) wr HR.out hlo HKC.out hX1 HLN.out rfl rfl ?_; intro g' L' cap' w8 us8 hL8 o8 q8 z8 k8 y8; have bx8 := ((k8 X (Nat.le_refl _) (by omega)).1).trans HBX.out; have r0 := blk_cell bx8 0; have r1 := blk_cell bx8 1; have r2 := blk_free bx8 1; have BX8 := Lib.hid bx8; have O8 := Lib.hid o8; have Q8 := Lib.hid q8; clear bx8 o8 q8 k8)
      go_roundw
      case rel => exact ⟨t + 1, by omega, by go_num, _, us8, box_set1 BX8.out, by rw [insK_succ, ← List.append_assoc]; exact (O8.out.past_box BX8.out).mono (Nat.le_refl _) (by simp [World.setCell]), (HB.out.trans Q8.out).setCell (by show w3.heap.size ≤ X; omega) _⟩
      case measure => simp [intOf]; omega
    · have htn : t = n := by omega
      have hj : (n : Int) - 1 - t < 0 := by omega
      have HRn : Hid (OwnR wr w3.heap.size wr.heap.size v us2 (xss ++ insK n n)) := by have h := hR; rw [htn] at h; exact h
      have hrr := blk_below (blk_below HR5.out hb (by omega)) (Below.refl w3.heap.size wr) (by omega)
      have HRR := Lib.hid hrr
      have HBf : Hid (Below w.heap.size w wr) := HB5.out.trans (hb.mono (by omega))
      have CK := Lib.hid (checked_c ((n : Int) + 1) w3.heap.size wr.heap.size v us2 (xss ++ insK n n) wr HRn.out (Nat.le_refl _))
      obtain ⟨ao9, g9, cap9, e9, -, -, -⟩ := HRn.out.rows
      obtain ⟨M, hM⟩ : ∃ M, M = (xss ++ insK n n).length := ⟨_, rfl⟩
      rw [← hM] at e9
      subst e9
      obtain ⟨b9, hb9⟩ : ∃ b, b = netOk ((n : Int) + 1) (xss ++ insK n n) := ⟨_, rfl⟩
      rw [← hb9] at CK HP9
      clear hbx hR hb hrr hM hb9 htn
      cases b9
      all_goals
        go_wp2_with fail
        refine CK.out.mono ?_
        rintro e w9 ⟨rfl, b9⟩
        have hr9 := blk_below HRR.out b9 (by omega)
        have q0 := blk_cell hr9 0
        have q1 := blk_cell hr9 1
        have x0 := blk_free hr9 0
        have x1 := blk_free hr9 1
        have HR9 := Lib.hid hr9
        have HO9 := Lib.hid (HRn.out.later b9)
        have HB9 : Hid (Below w.heap.size w w9) := HBf.out.trans (b9.mono (by have := HBf.out.size; omega))
        have z9 := b9.size
        clear hr9 b9
      · simp only [Bool.false_eq_true, if_false]
        go_wp2
        refine bodyPost_ret (v := .tuple #[.agg #[.int .i64 0, .slice none 0 0], .bool false]) (by simp [results, Try.results41, go_sem, q0, q1]) rfl ?_
        rw [HP9.out]
        refine ⟨_, [], rfl, OwnR.nil _ _ _, ?_⟩
        first
          | exact (HB9.out.setCell (by show w.heap.size ≤ w.heap.size + 1; omega) _).setCell (by show w.heap.size ≤ w.heap.size + 1; omega) _
          | exact HB9.out
      · simp only [if_true]
        go_wp2
        refine bodyPost_ret (v := .tuple #[.agg #[.int .i64 ((n : Int) + 1), .slice ao9 M cap9], .bool true]) (by simp [results, Try.results41, go_sem, q0, q1]) rfl ?_
        rw [HP9.out]
        refine ⟨_, us2, rfl, ?_, (HB9.out.setCell (by show w.heap.size ≤ w.heap.size + 1; omega) _).setCell (by show w.heap.size ≤ w.heap.size + 1; omega) _⟩
        exact ((HO9.out.past_box HR9.out).past_box (box_set0 HR9.out)).mono (by omega) (by simp [World.setCell]; omega)
set_option maxHeartbeats 2000000 in
theorem InsertWire_s_yes (n : Nat) (lo hi : Nat) (v : Value) (vs : List Value) (xss : List (List Int)) (w : World) (hv : OwnR w lo hi v vs xss) (hhi : hi ≤ w.heap.size) (hok : netOk n xss = true) :
    Calls Try.prog 40 #[.agg #[.int .i64 n, v]] w (NetC w (if netOk ((n : Int) + 1) (xss ++ insK n n) = true then (n : Int) + 1 else 0) (if netOk ((n : Int) + 1) (xss ++ insK n n) = true then xss ++ insK n n else []) (netOk ((n : Int) + 1) (xss ++ insK n n))) := by
  have HC : Hid (∀ w, OwnR w lo hi v vs xss → hi ≤ w.heap.size → Calls Try.prog 57 #[.agg #[.int .i64 n, v]] w fun e w' => e = .returned (.bool true) ∧ Below w.heap.size w w') := fun w h1 h2 => by
    have := SNetworkOk_c n lo hi v vs xss w h1 h2
    rwa [hok] at this
  have CO : Hid (∀ w, OwnR w lo hi v vs xss → hi ≤ w.heap.size → Calls Try.prog 82 #[v] w (RowC w xss)) := fun w h1 h2 => l02Copy_c n lo hi v vs xss w h1 h2 hok
  have hn8 : n ≤ 8 := by have := netOk_n hok; omega
  have hn1 : 1 ≤ n := by have := netOk_n hok; omega
  have hl60 := netOk_len hok
  obtain ⟨P9, hP9⟩ : ∃ P9, P9 = NetC w (if netOk ((n : Int) + 1) (xss ++ insK n n) = true then (n : Int) + 1 else 0) (if netOk ((n : Int) + 1) (xss ++ insK n n) = true then xss ++ insK n n else []) (netOk ((n : Int) + 1) (xss ++ insK n n)) := ⟨_, rfl⟩
  have HP9 := Lib.hid hP9
  rw [← hP9]
  obtain ⟨ao, g, cap, rfl, -, -, -⟩ := hv.rows
  have HV := Lib.hid hv
  obtain ⟨L, hlen⟩ : ∃ l, l = xss.length := ⟨_, rfl⟩
  have HLEN := Lib.hid hlen
  rw [← hlen] at HV HC CO hl60 ⊢
  clear hv hlen hok hP9
  go_enter Try.func40, Try.ntmps40
  go_wp2_with fail
  obtain ⟨W1, hW1, c0, c1, hsz, hB1, -, -⟩ := box2 w (.int .i64 n) (.slice ao L cap) 32
  have hb9 := blk_new W1 (.cells #[.int .i64 0, .slice none 0 0] 32)
  obtain ⟨W2, hW2⟩ : ∃ W, W = W1.alloc (.cells #[.int .i64 0, .slice none 0 0] 32) := ⟨_, rfl⟩
  have hBa : Below W1.heap.size W1 W2 := by rw [hW2]; exact (Below.refl _ _).alloc (Nat.le_refl _) _
  have hs2 : W2.heap.size = W1.heap.size + 1 := by rw [hW2]; simp
  rw [← hW2] at hb9
  obtain ⟨c0, c1, hz0⟩ := boxC hBa (by omega) c0 c1
  have hB2 : Below w.heap.size w W2 := hB1.trans (hBa.mono (by omega))
  rw [hsz] at hb9
  try rw [hW1, ← hW2]
  have hw2 : w.heap.size + 1 < W2.heap.size := by omega
  clear hW1 hW2 hBa hs2 hsz hB1
  refine (HC.out W2 (HV.out.below hB2 (by omega)) (by omega)).mono ?_
  rintro e w3 ⟨rfl, b3⟩
  obtain ⟨d0, d1, z3⟩ := boxC b3 hz0 c0 c1
  have hr9 := blk_below hb9 b3 hw2
  have zz3 := b3.size
  have HV3 := Lib.hid ((HV.out.below hB2 hhi).below b3 (by omega))
  have HB3 : Hid (Below w.heap.size w w3) := hB2.trans (b3.mono (by omega))
  have hw3 : w.heap.size + 1 < w3.heap.size := by omega
  have hle3 : hi ≤ w3.heap.size := by omega
  clear c0 c1 hb9 b3 hB2 HC HV hz0 hw2 zz3
  have HV4 : Hid (OwnR w3.drew lo hi (.slice ao L cap) vs xss) := HV3.out.below ((Below.refl _ _).drew) hle3
  obtain ⟨WA, hWA⟩ : ∃ W, W = w3.alloc (.cells #[.int .i64 0, .slice none 0 0] 32) := ⟨_, rfl⟩
  have hAs : WA.heap.size = w3.heap.size + 1 := by rw [hWA]; simp
  have hAb : Below w3.heap.size w3 WA := by rw [hWA]; exact (Below.refl _ _).alloc (Nat.le_refl _) _
  have HAb := Lib.hid hAb
  have hAx : WA.heap[w3.heap.size]? = some (.cells #[.int .i64 0, .slice none 0 0] 32 (0, 0)) := by rw [hWA]; exact blk_new _ _
  have HAx := Lib.hid hAx
  have HV5 : Hid (OwnR WA.drew lo hi (.slice ao L cap) vs xss) := HV3.out.below (hAb.drew) hle3
  have hle5 : hi ≤ WA.drew.heap.size := by show hi ≤ WA.heap.size; omega
  obtain ⟨dd0, dd1, zz3⟩ := boxC hAb z3 d0 d1
  have hAlt : w3.heap.size < WA.heap.size := by omega
  have HWA := Lib.hid hWA
  clear hWA hAb hAx
  go_wp2_with fail
  go_region_law (first | (go_simp; go_at_call 82; refine (CO.out w3.drew HV4.out hle3).mono ?_; rintro e w4 ⟨u, us, rfl, o4, b4⟩; have d4 := undrew b4; obtain ⟨ao4, g4, cap4, e4, -, -, -⟩ := o4.rows; rw [← HLEN.out] at e4; subst e4; obtain ⟨e0, e1, z4⟩ := boxC d4 z3 d0 d1; have O4 := Lib.hid o4; have D4 := Lib.hid d4; clear o4 b4 d4) | (go_simp; go_at_call 82; rw [← HWA.out]; refine (CO.out WA.drew HV5.out hle5).mono ?_; rintro e w4 ⟨u, us, rfl, o4, b4⟩; have d4 := undrew b4; obtain ⟨ao4, g4, cap4, e4, -, -, -⟩ := o4.rows; rw [← HLEN.out] at e4; subst e4; obtain ⟨e0, e1, z4⟩ := boxC d4 zz3 dd0 dd1; have hx4 := blk_below HAx.out d4 hAlt; have p0 := blk_cell hx4 0; have p1 := blk_cell hx4 1; have r0 := blk_free hx4 0; have r1 := blk_free hx4 1; have HX4 := Lib.hid hx4; have O4 := Lib.hid o4; have D4 := Lib.hid d4; clear hx4 o4 b4 d4) | fail)
  all_goals
    have hwr : IntKind.i64.wrap ((n : Int) + 1) = (n : Int) + 1 := IntWalk.i64_in _ (by omega)
    rw [hwr]
    first
      | (obtain ⟨W5, hW5⟩ : ∃ W, W = w4.alloc (.cells #[.int .i64 ((n : Int) + 1), .slice ao4 L cap4] 32) := ⟨_, rfl⟩
         obtain ⟨X, hX⟩ : ∃ X, X = w4.heap.size := ⟨_, rfl⟩
         rw [← hW5, ← hX]
         have hb5 : W5.heap[X]? = some (.cells #[.int .i64 ((n : Int) + 1), .slice ao4 L cap4] 32 (0, 0)) := by rw [hW5, hX]; exact blk_new _ _
         have hB5 : Below w3.heap.size w3 W5 := by rw [hW5]; exact (D4.out.mono (Nat.le_refl _)).alloc D4.out.size _
         have O5 : Hid (OwnR W5 w3.heap.size W5.heap.size (.slice ao4 L cap4) us xss) := by
           show OwnR _ _ _ _ _ _
           rw [hW5]
           exact (O4.out.alloc _).mono (Nat.le_refl _) (by simp)
         have hs5 : X < W5.heap.size := by rw [hX, hW5]; simp
         have hX3 : w3.heap.size ≤ X := by rw [hX]; exact D4.out.size
         clear hW5 hX)
      | (obtain ⟨W5, hW5⟩ : ∃ W, W = (w4.setCell ⟨w3.heap.size, 0, none⟩ (.int .i64 ((n : Int) + 1))).setCell ⟨w3.heap.size, 1, none⟩ (.slice ao4 L cap4) := ⟨_, rfl⟩
         obtain ⟨X, hX⟩ : ∃ X, X = w3.heap.size := ⟨_, rfl⟩
         rw [← hW5, ← hX]
         have hb5 : W5.heap[X]? = some (.cells #[.int .i64 ((n : Int) + 1), .slice ao4 L cap4] 32 (0, 0)) := by rw [hW5, hX]; exact box_set1 (box_set0 HX4.out)
         have hB5 : Below w3.heap.size w3 W5 := by rw [hW5]; exact ((HAb.out.trans (D4.out.mono HAb.out.size)).setCell (by show w3.heap.size ≤ w3.heap.size; omega) _).setCell (by show w3.heap.size ≤ w3.heap.size; omega) _
         have O5 : Hid (OwnR W5 w3.heap.size W5.heap.size (.slice ao4 L cap4) us xss) := by
           show OwnR _ _ _ _ _ _
           rw [hW5]
           exact ((O4.out.past_box HX4.out).past_box (box_set0 HX4.out)).mono HAb.out.size (by simp [World.setCell])
         have hs5 : X < W5.heap.size := lt_of_block hb5
         have hX3 : w3.heap.size ≤ X := by rw [hX]; exact Nat.le_refl _
         clear hW5 hX)
    have hr5 := blk_below hr9 hB5 hw3
    obtain ⟨f0, f1, z5⟩ := boxC hB5 z3 d0 d1
    have HB5 : Hid (Below w.heap.size w W5) := HB3.out.trans (hB5.mono (by omega))
    have HB5b := Lib.hid hb5
    have HR5 := Lib.hid hr5
    clear e0 e1 z4 hB5 hb5 hr5 O4 hwr D4 HV3 HV4 CO d0 d1 hr9 dd0 dd1
    first | clear HX4 p0 p1 r0 r1 | skip
    go_wp2_with fail
    go_loopw [5] (fun i wr => ∃ t : Nat, t ≤ n ∧ i = .int .i64 ((n : Int) - 1 - t) ∧ ∃ v us, wr.heap[X]? = some (.cells #[.int .i64 ((n : Int) + 1), v] 32 (0, 0)) ∧ OwnR wr w3.heap.size wr.heap.size v us (xss ++ insK n t) ∧ Below w3.heap.size W5 wr) (fun i _ => (intOf i + 1).toNat)
    case atStart => exact ⟨0, Nat.zero_le _, by go_num, _, us, HB5b.out, by simpa [insK] using O5.out, Below.refl _ _⟩
    case round =>
      obtain ⟨t, ht, rfl, v, us2, hbx, hR, hb⟩ := hrel
      have HBX := Lib.hid hbx
      have HR := Lib.hid hR
      have HB := Lib.hid hb
      have hzb := hb.size
      have hXl : X < wr.heap.size := by omega
      have g0 := blk_cell hbx 0
      have g1 := blk_cell hbx 1
      have y1 := blk_free hbx 1
      clear O5 HB5b
      by_cases hlt : t < n
      · have hj : (0 : Int) ≤ (n : Int) - 1 - t := by omega
        have HKC : Hid (keptC X (X + 1) wr wr v) := fun k k1 k2 => ⟨rfl, by
          rw [show k = X by omega]
          exact own_not_box hR.top hbx (by decide)⟩
        have HLN : Hid ((xss ++ insK n t).length ≤ 1000000) := by show _ ≤ _; rw [List.length_append, insK_len, ← HLEN.out]; omega
        have hlo : w3.heap.size ≤ wr.heap.size := by omega
        have hX1 : X + 1 ≤ wr.heap.size := by omega
        clear hbx hR hb
        go_wp2_with (at_builtin; refine wpList_app_pairC rfl (.tmp 25) (.tmp 30) rfl wr _ _ w3.heap.size _ us2 (xss ++ insK n t) X (X + 1) wr HR.out hlo HKC.out hX1 HLN.out rfl rfl ?_; intro g' L' cap' w8 us8 hL8 o8 q8 z8 k8 y8; have bx8 := ((k8 X (Nat.le_refl _) (by omega)).1).trans HBX.out; have r0 := blk_cell bx8 0; have r1 := blk_cell bx8 1; have r2 := blk_free bx8 1; have BX8 := Lib.hid bx8; have O8 := Lib.hid o8; have Q8 := Lib.hid q8; clear bx8 o8 q8 k8)
        go_roundw
        case rel => exact ⟨t + 1, by omega, by go_num, _, us8, box_set1 BX8.out, by rw [insK_succ, ← List.append_assoc]; exact (O8.out.past_box BX8.out).mono (Nat.le_refl _) (by simp [World.setCell]), (HB.out.trans Q8.out).setCell (by show w3.heap.size ≤ X; omega) _⟩
        case measure => simp [intOf]; omega
      · have htn : t = n := by omega
        have hj : (n : Int) - 1 - t < 0 := by omega
        have HRn : Hid (OwnR wr w3.heap.size wr.heap.size v us2 (xss ++ insK n n)) := by have h := hR; rw [htn] at h; exact h
        have hrr := blk_below (blk_below HR5.out hb (by omega)) (Below.refl w3.heap.size wr) (by omega)
        have HRR := Lib.hid hrr
        have HBf : Hid (Below w.heap.size w wr) := HB5.out.trans (hb.mono (by omega))
        have CK := Lib.hid (l02Out_c ((n : Int) + 1) w3.heap.size wr.heap.size v us2 (xss ++ insK n n) wr HRn.out (Nat.le_refl _))
        obtain ⟨ao9, g9, cap9, e9, -, -, -⟩ := HRn.out.rows
        obtain ⟨M, hM⟩ : ∃ M, M = (xss ++ insK n n).length := ⟨_, rfl⟩
        rw [← hM] at e9
        subst e9
        obtain ⟨b9, hb9⟩ : ∃ b, b = netOk ((n : Int) + 1) (xss ++ insK n n) := ⟨_, rfl⟩
        rw [← hb9] at CK HP9
        clear hbx hR hb hrr hM hb9 htn
        cases b9
        all_goals
          go_wp2_with fail
          refine CK.out.mono ?_
          rintro e w9 ⟨rfl, b9⟩
          have hr9 := blk_below HRR.out b9 (by omega)
          have q0 := blk_cell hr9 0
          have q1 := blk_cell hr9 1
          have x0 := blk_free hr9 0
          have x1 := blk_free hr9 1
          have HR9 := Lib.hid hr9
          have HO9 := Lib.hid (HRn.out.later b9)
          have HB9 : Hid (Below w.heap.size w w9) := HBf.out.trans (b9.mono (by have := HBf.out.size; omega))
          have z9 := b9.size
          clear hr9 b9
        · simp only [Bool.false_eq_true, if_false]
          go_wp2
          refine bodyPost_ret (v := .tuple #[.agg #[.int .i64 0, .slice none 0 0], .bool false]) (by simp [results, Try.results40, go_sem, q0, q1]) rfl ?_
          rw [HP9.out]
          refine ⟨_, [], rfl, OwnR.nil _ _ _, ?_⟩
          first
            | exact (HB9.out.setCell (by show w.heap.size ≤ w.heap.size + 1; omega) _).setCell (by show w.heap.size ≤ w.heap.size + 1; omega) _
            | exact HB9.out
        · simp only [if_true]
          go_wp2
          refine bodyPost_ret (v := .tuple #[.agg #[.int .i64 ((n : Int) + 1), .slice ao9 M cap9], .bool true]) (by simp [results, Try.results40, go_sem, q0, q1]) rfl ?_
          rw [HP9.out]
          refine ⟨_, us2, rfl, ?_, (HB9.out.setCell (by show w.heap.size ≤ w.heap.size + 1; omega) _).setCell (by show w.heap.size ≤ w.heap.size + 1; omega) _⟩
          exact ((HO9.out.past_box HR9.out).past_box (box_set0 HR9.out)).mono (by omega) (by simp [World.setCell]; omega)

end Go.Proofs.Ytnheioohmcgpjaa
