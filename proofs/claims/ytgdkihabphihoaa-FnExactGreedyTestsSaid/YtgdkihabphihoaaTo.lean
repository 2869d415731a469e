/- The copies that the laws make of their arguments, by their contracts: the copy reads as what was copied and lies in new memory. Conditions: none. -/
import Derived.Test.YtgdkihabphihoaaSmall
import Derived.Test.YtgdkihabphihoaaLater
namespace Go.Proofs.Ytgdkihabphihoaa
open Go.RowKit
set_option maxRecDepth 100000

theorem toIntS_c (lo hi : Nat) (v : Value) (xs : List Int) (w : World) (hv : IntsV w lo hi v xs) (h1 : hi ≤ w.heap.size) (hl : xs.length ≤ 35184372088832) :
    Calls Try.prog 27 #[v] w fun e w' => ∃ u, e = .returned u ∧ OwnI w' w.heap.size w'.heap.size u xs ∧ Below w.heap.size w w' := by
  obtain ⟨ao, b, off, cap, rfl, hcap, hao, hc⟩ := hv
  have HC := Lib.hid hc
  clear hc
  have hmk := run_make_row' (P := Try.prog) 31 3 (.int .i64 0) 8 Try.underlying31 Try.infoI rfl .i64 .i64 xs.length (by omega) (by omega)
  go_enter Try.func27, Try.ntmps27
  go_wp2
  clear hmk
  obtain ⟨W1, hW1⟩ : ∃ W1, w.alloc (.cells (madeCells #[.int .i64 0] xs.length) 3) = W1 := ⟨_, rfl⟩
  have hB1 : Below w.heap.size w W1 := by rw [← hW1]; exact (Below.refl _ _).alloc (Nat.le_refl _) _
  have hrow : W1.rowIs w.heap.size 3 xs.length (fun j => .int .i64 (if j < 0 then xs.getD j 0 else 0)) := by rw [← hW1]; exact (World.rowIs_made w (.int .i64 0) xs.length 3).congr fun i _ => by simp
  rw [hW1]
  clear hW1
  go_loopw [4] (fun i wr => ∃ k : Nat, k ≤ xs.length ∧ i = .int .i64 k ∧ Below w.heap.size w wr ∧ wr.rowIs w.heap.size 3 xs.length (fun j => .int .i64 (if j < k then xs.getD j 0 else 0))) (fun i _ => xs.length - (intOf i).toNat)
  case atStart => exact ⟨0, Nat.zero_le _, rfl, hB1, hrow⟩
  case round =>
    obtain ⟨k, hk, rfl, hb, hr⟩ := hrel
    clear hrow hB1
    by_cases hlt : k < xs.length
    · obtain ⟨rfl, q1, q2⟩ := hao (by omega)
      obtain ⟨x, hx⟩ : ∃ x, x = xs.getD k 0 := ⟨_, rfl⟩
      have c1 : wr.cell? ⟨b, off + k, none⟩ = some (.int .i64 x) := by rw [hx]; exact (hb.cell (p := ⟨b, off + k, none⟩) (by show b < _; omega)).trans (HC.out k hlt)
      have HX := Lib.hid hx
      clear hx
      have c2 : wr.cell? ⟨w.heap.size, k, none⟩ = some (.int .i64 0) := by rw [hr.cell hlt]; simp
      have c3 : wr.frozen? ⟨w.heap.size, k, none⟩ = false := hr.frozen k
      have hstep : (wr.setCell ⟨w.heap.size, k, none⟩ (.int .i64 x)).rowIs w.heap.size 3 xs.length (fun j => .int .i64 (if j < k + 1 then xs.getD j 0 else 0)) := by
        refine (hr.set k (.int .i64 x)).congr fun i hi => ?_
        show (if i = k then _ else _) = _
        by_cases e : i = k
        · subst e; rw [if_pos rfl, if_pos (by omega), HX.out]
        · rw [if_neg e]
          by_cases e2 : i < k
          · rw [if_pos e2, if_pos (by omega)]
          · rw [if_neg e2, if_neg (by omega)]
      have HS := Lib.hid hstep
      have HB := Lib.hid hb
      clear hr hstep hb
      go_wp2
      go_roundw
      case rel => exact ⟨k + 1, by omega, by go_num, HB.out.setCell (Nat.le_refl _) _, HS.out⟩
      case measure => simp [intOf]; omega
    · have HF : Hid (OwnI wr w.heap.size wr.heap.size (.slice (some ⟨w.heap.size, 0, none⟩) xs.length xs.length) xs) := by
        have h := own_of_rowIs (lo := w.heap.size) hr (Nat.le_refl _) (by unfold maxLen; omega)
        rw [List.map_congr_left (g := fun i => Value.int .i64 (xs.getD i 0)) (fun i hi => by rw [if_pos (by have := List.mem_range.1 hi; omega)]), map_range_getD] at h
        exact h
      clear hr
      go_wp2
      go_ret
      exact ⟨_, rfl, HF.out, hb⟩

theorem toIntSS_c (lo hi : Nat) (v : Value) (vs0 : List Value) (xss : List (List Int)) (w : World) (hv : RowsV w lo hi v vs0 xss) (h1 : hi ≤ w.heap.size) (hl : xss.length ≤ 1048576) (hl2 : ∀ xs ∈ xss, xs.length ≤ 1048576) :
    Calls Try.prog 99 #[v] w fun e w' => ∃ u us, e = .returned u ∧ OwnR w' w.heap.size w'.heap.size u us xss ∧ Below w.heap.size w w' := by
  obtain ⟨ao, b, off, cap, rfl, hcap, -, hao, hc⟩ := hv
  have HC := Lib.hid hc
  have HL2 := Lib.hid hl2
  clear hc hl2
  have hmk := run_make_row' (P := Try.prog) 22 31 (.slice none 0 0) 24 Try.underlying22 Try.infoS rfl .i64 .i64 xss.length (by omega) (by omega)
  go_enter Try.func99, Try.ntmps99
  go_wp2_with fail
  clear hmk
  obtain ⟨W1, hW1⟩ : ∃ W1, w.alloc (.cells (madeCells #[.slice none 0 0] xss.length) 31) = W1 := ⟨_, rfl⟩
  have hB1 : Below w.heap.size w W1 := by rw [← hW1]; exact (Below.refl _ _).alloc (Nat.le_refl _) _
  have hs1 : w.heap.size < W1.heap.size := by rw [← hW1]; simp
  have hrow : W1.rowIs w.heap.size 31 xss.length (fun j => ([] : List Value).getD j (.slice none 0 0)) := by rw [← hW1]; exact (World.rowIs_made w (.slice none 0 0) xss.length 31).congr fun i _ => by simp
  rw [hW1]
  clear hW1
  go_loopw [4] (fun i wr => ∃ k : Nat, k ≤ xss.length ∧ i = .int .i64 k ∧ Below w.heap.size w wr ∧ w.heap.size < wr.heap.size ∧ ∃ us : List Value, Hid (us.length = k ∧ wr.rowIs w.heap.size 31 xss.length (fun j => us.getD j (.slice none 0 0)) ∧
      (∀ (i : Nat) (u : Value) (xs : List Int), us[i]? = some u → xss[i]? = some xs → OwnI wr (w.heap.size + 1) wr.heap.size u xs) ∧ us.Pairwise apartV)) (fun i _ => xss.length - (intOf i).toNat)
  case atStart => exact ⟨0, Nat.zero_le _, rfl, hB1, hs1, [], rfl, hrow, by simp, .nil⟩
  case round =>
    obtain ⟨k, hk, rfl, hb, hs, us, HU⟩ := hrel
    clear hrow hB1 hs1
    by_cases hlt : k < xss.length
    · obtain ⟨rfl, q1, q2⟩ := hao (by omega)
      obtain ⟨x, hx⟩ : ∃ x, x = xss.getD k [] := ⟨_, rfl⟩
      obtain ⟨s, hs0⟩ : ∃ s, s = vs0.getD k undef := ⟨_, rfl⟩
      have c1 := (hb.cell (p := ⟨b, off + k, none⟩) (by show b < _; omega)).trans (HC.out k hlt).1
      have r1 := (HC.out k hlt).2.below hb h1
      rw [← hs0] at c1
      rw [← hs0, ← hx] at r1
      have hxl : x.length ≤ 1048576 := HL2.out x (by rw [hx]; simp [List.getD, List.getElem?_eq_getElem hlt])
      have HX := Lib.hid hx
      have R1 := Lib.hid r1
      have HB := Lib.hid hb
      clear hx hs0 r1 hb
      go_wp2_with fail
      refine (toIntS_c lo hi s x wr R1.out (by omega) (by omega)).mono ?_
      rintro e w2 ⟨u, rfl, hu, hb2⟩
      obtain ⟨hlen, hrow, hrows, hsep⟩ := HU.out
      have hrow2 : w2.rowIs w.heap.size 31 xss.length (fun j => us.getD j (.slice none 0 0)) := hrow.of_block (hb2.block _ hs)
      obtain ⟨ao', g', cap', hu', hcu, hau, -⟩ := hu.view
      have HUV := Lib.hid hu'
      have hrows2 : ∀ (i : Nat) (u : Value) (xs : List Int), us[i]? = some u → xss[i]? = some xs → OwnI w2 (w.heap.size + 1) w2.heap.size u xs := fun i u' xs' a1 a2 =>
        Own.mono (Own.later (hrows i u' xs' a1 a2) hb2) (Nat.le_refl _) hb2.size
      have c2 : w2.cell? ⟨w.heap.size, k, none⟩ = some (.slice none 0 0) := by rw [hrow2.cell hlt]; simp [List.getD, List.getElem?_eq_none (by omega : us.length ≤ k)]
      have c3 : w2.frozen? ⟨w.heap.size, k, none⟩ = false := hrow2.frozen k
      have hus : ∀ t ∈ us, apartV t u := by
        intro t ht
        obtain ⟨i, hi, rfl⟩ := List.getElem_of_mem ht
        have hr := hrows i us[i] (xss[i]'(by omega)) (List.getElem?_eq_getElem hi) (List.getElem?_eq_getElem (by omega))
        unfold apartV
        cases hob : us[i].ownBlock with
        | none => exact Or.inl rfl
        | some k1 =>
          right
          intro h
          have l1 := hr.lt k1 hob
          have l2 := (hu.row.lt k1 h.symm).1
          omega
      have hstep : (us ++ [u]).length = k + 1 ∧ (w2.setCell ⟨w.heap.size, k, none⟩ u).rowIs w.heap.size 31 xss.length (fun j => (us ++ [u]).getD j (.slice none 0 0)) ∧
          (∀ (i : Nat) (u' : Value) (xs : List Int), (us ++ [u])[i]? = some u' → xss[i]? = some xs → OwnI (w2.setCell ⟨w.heap.size, k, none⟩ u) (w.heap.size + 1) (w2.setCell ⟨w.heap.size, k, none⟩ u).heap.size u' xs) ∧ (us ++ [u]).Pairwise apartV := by
        have hkeep : ∀ j, w.heap.size + 1 ≤ j → (w2.setCell ⟨w.heap.size, k, none⟩ u).heap[j]? = w2.heap[j]? := fun j hj => Below.heap_setCell _ _ _ _ (by show j ≠ w.heap.size; omega)
        have hsz : (w2.setCell ⟨w.heap.size, k, none⟩ u).heap.size = w2.heap.size := by simp [World.setCell]
        refine ⟨by simp [hlen], ?_, ?_, ?_⟩
        · refine (hrow2.set k u).congr fun i hi => ?_
          show (if i = k then _ else _) = _
          by_cases e : i = k
          · subst e; rw [if_pos rfl]; simp [List.getD, hlen]
          · rw [if_neg e]
            by_cases e2 : i < us.length
            · simp [List.getD, List.getElem?_append_left e2]
            · simp only [List.getD]
              rw [List.getElem?_eq_none (by omega), List.getElem?_eq_none (by simp; omega)]
        · intro i u' xs a1 a2
          rw [hsz]
          by_cases e : i < us.length
          · rw [List.getElem?_append_left e] at a1
            exact Own.kept (hrows2 i u' xs a1 a2) fun j j1 _ _ => hkeep j j1
          · rw [List.getElem?_append_right (by omega)] at a1
            have ei : i = k := by
              by_cases ej : i - us.length = 0
              · omega
              · rw [List.getElem?_eq_none (by simp; omega)] at a1; cases a1
            subst ei
            rw [hlen] at a1
            simp at a1
            subst a1
            have ex : xs = x := by rw [HX.out]; simp [List.getD, a2]
            subst ex
            exact Own.kept (Own.mono hu (by omega) (Nat.le_refl _)) fun j j1 _ _ => hkeep j j1
        · rw [List.pairwise_append]
          exact ⟨hsep, .cons (by simp) .nil, fun t ht t' ht' => by simp at ht'; subst ht'; exact hus t ht⟩
      have HS := Lib.hid hstep
      have hb3 : Below w.heap.size w (w2.setCell ⟨w.heap.size, k, none⟩ u) := (HB.out.trans (hb2.mono (by omega))).setCell (Nat.le_refl _) _
      have hs3 : w.heap.size < (w2.setCell ⟨w.heap.size, k, none⟩ u).heap.size := by have := hb2.size; simp [World.setCell]; omega
      have HB3 := Lib.hid hb3
      have HS3 := Lib.hid hs3
      clear hstep hb3 hs3 hus hrows2 hrow2 hrow hrows hsep hlen hu hb2 hu'
      have e : u = .slice ao' x.length cap' := HUV.out
      clear HUV
      subst e
      go_wp2
      go_roundw
      case rel => exact ⟨k + 1, by omega, by go_num, HB3.out, HS3.out, _, HS.out⟩
      case measure => simp [intOf]; omega
    · have hk2 : k = xss.length := by omega
      have HF : Hid (OwnR wr w.heap.size wr.heap.size (.slice (some ⟨w.heap.size, 0, none⟩) xss.length xss.length) us xss) := by
        obtain ⟨hlen, hrow, hrows, hsep⟩ := HU.out
        refine ⟨?_, by omega, fun i u xs a1 a2 => Own.mono (hrows i u xs a1 a2) (by omega) (Nat.le_refl _), hsep⟩
        have h := own_of_rowIs (lo := w.heap.size) hrow (Nat.le_refl _) (by unfold maxLen; omega)
        have hm := map_range_getD us (.slice none 0 0) id
        simp only [id_eq, List.map_id] at hm
        rw [show xss.length = us.length from by omega] at h ⊢
        have e : (List.range us.length).map (fun j => us.getD j (.slice none 0 0)) = us := by simpa using hm
        rw [e] at h
        exact h
      clear hk2
      go_wp2
      go_ret
      exact ⟨_, _, rfl, HF.out, hb⟩
theorem toNetwork_c (lo hi : Nat) (n : Int) (v : Value) (vs0 : List Value) (xss : List (List Int)) (w : World) (hv : RowsV w lo hi v vs0 xss) (h1 : hi ≤ w.heap.size) (hl : xss.length ≤ 1048576) (hl2 : ∀ xs ∈ xss, xs.length ≤ 1048576) :
    Calls Try.prog 17 #[.agg #[.int .i64 n, v]] w fun e w' => ∃ u us, e = .returned (.agg #[.int .i64 n, u]) ∧ OwnR w' w.heap.size w'.heap.size u us xss ∧ Below w.heap.size w w' := by
  have hv0 := hv
  obtain ⟨ao, b, off, cap, rfl, hcap, -, hao, hc⟩ := hv
  have HV := Lib.hid hv0
  have HL2 := Lib.hid hl2
  clear hc hl2 hv0 hao
  go_enter Try.func17, Try.ntmps17
  go_wp2_with fail
  obtain ⟨W1, hW1⟩ : ∃ W1, W1 = ((w.alloc (Obj.cells #[Value.int IntKind.i64 n, Value.slice ao xss.length cap] 24)).alloc (Obj.cells #[Value.int IntKind.i64 0, Value.slice none 0 0] 27)).alloc
      (Obj.cells #[Value.int IntKind.i64 n, Value.slice none 0 0] 27) := ⟨_, rfl⟩
  have hB1 : Below w.heap.size w W1 := by rw [hW1]; exact (((Below.refl _ _).alloc (Nat.le_refl _) _).alloc (by simp) _).alloc (by simp; omega) _
  have hs1 : W1.heap.size = w.heap.size + 3 := by rw [hW1]; simp
  have b1 : W1.heap[w.heap.size + 1]? = some (.cells #[Value.int IntKind.i64 0, Value.slice none 0 0] 27) := by
    rw [hW1]; have h := blk_new (w.alloc (Obj.cells #[Value.int IntKind.i64 n, Value.slice ao xss.length cap] 24)) (Obj.cells #[Value.int IntKind.i64 0, Value.slice none 0 0] 27)
    rw [show (w.alloc (Obj.cells #[Value.int IntKind.i64 n, Value.slice ao xss.length cap] 24)).heap.size = w.heap.size + 1 from by simp] at h
    exact blk_old h _
  have b2 : W1.heap[w.heap.size + 1 + 1]? = some (.cells #[Value.int IntKind.i64 n, Value.slice none 0 0] 27) := by
    rw [hW1]; have h := blk_new ((w.alloc (Obj.cells #[Value.int IntKind.i64 n, Value.slice ao xss.length cap] 24)).alloc (Obj.cells #[Value.int IntKind.i64 0, Value.slice none 0 0] 27)) (Obj.cells #[Value.int IntKind.i64 n, Value.slice none 0 0] 27)
    rw [show ((w.alloc (Obj.cells #[Value.int IntKind.i64 n, Value.slice ao xss.length cap] 24)).alloc (Obj.cells #[Value.int IntKind.i64 0, Value.slice none 0 0] 27)).heap.size = w.heap.size + 1 + 1 from by simp] at h
    exact h
  rw [← hW1]
  clear hW1
  refine (toIntSS_c lo hi _ vs0 xss W1 (by obtain ⟨ao', b', off', cap', e, q1, q2, q3, q4⟩ := HV.out; exact ⟨ao', b', off', cap', e, q1, q2, q3, fun i hi => ⟨(hB1.cell (p := ⟨b', off' + i, none⟩) (by show b' < _; have := (q3 (by omega)).2.2; omega)).trans (q4 i hi).1, (q4 i hi).2.below hB1 h1⟩⟩) (by omega) hl HL2.out).mono ?_
  rintro e w2 ⟨u, us, rfl, hu, hb2⟩
  have hbw : Below w.heap.size w w2 := hB1.trans (hb2.mono (by omega))
  have b1' := blk_below b1 hb2 (by omega)
  have b2' := blk_below b2 hb2 (by omega)
  have c1 : w2.cell? ⟨w.heap.size + 1, 0, none⟩ = some (.int .i64 0) := blk_cell b1' 0
  have c2 : w2.cell? ⟨w.heap.size + 1, 1, none⟩ = some (.slice none 0 0) := blk_cell b1' 1
  have c3 : w2.cell? ⟨w.heap.size + 1 + 1, 0, none⟩ = some (.int .i64 n) := blk_cell b2' 0
  have c4 : w2.cell? ⟨w.heap.size + 1 + 1, 1, none⟩ = some (.slice none 0 0) := blk_cell b2' 1
  have d1 : w2.frozen? ⟨w.heap.size + 1, 0, none⟩ = false := blk_free b1' 0
  have d2 : w2.frozen? ⟨w.heap.size + 1, 1, none⟩ = false := blk_free b1' 1
  have d3 : w2.frozen? ⟨w.heap.size + 1 + 1, 0, none⟩ = false := blk_free b2' 0
  have d4 : w2.frozen? ⟨w.heap.size + 1 + 1, 1, none⟩ = false := blk_free b2' 1
  have hsz := hb2.size
  obtain ⟨ao2, g2, cap2, eu, -, -, -⟩ := hu.rows
  have HS1 := Lib.hid hs1
  have HU := Lib.hid hu
  clear hs1 hu b1 b2 b1' b2' hb2 hB1
  subst eu
  go_wp2
  have hfin : OwnR (((w2.setCell ⟨w.heap.size + 1 + 1, 1, none⟩ (Value.slice ao2 xss.length cap2)).setCell ⟨w.heap.size + 1, 0, none⟩ (Value.int IntKind.i64 n)).setCell ⟨w.heap.size + 1, 1, none⟩ (Value.slice ao2 xss.length cap2)) w.heap.size
      (((w2.setCell ⟨w.heap.size + 1 + 1, 1, none⟩ (Value.slice ao2 xss.length cap2)).setCell ⟨w.heap.size + 1, 0, none⟩ (Value.int IntKind.i64 n)).setCell ⟨w.heap.size + 1, 1, none⟩ (Value.slice ao2 xss.length cap2)).heap.size (.slice ao2 xss.length cap2) us xss := by
    have hs1 := HS1.out
    refine (HU.out.kept (fun k k1 _ _ => ?_)).mono (by omega) (by simp [World.setCell])
    rw [Below.heap_setCell _ _ _ _ (by show k ≠ w.heap.size + 1; omega), Below.heap_setCell _ _ _ _ (by show k ≠ w.heap.size + 1; omega), Below.heap_setCell _ _ _ _ (by show k ≠ w.heap.size + 1 + 1; omega)]
  exact bodyPost_ret (v := .agg #[.int .i64 n, .slice ao2 xss.length cap2]) (by simp [results, Try.results17, go_sem, c1, c2]) rfl
    ⟨_, us, rfl, hfin, ((hbw.setCell (by show w.heap.size ≤ w.heap.size + 1 + 1; omega) _).setCell (by show w.heap.size ≤ w.heap.size + 1; omega) _).setCell (by show w.heap.size ≤ w.heap.size + 1; omega) _⟩
theorem szIntS_c (ao : Option Addr) (len cap : Nat) (l : Int) (w : World) (h0 : 0 ≤ l) (h1 : l ≤ 1048576) (hl : len ≤ 9223372036854775807) :
    Calls Try.prog 176 #[.slice ao len cap, .int .i64 l] w fun e w' => e = .returned (.int .i64 (if (len : Int) ≤ l then l - len else -1)) ∧ w = w' := by
  by_cases h : (len : Int) ≤ l
  · go_enter Try.func176, Try.ntmps176
    go_wp2
    go_ret
    exact ⟨rfl, rfl⟩
  · go_enter Try.func176, Try.ntmps176
    go_wp2
    go_ret
    exact ⟨rfl, rfl⟩

/-- A size comes back that is negative, or all lengths are small. -/
def SmallOr (xss : List (List Int)) (w : World) (e : Ending) (w' : World) : Prop := ∃ r : Int, e = .returned (.int .i64 r) ∧ Below w.heap.size w w' ∧ (0 ≤ r → xss.length ≤ 1048576 ∧ ∀ xs ∈ xss, xs.length ≤ 1048576)

theorem szIntSS_c (lo hi : Nat) (v : Value) (vs0 : List Value) (xss : List (List Int)) (w : World) (hv : RowsV w lo hi v vs0 xss) (h1 : hi ≤ w.heap.size) (hm : xss.length ≤ 9223372036854775807) (hm2 : ∀ xs ∈ xss, xs.length ≤ 9223372036854775807) :
    Calls Try.prog 96 #[v, .int .i64 1048576] w (SmallOr xss w) := by
  obtain ⟨ao, b, off, cap, rfl, hcap, -, hao, hc⟩ := hv
  have HC := Lib.hid hc
  have HM2 := Lib.hid hm2
  clear hc hm2
  by_cases hs : xss.length ≤ 1048576
  · go_enter Try.func96, Try.ntmps96
    go_wp2_with fail
    go_loopw [1, 5] (fun s i wr => ∃ k : Nat, k ≤ xss.length ∧ i = .int .i64 k ∧ (∃ l : Int, 0 ≤ l ∧ l ≤ 1048576 ∧ s = .int .i64 l) ∧ Hid (∀ i, i < k → (xss.getD i []).length ≤ 1048576) ∧ Below w.heap.size w wr) (fun _ i _ => xss.length - (intOf i).toNat)
    case atStart => exact ⟨0, Nat.zero_le _, rfl, ⟨_, by omega, by omega, rfl⟩, (fun i hi => by omega), Below.refl _ _⟩
    case round =>
      obtain ⟨k, hk, rfl, ⟨l, hl0, hl1, rfl⟩, HS, hb⟩ := hrel
      by_cases hlt : k < xss.length
      · obtain ⟨rfl, q1, q2⟩ := hao (by omega)
        have c1 := (hb.cell (p := ⟨b, off + k, none⟩) (by show b < _; omega)).trans (HC.out k hlt).1
        obtain ⟨ao', b', off', cap', e, -, -, -⟩ := (HC.out k hlt).2
        obtain ⟨m, hm0⟩ : ∃ m, m = (xss.getD k []).length := ⟨_, rfl⟩
        rw [e, ← hm0] at c1
        have hml : m ≤ 9223372036854775807 := by rw [hm0]; exact HM2.out _ (by simp [List.getD, List.getElem?_eq_getElem hlt])
        have HM := Lib.hid hm0
        clear e hm0
        by_cases hml2 : (m : Int) ≤ l
        · have hif : (if (m : Int) ≤ l then l - (m : Int) else -1) = l - m := if_pos hml2
          go_wp2_with fail
          refine (szIntS_c ao' m cap' l _ hl0 hl1 (by omega)).mono ?_
          rintro e w' ⟨rfl, rfl⟩
          rw [hif]
          clear hif
          go_wp2
          go_roundw
          case rel =>
            refine ⟨k + 1, by omega, by go_num, ⟨_, by omega, by omega, rfl⟩, ?_, hb⟩
            intro i hi
            by_cases e : i = k
            · subst e; rw [← HM.out]; omega
            · exact HS.out i (by omega)
          case measure => simp [intOf]; omega
        · have hif : (if (m : Int) ≤ l then l - (m : Int) else -1) = -1 := if_neg hml2
          go_wp2_with fail
          refine (szIntS_c ao' m cap' l _ hl0 hl1 (by omega)).mono ?_
          rintro e w' ⟨rfl, rfl⟩
          rw [hif]
          clear hif
          go_wp2
          go_ret
          exact ⟨-1, rfl, hb, fun h => by omega⟩
      · have HF : Hid (∀ xs ∈ xss, xs.length ≤ 1048576) := by
          intro xs hx
          obtain ⟨i, hi, rfl⟩ := List.getElem_of_mem hx
          have := HS.out i (by omega)
          simpa [List.getD, List.getElem?_eq_getElem hi] using this
        go_wp2
        go_ret
        exact ⟨l, rfl, hb, fun _ => ⟨hs, HF.out⟩⟩
  · go_enter Try.func96, Try.ntmps96
    go_wp2
    go_ret
    exact ⟨-1, rfl, Below.refl _ _, fun h => by omega⟩

theorem szNetwork_c (lo hi : Nat) (n : Int) (v : Value) (vs0 : List Value) (xss : List (List Int)) (w : World) (hv : RowsV w lo hi v vs0 xss) (h1 : hi ≤ w.heap.size) (hm : xss.length ≤ 9223372036854775807) (hm2 : ∀ xs ∈ xss, xs.length ≤ 9223372036854775807) :
    Calls Try.prog 15 #[.agg #[.int .i64 n, v], .int .i64 1048576] w (SmallOr xss w) := by
  have hv0 := hv
  obtain ⟨ao, b, off, cap, rfl, hcap, -, hao, hc⟩ := hv
  have HV := Lib.hid hv0
  have HM2 := Lib.hid hm2
  clear hc hv0 hao hm2
  go_enter Try.func15, Try.ntmps15
  go_wp2_with fail
  obtain ⟨W1, hW1, c0, c1, hsz, hB1, -, -⟩ := box2 w (.int .i64 n) (.slice ao xss.length cap) 24
  rw [hW1]
  clear hW1
  refine (szIntSS_c lo hi _ vs0 xss W1 (HV.out.later hB1 h1) (by omega) hm HM2.out).mono ?_
  rintro e w2 ⟨r, rfl, hb2, hr⟩
  have HR := Lib.hid hr
  clear hr
  have hbw : Below w.heap.size w w2 := hB1.trans (hb2.mono (by omega))
  by_cases h0 : r < 0
  · go_wp2
    go_ret
    exact ⟨-1, rfl, hbw, fun h => by omega⟩
  · go_wp2
    go_ret
    exact ⟨r, rfl, hbw, HR.out⟩
end Go.Proofs.Ytgdkihabphihoaa
