/- Batcher's sorter, the reference's: the merge of two lists by looking up, and the sorter. Conditions: at most eight wires. -/
import Derived.Test.YtiodolbgapjmkaaMrgPure
import Derived.Test.YtiodolbgapjmkaaMrgS
import Derived.Test.YtiodolbgapjmkaaBatch
namespace Go.Proofs.Ytiodolbgapjmkaa
open Go.RowKit
set_option maxRecDepth 100000

/-- One pair of places looked up. -/
def lookP (all r : List Int) : List Int := [all.getD (r.getD 0 0).toNat 0, all.getD (r.getD 1 0).toNat 0]
theorem upI_mem {a : Int} {n : Nat} {x : Int} (h : x ∈ upI a n) : a ≤ x ∧ x < a + n := by
  simp only [upI, List.mem_map, List.mem_range] at h
  obtain ⟨i, hi, rfl⟩ := h
  omega
theorem mrg_rows (m n : Nat) (k : Nat) (h : k < (mrg (m + n) (upI 0 m) (upI m n)).length) : ∃ i j : Nat, (mrg (m + n) (upI 0 m) (upI m n)).getD k [] = [(i : Int), (j : Int)] ∧ i < m + n ∧ j < m + n := by
  have hm : (mrg (m + n) (upI 0 m) (upI m n)).getD k [] ∈ mrg (m + n) (upI 0 m) (upI m n) := by simp [List.getD, List.getElem?_eq_getElem h]
  obtain ⟨x, y, e, hx, hy⟩ := mrg_mem _ _ _ _ hm
  have bound : ∀ x, x ∈ upI 0 m ++ upI m n → 0 ≤ x ∧ x < ((m + n : Nat) : Int) := fun x hx => by
    rcases List.mem_append.1 hx with hx | hx
    · have := upI_mem hx; omega
    · have := upI_mem hx; omega
  have h1 := bound x hx
  have h2 := bound y hy
  exact ⟨x.toNat, y.toNat, by rw [e, Int.toNat_of_nonneg h1.1, Int.toNat_of_nonneg h2.1], by omega, by omega⟩

set_option maxHeartbeats 2000000 in
theorem l09Merge_c (a b : List Int) (lo hi : Nat) (u v : Value) (w : World) (hl : a.length + b.length ≤ 8) (hu : IntsV w lo hi u a) (hv : IntsV w lo hi v b) (hh : hi ≤ w.heap.size) :
    Calls Try.prog 174 #[u, v] w (RowC w ((mrg (a.length + b.length) (upI 0 a.length) (upI a.length b.length)).map (lookP (a ++ b)))) := by
  obtain ⟨la, hla⟩ : ∃ la, la = a.length := ⟨_, rfl⟩
  obtain ⟨lb, hlb⟩ : ∃ lb, lb = b.length := ⟨_, rfl⟩
  have hu' := hu
  have hv' := hv
  obtain ⟨ao, b1, off1, cap1, rfl, -, -, -⟩ := hu'
  obtain ⟨ao2, b2, off2, cap2, rfl, -, -, -⟩ := hv'
  rw [← hla, ← hlb] at hl ⊢
  rw [← hla] at hu
  rw [← hlb] at hv
  have hrows := mrg_rows la lb
  have hmlen := mrg_len (la + lb) (upI 0 la) (upI la lb) (by rw [upI_length, upI_length]; omega)
  have h256 : 2 ^ (la + lb) ≤ 2 ^ 8 := Nat.pow_le_pow_right (by omega) (by omega)
  have hmc := fun w1 lo hi u v h1 h2 h3 => l08Merge_c (la + lb) (upI 0 la) (upI la lb) lo hi u v w1 (by rw [upI_length, upI_length]; omega) hl h1 h2 h3
  obtain ⟨M, hM⟩ : ∃ M, M = mrg (la + lb) (upI 0 la) (upI la lb) := ⟨_, rfl⟩
  rw [← hM] at hrows hmlen hmc ⊢
  obtain ⟨RES, hRES⟩ : ∃ RES, RES = M.map (lookP (a ++ b)) := ⟨_, rfl⟩
  rw [← hRES]
  have HW0 : Hid (∀ w, Calls Try.prog 91 #[.int .i64 0, .int .i64 la] w (IntC w (upI 0 la))) := fun w => by
    have := l08Wires_c 0 la w (by omega) (by omega) (by omega)
    exact this
  have HW1 : Hid (∀ w, Calls Try.prog 91 #[.int .i64 la, .int .i64 lb] w (IntC w (upI la lb))) := fun w => l08Wires_c la lb w (by omega) (by omega) (by omega)
  have HMC := Lib.hid hmc
  have HROWS := Lib.hid hrows
  have HU := Lib.hid hu
  have HV := Lib.hid hv
  have HM := Lib.hid hM
  have HRES := Lib.hid hRES
  have hml : M.length ≤ 2048 := by omega
  have HLA := Lib.hid hla
  have HLB := Lib.hid hlb
  have HL0 : Hid (([] : List Int).length + a.length ≤ 1000000000) := by show _ ≤ _; simp; omega
  have HL1 : Hid ((([] : List Int) ++ a).length + b.length ≤ 1000000000) := by show _ ≤ _; simp; omega
  clear hmc hrows hu hv hM hRES h256 hmlen hla hlb
  have HE0 : Hid (OwnI (w.alloc (.cells #[] 3)) w.heap.size (w.heap.size + 1) (.slice (some ⟨w.heap.size, 0, none⟩) 0 0) []) := ownI_empty w
  have HEu : Hid (IntsV (w.alloc (.cells #[] 3)) lo hi (.slice ao la cap1) a) := HU.out.below ((Below.refl _ _).alloc (Nat.le_refl _) _) hh
  have HEz : Hid (w.heap.size ≤ (w.alloc (.cells #[] 3)).heap.size) := by show _ ≤ _; simp
  have HEb : Hid (Below w.heap.size w (w.alloc (.cells #[] 3))) := (Below.refl _ _).alloc (Nat.le_refl _) _
  go_enter Try.func174, Try.ntmps174
  go_wp2_with (at_builtin; first | (refine wpList_app_ints rfl (.tmp 11) (.tmp 12) rfl w1 w.heap.size w1.heap.size lo hi _ _ (([] : List Int) ++ a) b O1.out V1.out z1 HL1.out rfl rfl ?_; intro ao5 L5 cap5 w2 hL5 o2 q2 z2; have O2 := Lib.hid o2; have Q2 : Hid (Below w.heap.size w w2) := Q1.out.trans q2; clear o2 q2) | (refine wpList_app_ints rfl (.tmp 9) (.tmp 10) rfl (w.alloc (.cells #[] 3)) w.heap.size (w.heap.size + 1) lo hi _ _ [] a HE0.out HEu.out HEz.out HL0.out rfl rfl ?_; intro ao4 L4 cap4 w1 hL4 o1 q1 z1; have O1 := Lib.hid o1; have Q1 : Hid (Below w.heap.size w w1) := HEb.out.trans q1; have V1 := Lib.hid (HV.out.below Q1.out hh); clear o1 q1))
  have hi3 : Hid (OwnR (w2.alloc (.cells #[] 22)) w2.heap.size (w2.heap.size + 1) (.slice (some ⟨w2.heap.size, 0, none⟩) 0 0) [] []) := ownR_empty w2
  have hb3 : Hid (Below w2.heap.size w2 (w2.alloc (.cells #[] 22))) := (Below.refl _ _).alloc (Nat.le_refl _) _
  have hz3 : w2.heap.size + 1 ≤ (w2.alloc (.cells #[] 22)).heap.size := by simp
  generalize (w2.alloc (.cells #[] 22)) = w3 at *
  refine (HW0.out w3).mono ?_
  rintro e w4 ⟨u4, rfl, o4, q4⟩
  have z4 := q4.size
  have P4 : Hid (IntsV w4 0 w4.heap.size u4 (upI 0 la)) := (OwnI.ints o4).mono (Nat.zero_le _) (Nat.le_refl _)
  obtain ⟨x4, n4, y4, rfl⟩ := (OwnI.ints o4).shape
  have I4 := Lib.hid (hi3.out.below q4 hz3)
  have B4 : Hid (Below w2.heap.size w2 w4) := hb3.out.trans (q4.mono (by omega))
  clear o4 q4 hi3 hb3
  go_wp2_with fail
  refine (HW1.out w4).mono ?_
  rintro e w5 ⟨u5, rfl, o5, q5⟩
  have z5 := q5.size
  have P5 : Hid (IntsV w5 0 w5.heap.size u5 (upI la lb)) := (OwnI.ints o5).mono (Nat.zero_le _) (Nat.le_refl _)
  have P4' : Hid (IntsV w5 0 w5.heap.size (.slice x4 n4 y4) (upI 0 la)) := (P4.out.below q5 (Nat.le_refl _)).mono (Nat.zero_le _) z5
  obtain ⟨x5, n5, y5, rfl⟩ := (OwnI.ints o5).shape
  have I5 := Lib.hid (I4.out.below q5 (by omega))
  have B5 : Hid (Below w2.heap.size w2 w5) := B4.out.trans (q5.mono (by omega))
  clear o5 q5 P4 I4 B4
  go_wp2_with fail
  refine (HMC.out w5 0 w5.heap.size _ _ P4'.out P5.out (Nat.le_refl _)).mono ?_
  rintro e w6 ⟨u6, us6, rfl, o6, q6⟩
  have z6 := q6.size
  have I6 := Lib.hid (I5.out.below q6 (by omega))
  have B6 : Hid (Below w2.heap.size w2 w6) := B5.out.trans (q6.mono (by omega))
  obtain ⟨aoM, gM, capM, AM, GM, CM, rfl, hcapM, haoM, hM⟩ := o6.view
  have HMV := Lib.hid hM
  have HAOM := Lib.hid haoM
  have HK6 : Hid (keptB (w2.heap.size + 1) w6.heap.size w6 w6 (.slice (some ⟨w2.heap.size, 0, none⟩) 0 0)) := fun k k1 k2 => ⟨rfl, fun e => by have e2 : w2.heap.size = k := Option.some.inj e; omega⟩
  have hall := (OwnI.ints O2.out)
  rw [List.nil_append] at hall
  obtain ⟨all, hall2⟩ : ∃ all, all = a ++ b := ⟨_, rfl⟩
  rw [← hall2] at hall HRES
  have hallL : all.length = la + lb := by rw [hall2, List.length_append, ← HLA.out, ← HLB.out]
  obtain ⟨aoA, bA, offA, capA, eA, hcapA, haoA, hcA⟩ := hall
  injection eA with eA1 eA2 eA3
  obtain ⟨ll, hll⟩ : ∃ ll, ll = la + lb := ⟨_, rfl⟩
  rw [hallL, ← hll] at eA2
  have HLL := Lib.hid hll
  have hcapA3 : ll ≤ capA := by omega
  clear hll
  clear hL5
  subst ao5 L5 cap5
  have HCA := Lib.hid hcA
  have HAOA := Lib.hid haoA
  have HALL := Lib.hid hallL
  have hcapA2 : la + lb ≤ capA := by omega
  clear o6 q6 hM haoM hcA haoA P4' P5 I5 B5 hall2 O1 O2 V1 HE0 HEu HEb hallL hcapA
  obtain ⟨ml, hml2⟩ : ∃ ml, ml = M.length := ⟨_, rfl⟩
  have HML := Lib.hid hml2
  rw [← hml2] at hcapM hml ⊢
  clear hml2
  go_wp2_with fail
  go_loopw [6, 8, 25] (fun v _ i wr => ∃ k : Nat, k ≤ ml ∧ i = .int .i64 k ∧ ∃ vs, OwnR wr w2.heap.size wr.heap.size v vs ((M.take k).map (lookP all)) ∧ Below w2.heap.size w2 wr ∧ keptB (w2.heap.size + 1) w6.heap.size w6 wr v ∧ w6.heap.size ≤ wr.heap.size) (fun _ _ i _ => ml - (intOf i).toNat)
  case atStart => exact ⟨0, by omega, rfl, [], by simpa using I6.out.mono (Nat.le_refl _) (by omega), B6.out, HK6.out, Nat.le_refl _⟩
  case round =>
    obtain ⟨k, hk, rfl, vs, hR, hB, hK, hzr⟩ := hrel
    have HR := Lib.hid hR
    have HB := Lib.hid hB
    have HK := Lib.hid hK
    have HL : Hid (((M.take k).map (lookP all)).length ≤ 1000000) := by show _ ≤ _; rw [List.length_map, List.length_take]; have := HML.out; omega
    by_cases hlt : k < ml
    · obtain ⟨i, j, hr, hi1, hj1⟩ := HROWS.out k (by have := HML.out; omega)
      obtain ⟨hm1, hm2, hm3, hm4⟩ := HMV.out k (by have := HML.out; omega)
      obtain ⟨rfl, gm1, gm2⟩ := HAOM.out (by have := HML.out; omega)
      rw [hr] at hm1 hm2 hm3 hm4
      obtain ⟨em, gk1, gk2⟩ := hm3 (by simp)
      rw [em] at hm1
      have hd0 := hm4 0 (by simp)
      have hd1 := hm4 1 (by simp)
      obtain ⟨rfl, ba1, ba2⟩ := HAOA.out (by omega)
      obtain ⟨x, hx⟩ : ∃ x, x = all.getD i 0 := ⟨_, rfl⟩
      obtain ⟨y, hy⟩ : ∃ y, y = all.getD j 0 := ⟨_, rfl⟩
      have c0 : wr.cell? ⟨gM, k, none⟩ = some (.slice (some ⟨GM k, 0, none⟩) 2 (CM k)) := (HK.out.cell gM k (by omega) (by omega)).trans hm1
      have c1 : wr.cell? ⟨GM k, 0, none⟩ = some (.int .i64 i) := (HK.out.cell (GM k) 0 (by omega) (by omega)).trans hd0
      have c2 : wr.cell? ⟨GM k, 1, none⟩ = some (.int .i64 j) := (HK.out.cell (GM k) 1 (by omega) (by omega)).trans hd1
      have c3 : wr.cell? ⟨bA, offA + i, none⟩ = some (.int .i64 x) := by rw [hx]; exact (HB.out.cell (p := ⟨bA, offA + i, none⟩) ba2).trans ((HCA.out i (by have := HALL.out; omega)))
      have c4 : wr.cell? ⟨bA, offA + j, none⟩ = some (.int .i64 y) := by rw [hy]; exact (HB.out.cell (p := ⟨bA, offA + j, none⟩) ba2).trans ((HCA.out j (by have := HALL.out; omega)))
      have HXY : Hid (lookP all (M.getD k []) = [x, y]) := by show _ = _; rw [hr, hx, hy]; simp [lookP]
      have hi2 : (i : Int) < (ll : Int) := by have := HLL.out; omega
      have hj2 : (j : Int) < (ll : Int) := by have := HLL.out; omega
      have hi3 : i < ll := by have := HLL.out; omega
      have hj3 : j < ll := by have := HLL.out; omega
      clear hR hB hK hx hy hr hm1 hm2 hm3 hm4 hd0 hd1 em
      have HRd := Lib.hid (HR.out.kept (w' := wr.drew) fun _ _ _ _ => rfl)
      have hz2 : w2.heap.size ≤ wr.drew.heap.size := by show _ ≤ wr.heap.size; omega
      have hz7 : w6.heap.size ≤ wr.drew.heap.size := hzr
      have hS : ∀ W', Below wr.heap.size wr W' → W'.cell? ⟨GM k, 0, none⟩ = some (.int .i64 i) ∧ W'.cell? ⟨GM k, 1, none⟩ = some (.int .i64 j) ∧ W'.cell? ⟨bA, offA + i, none⟩ = some (.int .i64 x) ∧ W'.cell? ⟨bA, offA + j, none⟩ = some (.int .i64 y) := fun W' hb =>
        ⟨(hb.cell (p := ⟨GM k, 0, none⟩) (by show GM k < _; omega)).trans c1, (hb.cell (p := ⟨GM k, 1, none⟩) (by show GM k < _; omega)).trans c2, (hb.cell (p := ⟨bA, offA + i, none⟩) (by show bA < _; omega)).trans c3, (hb.cell (p := ⟨bA, offA + j, none⟩) (by show bA < _; omega)).trans c4⟩
      have hA1 : ∀ X : Obj, Below wr.heap.size wr (wr.drew.alloc X) := fun X => (Below.refl _ _).drew.alloc (Nat.le_refl _) _
      have hA2 : ∀ X Y : Obj, Below wr.heap.size wr ((wr.drew.alloc X).alloc Y) := fun X Y => (hA1 X).alloc (by simp) _
      have HSS := Lib.hid hS
      have HA1 := Lib.hid hA1
      have HA2 := Lib.hid hA2
      have hti : ((i : Int)).toNat = i := Int.toNat_natCast i
      have htj : ((j : Int)).toNat = j := Int.toNat_natCast j
      clear hS hA1 hA2
      go_wp2_with fail
      go_region_held3 (fun W' => W'.cell? ⟨GM k, 0, none⟩ = some (.int .i64 i) ∧ W'.cell? ⟨GM k, 1, none⟩ = some (.int .i64 j) ∧ W'.cell? ⟨bA, offA + i, none⟩ = some (.int .i64 x) ∧ W'.cell? ⟨bA, offA + j, none⟩ = some (.int .i64 y)) (first | exact ⟨c1, c2, c3, c4⟩ | exact HSS.out _ (HA2.out _ _) | exact HSS.out _ (HA1.out _) | exact ⟨cc1, cc2, cc3, cc4⟩ | fail) (first | (refine wp_app_pair2 (.tmp 29) (.tmp 43) rfl wr.drew x y w2.heap.size _ vs ((M.take k).map (lookP all)) (w2.heap.size + 1) w6.heap.size w6 HRd.out hz2 HK.out hz7 HL.out rfl rfl ?_; intro g' L' cap' w8 vs8 hL8 o8 q8 z8 k8 y8; have cc1 := (k8.cell (GM k) 0 (by omega) (by omega)).trans ((HK.out.cell (GM k) 0 (by omega) (by omega)).symm.trans c1); have cc2 := (k8.cell (GM k) 1 (by omega) (by omega)).trans ((HK.out.cell (GM k) 1 (by omega) (by omega)).symm.trans c2); have cc3 := ((undrew q8).cell (p := ⟨bA, offA + i, none⟩) ba2).trans c3; have cc4 := ((undrew q8).cell (p := ⟨bA, offA + j, none⟩) ba2).trans c4; have O8 := Lib.hid o8; have Q8 := Lib.hid (undrew q8); have K8 := Lib.hid k8; clear o8 q8 k8) | fail)
      all_goals
        clear hti htj
        go_wp2
        go_roundw
        case rel => exact ⟨k + 1, by omega, by go_num, vs8, by rw [take_snoc_getD [] (by have := HML.out; omega), List.map_append, List.map_cons, List.map_nil, HXY.out]; exact O8.out, HB.out.trans Q8.out, K8.out, by omega⟩
        case measure => simp [intOf]; omega
    · have HE : Hid (M.take k = M) := by show _ = _; rw [List.take_of_length_le (by have := HML.out; omega)]
      clear hR hB hK
      go_wp2
      go_ret
      exact ⟨_, vs, rfl, by rw [HRES.out, ← HE.out]; rw [HE.out]; have := HR.out; rw [HE.out] at this; exact this.mono (by omega) (Nat.le_refl _), Q2.out.trans (HB.out.mono (by omega))⟩

/-- The merge of two lists by looking up. -/
def mrgL (a b : List Int) : List (List Int) := (mrg (a.length + b.length) (upI 0 a.length) (upI a.length b.length)).map (lookP (a ++ b))
theorem mrgL_len (a b : List Int) (h : a.length + b.length ≤ 8) : (mrgL a b).length ≤ 2048 := by
  have hmlen := mrg_len (a.length + b.length) (upI 0 a.length) (upI a.length b.length) (by rw [upI_length, upI_length]; omega)
  have h256 : 2 ^ (a.length + b.length) ≤ 2 ^ 8 := Nat.pow_le_pow_right (by omega) (by omega)
  rw [mrgL, List.length_map]
  omega
/-- Batcher's sorter of a list of wires, by looking up. -/
def batL : Nat → List Int → List (List Int)
  | 0, _ => []
  | f + 1, l => if l.length ≤ 1 then [] else batL f (l.take ((l.length + 1) / 2)) ++ batL f (l.drop ((l.length + 1) / 2)) ++ mrgL (l.take ((l.length + 1) / 2)) (l.drop ((l.length + 1) / 2))
theorem batL_len (f : Nat) : ∀ l : List Int, 1 ≤ l.length → l.length ≤ 8 → (batL f l).length + 4000 ≤ 4000 * l.length := by
  induction f with
  | zero => intro l h1 _; simp only [batL, List.length_nil]; omega
  | succ f ih =>
    intro l h1 h
    unfold batL
    by_cases h2 : l.length ≤ 1
    · rw [if_pos h2]; simp only [List.length_nil]; omega
    · rw [if_neg h2]
      have l0 : (l.take ((l.length + 1) / 2)).length = (l.length + 1) / 2 := by rw [List.length_take]; omega
      have l1 : (l.drop ((l.length + 1) / 2)).length = l.length - (l.length + 1) / 2 := by rw [List.length_drop]
      have i0 := ih (l.take ((l.length + 1) / 2)) (by omega) (by omega)
      have i1 := ih (l.drop ((l.length + 1) / 2)) (by omega) (by omega)
      have i2 := mrgL_len (l.take ((l.length + 1) / 2)) (l.drop ((l.length + 1) / 2)) (by omega)
      rw [List.length_append, List.length_append]
      omega
/-- On consecutive wires both sorters are one. -/
theorem bat_eq : ∀ n : Fin 9, batL 8 (upI 0 n) = bat 8 (upI 0 n) := by decide +kernel

set_option maxHeartbeats 1000000 in
theorem l09Batcher_c (f : Nat) : ∀ (l : List Int) (lo hi : Nat) (v : Value) (w : World), 1 ≤ l.length → l.length ≤ f → l.length ≤ 8 → f ≤ 8 → IntsV w lo hi v l → hi ≤ w.heap.size →
    Calls Try.prog 90 #[v] w (RowC w (batL f l)) := by
  induction f with
  | zero => intro l lo hi v w h1 h2; omega
  | succ f ih =>
    intro l lo hi v w h1 h2 h8 hf8 hv hh
    have hv' := hv
    obtain ⟨ao, b, off, cap, rfl, hcap, hao, hc⟩ := hv
    obtain ⟨rfl, q1, q2⟩ := hao (by omega)
    clear hc hao
    by_cases h11 : l.length = 1
    · rw [show batL (f + 1) l = [] from by unfold batL; rw [if_pos (by omega)]]
      rw [h11] at *
      go_enter Try.func90, Try.ntmps90
      go_wp2
      go_ret
      exact ⟨_, [], rfl, (ownR_empty w).mono (Nat.le_refl _) (by simp), (Below.refl _ _).alloc (Nat.le_refl _) _⟩
    · obtain ⟨n, hn⟩ : ∃ n, n = l.length := ⟨_, rfl⟩
      obtain ⟨h, hh2⟩ : ∃ h, h = (l.length + 1) / 2 := ⟨_, rfl⟩
      have ht := hv'.take h (by omega) (by omega)
      have hd := hv'.drop h (by omega) (by omega)
      rw [show batL (f + 1) l = batL f (l.take h) ++ batL f (l.drop h) ++ mrgL (l.take h) (l.drop h) from by
        show (if l.length ≤ 1 then _ else _) = _
        rw [if_neg (by omega), ← hh2]]
      rw [← hn] at hd ⊢
      obtain ⟨A, hA⟩ : ∃ A, A = l.take h := ⟨_, rfl⟩
      obtain ⟨B, hB⟩ : ∃ B, B = l.drop h := ⟨_, rfl⟩
      have hAl : A.length = h := by rw [hA, List.length_take]; omega
      have hBl : B.length = n - h := by rw [hB, List.length_drop, hn]
      rw [← hA] at ht ⊢
      rw [← hB] at hd ⊢
      obtain ⟨RES, hRES⟩ : ∃ RES, RES = batL f A ++ batL f B ++ mrgL A B := ⟨_, rfl⟩
      rw [← hRES]
      have HRES := Lib.hid hRES
      have IH := Lib.hid ih
      have HT := Lib.hid ht
      have HD := Lib.hid hd
      have HAL := Lib.hid hAl
      have HBL := Lib.hid hBl
      have hh3 : h = (n + 1) / 2 := by omega
      have hhn : h < n := by omega
      have hh1 : 1 ≤ h := by omega
      have hn8 : n ≤ 8 := by omega
      have hncap : n ≤ cap := by omega
      have hhcap : h ≤ cap := by omega
      have hle : h ≤ n := by omega
      have hch : ¬ cap = h := by omega
      have hle2 : (h : Int) ≤ (n : Int) := by omega
      have hle3 : (h : Int) ≤ (cap : Int) := by omega
      have hne : ¬ (n : Int) ≤ 1 := by omega
      have hdiv : ((n : Int) + 1) / 2 = (h : Int) := by omega
      have CA : Hid (∀ w1, Below w.heap.size w w1 → Calls Try.prog 90 #[.slice (some ⟨b, off, none⟩) h cap] w1 (RowC w1 (batL f A))) := fun w1 hb =>
        ih A lo hi _ w1 (by omega) (by omega) (by omega) (by omega) (ht.below hb hh) (by have := hb.size; omega)
      have CB : Hid (∀ w1, Below w.heap.size w w1 → Calls Try.prog 90 #[.slice (some ⟨b, off + h, none⟩) (n - h) (cap - h)] w1 (RowC w1 (batL f B))) := fun w1 hb =>
        ih B lo hi _ w1 (by omega) (by omega) (by omega) (by omega) (hd.below hb hh) (by have := hb.size; omega)
      have CO : Hid (∀ w1, Below w.heap.size w w1 → Calls Try.prog 174 #[.slice (some ⟨b, off, none⟩) h cap, .slice (some ⟨b, off + h, none⟩) (n - h) (cap - h)] w1 (RowC w1 (mrgL A B))) := fun w1 hb =>
        l09Merge_c A B lo hi _ _ w1 (by omega) (ht.below hb hh) (hd.below hb hh) (by have := hb.size; omega)
      have LEN : Hid ((batL f A).length ≤ 32000 ∧ (batL f B).length ≤ 32000 ∧ (mrgL A B).length ≤ 2048) := by
        have e1 := batL_len f A (by omega) (by omega)
        have e2 := batL_len f B (by omega) (by omega)
        have e3 := mrgL_len A B (by omega)
        exact ⟨by omega, by omega, by omega⟩
      clear hv' hA hB hRES ih ht hd hAl hBl hn hh2 hh3 IH HT HD
      go_enter Try.func90, Try.ntmps90
      go_wp2_with fail
      try rw [hdiv]
      have BD : Hid (Below w.heap.size w w.drew) := (Below.refl _ _).drew
      have HL1 : Hid ((batL f A).length + (batL f B).length ≤ 1000000) := by show _ ≤ _; have := LEN.out; omega
      go_region_law (first | (refine wp_app_rows (.tmp 16) (.tmp 20) rfl w2 w.heap.size w1.heap.size _ _ us1 us2 _ _ H1.out O2.out Z1.out Z2.out HL1.out rfl rfl ?_; intro ao3 L3 cap3 w3 vs3 hL3 o3 b3 z3; have O3 := Lib.hid o3; have B3 : Hid (Below w.heap.size w w3) := B2.out.trans b3; clear o3 b3) | (go_simp; go_at_call 90; refine (CB.out w1 B1.out).mono ?_; rintro e w2 ⟨u2, us2, rfl, o2, b2⟩; have O2 := Lib.hid o2; have H1 := Lib.hid (O1.out.below b2 (Nat.le_refl _)); have B2 : Hid (Below w.heap.size w w2) := B1.out.trans (b2.mono Z1.out); have Z2 : Hid (w1.heap.size ≤ w2.heap.size) := b2.size; clear o2 b2) | (go_simp; go_at_call 90; refine (CA.out w.drew BD.out).mono ?_; rintro e w1 ⟨u1, us1, rfl, o1, b1⟩; have O1 := Lib.hid o1; have B1 : Hid (Below w.heap.size w w1) := BD.out.trans b1; have Z1 : Hid (w.heap.size ≤ w1.heap.size) := b1.size; clear o1 b1) | fail)
      all_goals
        have B4 : Hid (Below w.heap.size w w3.drew) := (B3.out : Below w.heap.size w w3).drew
        have O3' : Hid (OwnR w3.drew w.heap.size w3.drew.heap.size (.slice ao3 L3 cap3) vs3 (batL f A ++ batL f B)) := O3.out.kept fun _ _ _ _ => rfl
        have Z3 : Hid (w.heap.size ≤ w3.drew.heap.size) := (B3.out : Below w.heap.size w w3).size
        have HL4 : Hid ((batL f A ++ batL f B).length + (mrgL A B).length ≤ 1000000) := by show _ ≤ _; rw [List.length_append]; have := LEN.out; omega
        clear B1 B2 H1 O2 O3 CA CB
        go_wp2_with fail
        go_region_law (first | (refine wp_app_rows (.tmp 22) (.tmp 29) rfl w5 w.heap.size w3.drew.heap.size _ _ vs3 us5 _ _ H5.out O5.out Z3.out Z5.out HL4.out rfl rfl ?_; intro ao6 L6 cap6 w6 vs6 hL6 o6 b6 z6; have O6 := Lib.hid o6; have B6 : Hid (Below w.heap.size w w6) := B5.out.trans b6; clear o6 b6) | (go_simp; go_at_call 174; refine (CO.out w3.drew B4.out).mono ?_; rintro e w5 ⟨u5, us5, rfl, o5, b5⟩; have O5 := Lib.hid o5; have H5 := Lib.hid (O3'.out.below b5 (Nat.le_refl _)); have B5 : Hid (Below w.heap.size w w5) := B4.out.trans (b5.mono Z3.out); have Z5 : Hid (w3.drew.heap.size ≤ w5.heap.size) := b5.size; clear o5 b5) | fail)
        all_goals
          go_wp2
          go_ret
          exact ⟨_, vs6, rfl, by rw [HRES.out]; exact O6.out, B6.out⟩
end Go.Proofs.Ytiodolbgapjmkaa
