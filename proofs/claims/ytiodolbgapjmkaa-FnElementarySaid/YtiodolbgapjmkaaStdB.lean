/- Whether a network is standard, or primitive: the program's tests, by their contracts. Conditions: the network is valid. -/
import Derived.Test.YtiodolbgapjmkaaNetOk
import Derived.Test.YtiodolbgapjmkaaNetBits
import Derived.Test.YtiodolbgapjmkaaMaskL
namespace Go.Proofs.Ytiodolbgapjmkaa
open Go.RowKit
set_option maxRecDepth 100000
set_option linter.unusedVariables false
set_option linter.unusedSimpArgs false

/-- A comparator whose first wire is the greater one. -/
def downP (r : List Int) : Bool := decide (r.getD 1 0 < r.getD 0 0)
def stdB (xss : List (List Int)) : Bool := !xss.any downP
/-- A comparator of other wires than neighbors. -/
def farP (r : List Int) : Bool := r.getD 1 0 != r.getD 0 0 + 1
def primB (xss : List (List Int)) : Bool := stdB xss && !xss.any farP
theorem std1_c (lo hi : Nat) (v : Value) (i j : Nat) (w : World) (hv : OwnI w lo hi v [(i : Int), (j : Int)]) (hhi : hi ≤ w.heap.size) : Calls Try.prog 181 #[v] w fun e w' => e = .returned (.bool (downP [(i : Int), (j : Int)])) ∧ Below w.heap.size w w' := by
  obtain ⟨ao, g, cap, rfl, hc, ha, hcell⟩ := OwnI.view hv
  obtain ⟨ha2, q1, q2⟩ := ha (by simp)
  subst ha2
  have c1 : w.cell? ⟨g, 0, none⟩ = some (.int .i64 i) := (hcell 0 (by simp)).1
  have c2 : w.cell? ⟨g, 1, none⟩ = some (.int .i64 j) := (hcell 1 (by simp)).1
  have hg : g < w.heap.size := by omega
  have e9 : downP [(i : Int), (j : Int)] = decide ((j : Int) < (i : Int)) := rfl
  have e8 : ([(i : Int), (j : Int)] : List Int).length = 2 := rfl
  rw [e8] at hc ⊢
  rw [e9]
  clear hcell ha hv e9 e8
  by_cases h : (j : Int) < (i : Int)
  all_goals
    go_enter Try.func181, Try.ntmps181
    go_wp2_with fail
    refine wp_region_later w.heap.size w (by kernel_rfl) (by kernel_rfl) (Below.refl _ _) ?_
    have hLW := LW.cells (B := w.heap.size) (w0 := w)
    repeat (go_big_quiet_step (fail))
    refine wpQuiet_nil ?_
    rintro w2 ⟨⟨w2s, hb2⟩, rfl⟩
    clear hLW
    go_wp2
    go_ret
    exact ⟨by simp [h], hb2⟩
theorem prim1_c (lo hi : Nat) (v : Value) (i j : Nat) (w : World) (hv : OwnI w lo hi v [(i : Int), (j : Int)]) (hhi : hi ≤ w.heap.size) (hi8 : i < 8) : Calls Try.prog 143 #[v] w fun e w' => e = .returned (.bool (farP [(i : Int), (j : Int)])) ∧ Below w.heap.size w w' := by
  obtain ⟨ao, g, cap, rfl, hc, ha, hcell⟩ := OwnI.view hv
  obtain ⟨ha2, q1, q2⟩ := ha (by simp)
  subst ha2
  have c1 : w.cell? ⟨g, 0, none⟩ = some (.int .i64 i) := (hcell 0 (by simp)).1
  have c2 : w.cell? ⟨g, 1, none⟩ = some (.int .i64 j) := (hcell 1 (by simp)).1
  have hg : g < w.heap.size := by omega
  have e9 : farP [(i : Int), (j : Int)] = ((j : Int) != (i : Int) + 1) := rfl
  have e8 : ([(i : Int), (j : Int)] : List Int).length = 2 := rfl
  rw [e8] at hc ⊢
  rw [e9]
  clear hcell ha hv e9 e8
  go_enter Try.func143, Try.ntmps143
  go_wp2_with fail
  refine wp_region_later w.heap.size w (by kernel_rfl) (by kernel_rfl) (Below.refl _ _) ?_
  have hLW := LW.cells (B := w.heap.size) (w0 := w)
  repeat (go_big_quiet_step (fail))
  refine wpQuiet_nil ?_
  rintro w2 ⟨⟨w2s, hb2⟩, rfl⟩
  clear hLW
  go_wp2
  go_ret
  exact ⟨rfl, hb2⟩
theorem any_stop {P : List Int → Bool} {xss : List (List Int)} {k : Nat} (hk : k < xss.length) (h : P (xss.getD k []) = true) : xss.any P = true := by
  rw [List.any_eq_true]
  exact ⟨xss[k], List.getElem_mem hk, by simpa [List.getD, hk] using h⟩
theorem any_none {P : List Int → Bool} {xss : List (List Int)} (h : ∀ k, k < xss.length → P (xss.getD k []) = false) : xss.any P = false := by
  rw [List.any_eq_false]
  intro x hx
  obtain ⟨k, hk, rfl⟩ := List.getElem_of_mem hx
  have := h k hk
  rw [Bool.not_eq_true]
  simpa [List.getD, hk] using this
set_option maxHeartbeats 1000000 in
theorem IndexFunc_std1 (P : List Int → Bool) (lo hi : Nat) (v : Value) (vs : List Value) (xss : List (List Int)) (w : World) (hv : OwnR w lo hi v vs xss) (hhi : hi ≤ w.heap.size) (hl : xss.length ≤ 1000)
    (hclo : ∀ w', Below w.heap.size w w' → ∀ k, k < xss.length → Calls Try.prog 181 #[vs.getD k undef] w' fun e w'' => e = .returned (.bool (P (xss.getD k []))) ∧ Below w'.heap.size w' w'') :
    Calls Try.prog 186 #[v, .func (.func 181) #[] #[]] w fun e w' => ∃ z : Int, e = .returned (.int .i64 z) ∧ decide (0 ≤ z) = xss.any P ∧ Below w.heap.size w w' := by
  obtain ⟨ao, g, cap, rfl, hcap, hao, hrow⟩ := hv.rows
  have HRW := Lib.hid hrow
  have HAO := Lib.hid hao
  have HCL := Lib.hid hclo
  obtain ⟨L, hL⟩ : ∃ L, L = xss.length := ⟨_, rfl⟩
  have HL := Lib.hid hL
  rw [← hL] at HRW HCL HAO hl hcap ⊢
  clear hv hrow hao hclo hL
  go_enter Try.func186, Try.ntmps186
  go_wp2_with fail
  go_loopw [8] (fun i wr => ∃ k : Nat, k ≤ L ∧ i = .int .i64 k ∧ Hid (∀ j, j < k → P (xss.getD j []) = false) ∧ Below w.heap.size w wr) (fun i _ => L - (intOf i).toNat)
  case atStart => exact ⟨0, Nat.zero_le _, rfl, fun j hj => by omega, Below.refl _ _⟩
  case round =>
    obtain ⟨k, hk, rfl, HK, hb⟩ := hrel
    have HB := Lib.hid hb
    have hz := hb.size
    by_cases hlt : k < L
    · have hk1 : (k : Int) < (L : Int) := by omega
      obtain ⟨ha, q1, q2⟩ := HAO.out (by omega)
      subst ha
      have hq := HCL.out wr hb k hlt
      obtain ⟨u, hu⟩ : ∃ u, u = vs.getD k undef := ⟨_, rfl⟩
      have c1 : wr.cell? ⟨g, k, none⟩ = some u := by rw [hu]; exact (hb.cell (p := ⟨g, k, none⟩) (by show g < _; omega)).trans (HRW.out k hlt).1
      obtain ⟨p, hp⟩ : ∃ p, p = P (xss.getD k []) := ⟨_, rfl⟩
      rw [← hu, ← hp] at hq
      have HQ := Lib.hid hq
      have HP := Lib.hid hp
      clear hq hu hp hb
      cases p
      · go_wp2_with fail
        refine HQ.out.mono ?_
        rintro e w2 ⟨rfl, b2⟩
        have B2 := Lib.hid (HB.out.trans (b2.mono hz))
        clear b2
        go_wp2
        go_roundw
        case rel =>
          refine ⟨k + 1, by omega, by go_num, ?_, B2.out⟩
          show ∀ j, _
          intro j hj
          rcases (by omega : j = k ∨ j < k) with e | e
          · rw [e]; exact HP.out.symm
          · exact HK.out j e
        case measure => simp [intOf]; omega
      · have HA : Hid (xss.any P = true) := any_stop (k := k) (by rw [← HL.out]; exact hlt) HP.out.symm
        go_wp2_with fail
        refine HQ.out.mono ?_
        rintro e w2 ⟨rfl, b2⟩
        have B2 := Lib.hid (HB.out.trans (b2.mono hz))
        clear b2
        go_wp2
        go_ret
        exact ⟨k, rfl, by rw [HA.out, decide_eq_true_iff]; omega, B2.out⟩
    · have HA : Hid (xss.any P = false) := any_none fun j hj => HK.out j (by rw [← HL.out] at hj; omega)
      have hk1 : ¬ (k : Int) < (L : Int) := by omega
      clear hb
      go_wp2
      go_ret
      exact ⟨-1, rfl, by rw [HA.out]; rfl, HB.out⟩
set_option maxHeartbeats 1000000 in
theorem ContainsFunc_std1 (P : List Int → Bool) (lo hi : Nat) (v : Value) (vs : List Value) (xss : List (List Int)) (w : World) (hv : OwnR w lo hi v vs xss) (hhi : hi ≤ w.heap.size) (hl : xss.length ≤ 1000)
    (hclo : ∀ w', Below w.heap.size w w' → ∀ k, k < xss.length → Calls Try.prog 181 #[vs.getD k undef] w' fun e w'' => e = .returned (.bool (P (xss.getD k []))) ∧ Below w'.heap.size w' w'') :
    Calls Try.prog 142 #[v, .func (.func 181) #[] #[]] w fun e w' => e = .returned (.bool (xss.any P)) ∧ Below w.heap.size w w' := by
  have HI := Lib.hid (IndexFunc_std1 P lo hi v vs xss w hv hhi hl hclo)
  obtain ⟨ao, g, cap, rfl, -, -, -⟩ := hv.rows
  clear hclo hv
  go_enter Try.func142, Try.ntmps142
  go_wp2_with fail
  refine HI.out.mono ?_
  rintro e w2 ⟨z, rfl, hz, b2⟩
  have HZ := Lib.hid hz
  have B2 := Lib.hid b2
  clear hz b2
  go_wp2
  go_ret
  exact ⟨by rw [← HZ.out]; rfl, B2.out⟩
set_option maxHeartbeats 1000000 in
theorem IndexFunc_prim1 (P : List Int → Bool) (lo hi : Nat) (v : Value) (vs : List Value) (xss : List (List Int)) (w : World) (hv : OwnR w lo hi v vs xss) (hhi : hi ≤ w.heap.size) (hl : xss.length ≤ 1000)
    (hclo : ∀ w', Below w.heap.size w w' → ∀ k, k < xss.length → Calls Try.prog 143 #[vs.getD k undef] w' fun e w'' => e = .returned (.bool (P (xss.getD k []))) ∧ Below w'.heap.size w' w'') :
    Calls Try.prog 186 #[v, .func (.func 143) #[] #[]] w fun e w' => ∃ z : Int, e = .returned (.int .i64 z) ∧ decide (0 ≤ z) = xss.any P ∧ Below w.heap.size w w' := by
  obtain ⟨ao, g, cap, rfl, hcap, hao, hrow⟩ := hv.rows
  have HRW := Lib.hid hrow
  have HAO := Lib.hid hao
  have HCL := Lib.hid hclo
  obtain ⟨L, hL⟩ : ∃ L, L = xss.length := ⟨_, rfl⟩
  have HL := Lib.hid hL
  rw [← hL] at HRW HCL HAO hl hcap ⊢
  clear hv hrow hao hclo hL
  go_enter Try.func186, Try.ntmps186
  go_wp2_with fail
  go_loopw [8] (fun i wr => ∃ k : Nat, k ≤ L ∧ i = .int .i64 k ∧ Hid (∀ j, j < k → P (xss.getD j []) = false) ∧ Below w.heap.size w wr) (fun i _ => L - (intOf i).toNat)
  case atStart => exact ⟨0, Nat.zero_le _, rfl, fun j hj => by omega, Below.refl _ _⟩
  case round =>
    obtain ⟨k, hk, rfl, HK, hb⟩ := hrel
    have HB := Lib.hid hb
    have hz := hb.size
    by_cases hlt : k < L
    · have hk1 : (k : Int) < (L : Int) := by omega
      obtain ⟨ha, q1, q2⟩ := HAO.out (by omega)
      subst ha
      have hq := HCL.out wr hb k hlt
      obtain ⟨u, hu⟩ : ∃ u, u = vs.getD k undef := ⟨_, rfl⟩
      have c1 : wr.cell? ⟨g, k, none⟩ = some u := by rw [hu]; exact (hb.cell (p := ⟨g, k, none⟩) (by show g < _; omega)).trans (HRW.out k hlt).1
      obtain ⟨p, hp⟩ : ∃ p, p = P (xss.getD k []) := ⟨_, rfl⟩
      rw [← hu, ← hp] at hq
      have HQ := Lib.hid hq
      have HP := Lib.hid hp
      clear hq hu hp hb
      cases p
      · go_wp2_with fail
        refine HQ.out.mono ?_
        rintro e w2 ⟨rfl, b2⟩
        have B2 := Lib.hid (HB.out.trans (b2.mono hz))
        clear b2
        go_wp2
        go_roundw
        case rel =>
          refine ⟨k + 1, by omega, by go_num, ?_, B2.out⟩
          show ∀ j, _
          intro j hj
          rcases (by omega : j = k ∨ j < k) with e | e
          · rw [e]; exact HP.out.symm
          · exact HK.out j e
        case measure => simp [intOf]; omega
      · have HA : Hid (xss.any P = true) := any_stop (k := k) (by rw [← HL.out]; exact hlt) HP.out.symm
        go_wp2_with fail
        refine HQ.out.mono ?_
        rintro e w2 ⟨rfl, b2⟩
        have B2 := Lib.hid (HB.out.trans (b2.mono hz))
        clear b2
        go_wp2
        go_ret
        exact ⟨k, rfl, by rw [HA.out, decide_eq_true_iff]; omega, B2.out⟩
    · have HA : Hid (xss.any P = false) := any_none fun j hj => HK.out j (by rw [← HL.out] at hj; omega)
      have hk1 : ¬ (k : Int) < (L : Int) := by omega
      clear hb
      go_wp2
      go_ret
      exact ⟨-1, rfl, by rw [HA.out]; rfl, HB.out⟩
set_option maxHeartbeats 1000000 in
theorem ContainsFunc_prim1 (P : List Int → Bool) (lo hi : Nat) (v : Value) (vs : List Value) (xss : List (List Int)) (w : World) (hv : OwnR w lo hi v vs xss) (hhi : hi ≤ w.heap.size) (hl : xss.length ≤ 1000)
    (hclo : ∀ w', Below w.heap.size w w' → ∀ k, k < xss.length → Calls Try.prog 143 #[vs.getD k undef] w' fun e w'' => e = .returned (.bool (P (xss.getD k []))) ∧ Below w'.heap.size w' w'') :
    Calls Try.prog 142 #[v, .func (.func 143) #[] #[]] w fun e w' => e = .returned (.bool (xss.any P)) ∧ Below w.heap.size w w' := by
  have HI := Lib.hid (IndexFunc_prim1 P lo hi v vs xss w hv hhi hl hclo)
  obtain ⟨ao, g, cap, rfl, -, -, -⟩ := hv.rows
  clear hclo hv
  go_enter Try.func142, Try.ntmps142
  go_wp2_with fail
  refine HI.out.mono ?_
  rintro e w2 ⟨z, rfl, hz, b2⟩
  have HZ := Lib.hid hz
  have B2 := Lib.hid b2
  clear hz b2
  go_wp2
  go_ret
  exact ⟨by rw [← HZ.out]; rfl, B2.out⟩
set_option maxHeartbeats 1000000 in
theorem isStandard_c (n : Nat) (lo hi : Nat) (v : Value) (vs : List Value) (xss : List (List Int)) (w : World) (hv : OwnR w lo hi v vs xss) (hhi : hi ≤ w.heap.size) (hok : netOk n xss = true) :
    Calls Try.prog 117 #[.agg #[.int .i64 n, v]] w fun e w' => e = .returned (.bool (stdB xss)) ∧ Below w.heap.size w w' := by
  have HC : Hid (∀ w1, Below w.heap.size w w1 → Calls Try.prog 142 #[v, .func (.func 181) #[] #[]] w1 fun e w' => e = .returned (.bool (xss.any downP)) ∧ Below w1.heap.size w1 w') := fun w1 h1 => by
    have hl60 := netOk_len hok
    refine ContainsFunc_std1 downP lo hi v vs xss w1 (hv.below h1 hhi) (by have := h1.size; omega) (by omega) fun w2 h2 k hk => ?_
    obtain ⟨i, j, hr, -, -, -⟩ := netOk_pair hok k hk
    obtain ⟨ao, g, cap, -, -, -, hrow⟩ := hv.rows
    have ho := ((hrow k hk).2.below h1 hhi).below h2 (by have := h1.size; omega)
    rw [hr] at ho ⊢
    exact std1_c lo hi _ i j w2 ho (by have := h1.size; have := h2.size; omega)
  obtain ⟨ao, g, cap, rfl, -, -, -⟩ := hv.rows
  obtain ⟨S, hS⟩ : ∃ S, S = xss.any downP := ⟨_, rfl⟩
  rw [stdB, ← hS]
  rw [← hS] at HC
  clear hv hS
  go_enter Try.func117, Try.ntmps117
  go_wp2_with fail
  obtain ⟨W1, hW1, c0, c1, hsz, hB1, -, -⟩ := box2 w (.int .i64 n) (.slice ao xss.length cap) 30
  rw [hW1]
  clear hW1
  refine (HC.out W1 hB1).mono ?_
  rintro e w2 ⟨rfl, b2⟩
  have B2 := Lib.hid (hB1.trans (b2.mono (by omega)))
  clear b2 c0 c1 hB1
  cases S
  all_goals
    go_wp2
    go_ret
    exact ⟨rfl, B2.out⟩
/-- A network held in a box, at the calls that only read it. -/
def RdC (n : Nat) (lo hi : Nat) (v : Value) (vs : List Value) (xss : List (List Int)) (W : World) : Prop := OwnR W lo hi v vs xss ∧ hi ≤ W.heap.size
set_option maxHeartbeats 1000000 in
theorem IsStandard_y (n : Nat) (lo hi : Nat) (v : Value) (vs : List Value) (xss : List (List Int)) (w : World) (hv : OwnR w lo hi v vs xss) (hhi : hi ≤ w.heap.size) (hok : netOk n xss = true) :
    Calls Try.prog 39 #[.agg #[.int .i64 n, v]] w fun e w' => e = .returned (.bool (stdB xss)) ∧ Below w.heap.size w w' := by
  have HC : Hid (∀ w1, Below w.heap.size w w1 → Calls Try.prog 94 #[.agg #[.int .i64 n, v]] w1 fun e w' => e = .returned (.bool true) ∧ Below w1.heap.size w1 w') := fun w1 h1 => by
    have := NetworkOk_c n lo hi v vs xss w1 (hv.below h1 hhi) (by have := h1.size; omega)
    rwa [hok] at this
  have HD : Hid (∀ w1, Below w.heap.size w w1 → Calls Try.prog 117 #[.agg #[.int .i64 n, v]] w1 fun e w' => e = .returned (.bool (stdB xss)) ∧ Below w1.heap.size w1 w') := fun w1 h1 => isStandard_c n lo hi v vs xss w1 (hv.below h1 hhi) (by have := h1.size; omega) hok
  obtain ⟨ao, g, cap, rfl, -, -, -⟩ := hv.rows
  obtain ⟨S, hS⟩ : ∃ S, S = stdB xss := ⟨_, rfl⟩
  rw [← hS] at HD ⊢
  clear hv hS
  go_enter Try.func39, Try.ntmps39
  go_wp2_with fail
  obtain ⟨W1, hW1, c0, c1, hsz, hB1, -, -⟩ := box2 w (.int .i64 n) (.slice ao xss.length cap) 30
  rw [hW1]
  clear hW1
  refine (HC.out W1 hB1).mono ?_
  rintro e w2 ⟨rfl, b2⟩
  obtain ⟨d0, d1, z2⟩ := boxC b2 (by omega) c0 c1
  have hB2 := hB1.trans (b2.mono (by omega))
  clear b2 c0 c1
  go_wp2_with fail
  refine (HD.out w2 hB2).mono ?_
  rintro e w3 ⟨rfl, b3⟩
  have B3 := Lib.hid (hB2.trans (b3.mono hB2.size))
  clear b3 d0 d1 hB1 hB2
  go_wp2
  go_ret
  exact ⟨rfl, B3.out⟩
set_option maxHeartbeats 1000000 in
theorem IsPrimitive_y (n : Nat) (lo hi : Nat) (v : Value) (vs : List Value) (xss : List (List Int)) (w : World) (hv : OwnR w lo hi v vs xss) (hhi : hi ≤ w.heap.size) (hok : netOk n xss = true) :
    Calls Try.prog 64 #[.agg #[.int .i64 n, v]] w fun e w' => e = .returned (.bool (primB xss)) ∧ Below w.heap.size w w' := by
  have HC : Hid (∀ w1, Below w.heap.size w w1 → Calls Try.prog 39 #[.agg #[.int .i64 n, v]] w1 fun e w' => e = .returned (.bool (stdB xss)) ∧ Below w1.heap.size w1 w') := fun w1 h1 =>
    IsStandard_y n lo hi v vs xss w1 (hv.below h1 hhi) (by have := h1.size; omega) hok
  have HD : Hid (∀ w1, Below w.heap.size w w1 → Calls Try.prog 142 #[v, .func (.func 143) #[] #[]] w1 fun e w' => e = .returned (.bool (xss.any farP)) ∧ Below w1.heap.size w1 w') := fun w1 h1 => by
    have hl60 := netOk_len hok
    have hn8 := netOk_n hok
    refine ContainsFunc_prim1 farP lo hi v vs xss w1 (hv.below h1 hhi) (by have := h1.size; omega) (by omega) fun w2 h2 k hk => ?_
    obtain ⟨i, j, hr, hi9, -, -⟩ := netOk_pair hok k hk
    obtain ⟨ao, g, cap, -, -, -, hrow⟩ := hv.rows
    have ho := ((hrow k hk).2.below h1 hhi).below h2 (by have := h1.size; omega)
    rw [hr] at ho ⊢
    exact prim1_c lo hi _ i j w2 ho (by have := h1.size; have := h2.size; omega) (by omega)
  obtain ⟨ao, g, cap, rfl, -, -, -⟩ := hv.rows
  obtain ⟨S, hS⟩ : ∃ S, S = stdB xss := ⟨_, rfl⟩
  obtain ⟨T, hT⟩ : ∃ T, T = xss.any farP := ⟨_, rfl⟩
  rw [primB, ← hS, ← hT]
  rw [← hS] at HC
  rw [← hT] at HD
  clear hv hS hT
  cases S
  · go_enter Try.func64, Try.ntmps64
    go_wp2_with fail
    obtain ⟨W1, hW1, c0, c1, hsz, hB1, -, -⟩ := box2 w (.int .i64 n) (.slice ao xss.length cap) 30
    rw [hW1]
    clear hW1
    refine (HC.out W1 hB1).mono ?_
    rintro e w2 ⟨rfl, b2⟩
    have B2 := Lib.hid (hB1.trans (b2.mono (by omega)))
    clear b2 c0 c1 hB1
    go_wp2
    go_ret
    exact ⟨rfl, B2.out⟩
  · cases T
    all_goals
      go_enter Try.func64, Try.ntmps64
      go_wp2_with fail
      obtain ⟨W1, hW1, c0, c1, hsz, hB1, -, -⟩ := box2 w (.int .i64 n) (.slice ao xss.length cap) 30
      rw [hW1]
      clear hW1
      refine (HC.out W1 hB1).mono ?_
      rintro e w2 ⟨rfl, b2⟩
      obtain ⟨d0, d1, z2⟩ := boxC b2 (by omega) c0 c1
      have hB2 := hB1.trans (b2.mono (by omega))
      clear b2 c0 c1
      go_wp2_with fail
      refine (HD.out w2 hB2).mono ?_
      rintro e w3 ⟨rfl, b3⟩
      have B3 := Lib.hid (hB2.trans (b3.mono hB2.size))
      clear b3 d0 d1 hB1 hB2
      go_wp2
      go_ret
      exact ⟨rfl, B3.out⟩
end Go.Proofs.Ytiodolbgapjmkaa
