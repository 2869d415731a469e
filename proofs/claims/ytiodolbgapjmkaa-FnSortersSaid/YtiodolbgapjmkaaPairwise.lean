/- The comparators that sort a list of wires by pairs: both functions hand back the same. Conditions: one, two, four or eight wires. -/
import Derived.Test.YtiodolbgapjmkaaMrg
import Derived.Test.YtiodolbgapjmkaaWires
import Derived.Test.YtiodolbgapjmkaaSortOn
namespace Go.Proofs.Ytiodolbgapjmkaa
open Go.RowKit
set_option maxRecDepth 100000
set_option linter.unusedVariables false
set_option linter.unusedSimpArgs false

def pwP (l : List Int) (k : Nat) : List (List Int) := (List.range k).map fun i => [l.getD (2 * i) 0, l.getD (2 * i + 1) 0]
def pwS (l : List Int) (s k : Nat) : List (List Int) := (List.range k).map fun i => [l.getD (2 * i + 1) 0, l.getD (2 * (i + s)) 0]
def pwT (l : List Int) (h : Nat) : Nat → Nat → List (List Int)
  | 0, _ => []
  | f + 1, s => if s = 0 then [] else pwS l s (h - s) ++ pwT l h f (s / 2)
/-- The comparators that sort 2 ^ f wires by pairs. -/
def pw : Nat → List Int → List (List Int)
  | 0, _ => []
  | f + 1, l => pwP l (2 ^ f) ++ pw f (halfI 0 l) ++ pw f (halfI 1 l) ++ pwT l (2 ^ f) (2 ^ f) (2 ^ f / 2)
theorem pwP_succ (l : List Int) (k : Nat) : pwP l (k + 1) = pwP l k ++ [[l.getD (2 * k) 0, l.getD (2 * k + 1) 0]] := by simp [pwP, List.range_succ]
theorem pwS_succ (l : List Int) (s k : Nat) : pwS l s (k + 1) = pwS l s k ++ [[l.getD (2 * k + 1) 0, l.getD (2 * (k + s)) 0]] := by simp [pwS, List.range_succ]
theorem pwP_len (l : List Int) (k : Nat) : (pwP l k).length = k := by simp [pwP]
theorem pwS_len (l : List Int) (s k : Nat) : (pwS l s k).length = k := by simp [pwS]
theorem pwT_zero (l : List Int) (h f : Nat) : pwT l h f 0 = [] := by cases f <;> simp [pwT]
theorem pwT_step (l : List Int) (h f s : Nat) (hs : 1 ≤ s) (hf : s ≤ f) : pwT l h f s = pwS l s (h - s) ++ pwT l h (f - 1) (s / 2) := by
  cases f with
  | zero => omega
  | succ f => rw [pwT, if_neg (by omega)]; rfl
theorem pwT_len (l : List Int) (h : Nat) : ∀ f s, (pwT l h f s).length ≤ f * h := by
  intro f
  induction f with
  | zero => intro s; simp [pwT]
  | succ f ih =>
    intro s
    rw [pwT]
    split
    · simp
    · rw [List.length_append, pwS_len, Nat.succ_mul]
      have := ih (s / 2)
      omega
theorem pw_len (f : Nat) (hf : f ≤ 3) (l : List Int) : (pw f l).length ≤ 100 := by
  have h0 : ∀ l : List Int, (pw 0 l).length = 0 := fun _ => rfl
  have hr : ∀ f (l : List Int), (pw (f + 1) l).length ≤ 2 ^ f + (pw f (halfI 0 l)).length + (pw f (halfI 1 l)).length + 2 ^ f * 2 ^ f := by
    intro f l
    rw [pw, List.length_append, List.length_append, List.length_append, pwP_len]
    have := pwT_len l (2 ^ f) (2 ^ f) (2 ^ f / 2)
    omega
  have h1 : ∀ l : List Int, (pw 1 l).length ≤ 2 := fun l => by have := hr 0 l; simp [h0] at this; omega
  have h2 : ∀ l : List Int, (pw 2 l).length ≤ 10 := fun l => by have := hr 1 l; have := h1 (halfI 0 l); have := h1 (halfI 1 l); simp at *; omega
  have h3 : ∀ l : List Int, (pw 3 l).length ≤ 100 := fun l => by have := hr 2 l; have := h2 (halfI 0 l); have := h2 (halfI 1 l); simp at *; omega
  rcases (by omega : f = 0 ∨ f = 1 ∨ f = 2 ∨ f = 3) with rfl | rfl | rfl | rfl
  · rw [h0]; omega
  · have := h1 l; omega
  · have := h2 l; omega
  · exact h3 l
theorem wpList_app_rowsB {ops : Array Oper} {rest : List Oper} {o : Oper} {a : Act} {Q : Exit → Act → World → Prop} (hgd : o.guard = none) (s x : Operand)
    (ho : o.op = .call { callee := .builtin .append, args := #[s, x], argTypes := #[28, 28] })
    (W : World) (lo mid : Nat) (v u : Value) (vs us : List Value) (xss yss : List (List Int)) (hR : OwnR W lo mid v vs xss) (hS : OwnR W mid W.heap.size u us yss) (hlo : lo ≤ mid) (hmid : mid ≤ W.heap.size)
    (hlen : xss.length + yss.length ≤ 1000000) (hs : a.eval s = v) (hx : a.eval x = u)
    (h : ∀ ao L cap w' vs', Hid (L = xss.length + yss.length) → OwnR w' lo w'.heap.size (.slice ao L cap) vs' (xss ++ yss) → Below lo W w' → lo ≤ w'.heap.size → (∀ k, mid ≤ k → k < W.heap.size → w'.heap[k]? = W.heap[k]?) →
      wpList Try.prog ops Q rest (a.put o.dst (.slice ao L cap)) w') :
    wpList Try.prog ops Q (o :: rest) a W :=
  wpList_plain hgd fun _ hK => wp_app_rowsB s x ho W lo mid v u vs us xss yss hR hS hlo hmid hlen hs hx fun ao L cap w' vs' h1 h2 h3 h4 h5 => hK _ _ (h ao L cap w' vs' h1 h2 h3 h4 h5)

set_option maxHeartbeats 4000000 in
theorem pairwise_c (f : Nat) : ∀ (l : List Int) (lo hi : Nat) (v : Value) (w : World), l.length = 2 ^ f → f ≤ 3 → IntsV w lo hi v l → hi ≤ w.heap.size →
    Calls Try.prog 125 #[v] w (RowC w (pw f l)) := by
  induction f with
  | zero =>
    intro l lo hi v w hl hf hv hh
    obtain ⟨ao, b, off, cap, rfl, -⟩ := hv
    rw [hl]
    go_enter Try.func125, Try.ntmps125
    go_wp2
    go_ret
    exact ⟨_, [], rfl, OwnR.nil _ _ _, Below.refl _ _⟩
  | succ f ih =>
    intro l lo hi v w hl hf hv hh
    have hf2 : f ≤ 2 := by omega
    obtain ⟨h, hh0⟩ : ∃ h, h = 2 ^ f := ⟨_, rfl⟩
    have hl2 : l.length = 2 * h := by rw [hl, hh0, Nat.pow_succ]; omega
    have hh4 : h = 1 ∨ h = 2 ∨ h = 4 := by rcases (by omega : f = 0 ∨ f = 1 ∨ f = 2) with rfl | rfl | rfl <;> simp at hh0 <;> omega
    have hA0 : (halfI 0 l).length = 2 ^ f := by rw [halfI_len0, hl2, ← hh0]; omega
    have hA1 : (halfI 1 l).length = 2 ^ f := by rw [halfI_len1, hl2, ← hh0]; omega
    have hP0 := pw_len f (by omega) (halfI 0 l)
    have hP1 := pw_len f (by omega) (halfI 1 l)
    obtain ⟨A, hA⟩ : ∃ A, A = halfI 0 l := ⟨_, rfl⟩
    obtain ⟨B, hB0⟩ : ∃ B, B = halfI 1 l := ⟨_, rfl⟩
    have HAA := Lib.hid hA
    have HBB := Lib.hid hB0
    rw [← hA] at hA0 hP0
    rw [← hB0] at hA1 hP1
    have CA : Hid (∀ w1 u l1 h1, IntsV w1 l1 h1 u A → h1 ≤ w1.heap.size → Calls Try.prog 125 #[u] w1 (RowC w1 (pw f A))) := fun w1 u l1 h1 a b => ih A l1 h1 u w1 hA0 (by omega) a b
    have CB : Hid (∀ w1 u l1 h1, IntsV w1 l1 h1 u B → h1 ≤ w1.heap.size → Calls Try.prog 125 #[u] w1 (RowC w1 (pw f B))) := fun w1 u l1 h1 a b => ih B l1 h1 u w1 hA1 (by omega) a b
    obtain ⟨RES, hRES⟩ : ∃ R, R = pw (f + 1) l := ⟨_, rfl⟩
    rw [← hRES]
    obtain ⟨PA, hPA⟩ : ∃ P, P = pw f A := ⟨_, rfl⟩
    obtain ⟨PB, hPB⟩ : ∃ P, P = pw f B := ⟨_, rfl⟩
    have HRES : Hid (RES = pwP l h ++ PA ++ PB ++ pwT l h h (h / 2)) := by show _ = _; rw [hRES, pw, ← hA, ← hB0, ← hPA, ← hPB, hh0]
    rw [← hPA] at CA hP0
    rw [← hPB] at CB hP1
    have HV := Lib.hid hv
    obtain ⟨ao, b, off, cap, rfl, hcap, hao, hc⟩ := hv
    obtain ⟨rfl, q1, q2⟩ := hao (by omega)
    have HC := Lib.hid hc
    obtain ⟨n, hn⟩ : ∃ n, n = l.length := ⟨_, rfl⟩
    have HN := Lib.hid hn
    rw [← hn] at HC hcap HV hl2 ⊢
    have hn1 : ¬ (n : Int) = 1 := by omega
    have hnb : ((n : Int) == 1) = false := by rw [beq_eq_false_iff_ne]; omega
    have hn2 : (n : Int) / 2 = (h : Int) := by omega
    have hn4 : (n : Int) / 4 = ((h / 2 : Nat) : Int) := by omega
    have hn2' : Int.tdiv (n : Int) 2 = (h : Int) := by rw [Int.tdiv_eq_ediv_of_nonneg (by omega)]; exact hn2
    have hn4' : Int.tdiv (n : Int) 4 = ((h / 2 : Nat) : Int) := by rw [Int.tdiv_eq_ediv_of_nonneg (by omega)]; exact hn4
    have hla : n ≤ 2 * h := by omega
    have hlb : 2 * h ≤ n := by omega
    clear hao hc hn hRES hPA hPB hA hB0 hA0 hA1 ih hh0 hl hl2
    go_enter Try.func125, Try.ntmps125
    go_wp2_with fail
    try simp only [hn2, hn2', hnb]
    obtain ⟨W0, hW0⟩ : ∃ W, W = w.alloc (.cells #[] 22) := ⟨_, rfl⟩
    have hi0 : Hid (OwnR W0 w.heap.size W0.heap.size (.slice (some ⟨w.heap.size, 0, none⟩) 0 0) [] []) := by show OwnR _ _ _ _ _ _; rw [hW0]; exact (ownR_empty w).mono (Nat.le_refl _) (by simp)
    have hb0 : Below w.heap.size w W0 := by rw [hW0]; exact (Below.refl _ _).alloc (Nat.le_refl _) _
    try rw [← hW0]
    clear hW0
    go_loopw [4, 17] (fun v i wr => ∃ k : Nat, k ≤ h ∧ i = .int .i64 ((k : Int)) ∧ ∃ us, OwnR wr w.heap.size wr.heap.size v us (pwP l k) ∧ Below w.heap.size w wr) (fun _ i _ => 2 * h - (intOf i).toNat)
    case atStart => exact ⟨0, Nat.zero_le _, by go_num, [], by simpa [pwP] using hi0.out, hb0⟩
    case round =>
      obtain ⟨k, hk, rfl, us, hR, hB⟩ := hrel
      have HR := Lib.hid hR
      have HB := Lib.hid hB
      have hzr := hB.size
      clear hi0 hb0
      by_cases hlt : k < h
      · obtain ⟨x, hx⟩ : ∃ x, x = l.getD (2 * k) 0 := ⟨_, rfl⟩
        obtain ⟨y, hy⟩ : ∃ y, y = l.getD (2 * k + 1) 0 := ⟨_, rfl⟩
        obtain ⟨p, hp⟩ : ∃ p, p = 2 * k := ⟨_, rfl⟩
        have c1 : wr.cell? ⟨b, off + p, none⟩ = some (.int .i64 x) := (hB.cell (p := ⟨b, off + p, none⟩) (by show b < _; omega)).trans (by rw [hx, hp]; exact HC.out (2 * k) (by omega))
        have c2 : wr.cell? ⟨b, off + (p + 1), none⟩ = some (.int .i64 y) := (hB.cell (p := ⟨b, off + (p + 1), none⟩) (by show b < _; omega)).trans (by rw [hy, hp]; exact HC.out (2 * k + 1) (by omega))
        have HT : Hid (pwP l (k + 1) = pwP l k ++ [[x, y]]) := by show _ = _; rw [pwP_succ, hx, hy]
        have HLN : Hid ((pwP l k).length ≤ 1000000) := by show _ ≤ _; rw [pwP_len]; omega
        have HRd := Lib.hid (HR.out.kept (w' := wr.drew) fun _ _ _ _ => rfl)
        have hz2 : w.heap.size ≤ wr.drew.heap.size := hzr
        have hS : ∀ W', Below w.heap.size wr W' → W'.cell? ⟨b, off + p, none⟩ = some (.int .i64 x) ∧ W'.cell? ⟨b, off + (p + 1), none⟩ = some (.int .i64 y) := fun W' hb =>
          ⟨(hb.cell (p := ⟨b, off + p, none⟩) (by show b < _; omega)).trans c1, (hb.cell (p := ⟨b, off + (p + 1), none⟩) (by show b < _; omega)).trans c2⟩
        have hA1 : ∀ X : Obj, Below w.heap.size wr (wr.drew.alloc X) := fun X => (Below.refl _ _).drew.alloc hzr _
        have hA2 : ∀ X Y : Obj, Below w.heap.size wr ((wr.drew.alloc X).alloc Y) := fun X Y => (hA1 X).alloc (by simp; omega) _
        have HSS := Lib.hid hS
        have HA1 := Lib.hid hA1
        have HA2 := Lib.hid hA2
        have HKK : Hid (∀ u : Value, keptC 0 0 wr.drew wr.drew u) := fun u k k1 k2 => by omega
        have h00 : 0 ≤ wr.drew.heap.size := Nat.zero_le _
        have hp1 : (2 : Int) * (k : Int) = (p : Int) := by omega
        have hpc : ((2 * k : Nat) : Int) = (p : Int) := by omega
        have hw1 : IntKind.i64.wrap (p : Int) = (p : Int) := IntWalk.i64_in _ (by omega)
        have hw2 : IntKind.i64.wrap ((p : Int) + 1) = (p : Int) + 1 := IntWalk.i64_in _ (by omega)
        have h0p : (0 : Int) ≤ (p : Int) + 1 := by omega
        have htp : ((p : Int) + 1).toNat = p + 1 := by omega
        have hw3 : IntKind.i64.wrap ((p : Int) + 2) = (p : Int) + 2 := IntWalk.i64_in _ (by omega)
        have hpl : (p : Int) < (n : Int) := by omega
        have hpl2 : ((p + 1 : Nat) : Int) < (n : Int) := by omega
        have hpl3 : (p : Int) + 1 < (n : Int) := by omega
        have hkh : (k : Int) < (h : Int) := by omega
        have HPK := Lib.hid hp
        clear hS hA1 hA2 hR hB hx hy hp
        
        go_wp2_with fail
        go_region_held3 (fun W' => W'.cell? ⟨b, off + p, none⟩ = some (.int .i64 x) ∧ W'.cell? ⟨b, off + (p + 1), none⟩ = some (.int .i64 y)) (first | exact ⟨c1, c2⟩ | exact HSS.out _ (HA2.out _ _) | exact HSS.out _ (HA1.out _) | exact ⟨cc1, cc2⟩ | fail) (first | (refine wp_app_pairC (.tmp 20) (.tmp 33) rfl wr.drew x y w.heap.size _ us (pwP l k) 0 0 wr.drew HRd.out hz2 (HKK.out _) h00 HLN.out rfl rfl ?_; intro g' L' cap' w8 vs8 hL8 o8 q8 z8 k8 y8; obtain ⟨cc1, cc2⟩ := HSS.out w8 (undrew q8); have O8 := Lib.hid o8; have Q8 := Lib.hid (undrew q8); clear o8 q8 k8) | fail)
        all_goals
          go_wp2
          go_roundw
          case rel => exact ⟨k + 1, by omega, by go_num, vs8, by rw [HT.out]; exact O8.out, HB.out.trans Q8.out⟩
          case measure => have := HPK.out; simp [intOf]; omega
      · have hkh : k = h := by omega
        have hRh := hR
        rw [hkh] at hRh
        have HRh := Lib.hid hRh
        have hge : ¬ (k : Int) < (h : Int) := by omega
        have hge2 : (h : Int) ≤ (k : Int) := by omega
        have HVr := Lib.hid (HV.out.below hB hh)
        have hhr : hi ≤ wr.heap.size := by omega
        clear HR hR hB hkh hRh
        go_wp2_with fail
        refine (halves_c lo hi _ l wr HVr.out hhr (by rw [← HN.out]; omega)).mono ?_
        rintro e w2 ⟨u0, u1, rfl, o20, o21, b2⟩
        have z2 := b2.size
        rw [← HAA.out] at o20
        rw [← HBB.out] at o21
        have O20 := Lib.hid o20
        have O21 := Lib.hid o21
        have OR2 := Lib.hid (HRh.out.later b2)
        have B2 : Hid (Below w.heap.size w w2) := HB.out.trans (b2.mono hzr)
        clear o20 o21 b2 HRh
        go_wp2_with fail
        refine (CA.out w2 u0 wr.heap.size w2.heap.size O20.out.ints (Nat.le_refl _)).mono ?_
        rintro e w3 ⟨u3, us3, rfl, o3, b3⟩
        have z3 := b3.size
        have O3 := Lib.hid o3
        have OR3 := Lib.hid (OR2.out.below b3 (by omega))
        have O31 := Lib.hid (Own.later O21.out b3)
        have B3 : Hid (Below w.heap.size w w3) := B2.out.trans (b3.mono (by omega))
        have HL3 : Hid ((pwP l h).length + PA.length ≤ 1000000) := by show _ ≤ _; rw [pwP_len]; omega
        clear o3 b3
        go_wp2_with (at_builtin; refine wpList_app_rowsB rfl (.tmp 41) (.tmp 43) rfl w3 w.heap.size wr.heap.size _ u3 us us3 (pwP l h) PA OR3.out (O3.out.mono z2 (Nat.le_refl _)) hzr (by omega) HL3.out rfl rfl ?_; intro ao4 L4 cap4 w4 vs4 hL4 o4 b4 z4 k4; have O4 := Lib.hid o4; have B4 : Hid (Below w.heap.size w w4) := B3.out.trans b4; have zz4 := b4.size; have O41 : Hid (OwnI w4 wr.heap.size w2.heap.size u1 B) := Own.kept O31.out (fun k k1 k2 _ => k4 k k1 (by omega)); clear o4 b4 k4)
        refine (CB.out w4 u1 wr.heap.size w2.heap.size O41.out.ints (by omega)).mono ?_
        rintro e w5 ⟨u5, us5, rfl, o5, b5⟩
        have z5 := b5.size
        have O5 := Lib.hid o5
        have OR5 := Lib.hid (O4.out.later b5)
        have B5 : Hid (Below w.heap.size w w5) := B4.out.trans (b5.mono z4)
        have HL5 : Hid ((pwP l h ++ PA).length + PB.length ≤ 1000000) := by show _ ≤ _; rw [List.length_append, pwP_len]; omega
        clear o5 b5
        go_wp2_with (at_builtin; refine wpList_app_rows rfl (.tmp 45) (.tmp 47) rfl w5 w.heap.size w4.heap.size _ u5 vs4 us5 (pwP l h ++ PA) PB OR5.out O5.out z4 z5 HL5.out rfl rfl ?_; intro ao8 L8 cap8 w8 vs8 hL8 o8 b8 z8; have O8 := Lib.hid o8; have B8 : Hid (Below w.heap.size w w8) := B5.out.trans b8; clear o8 b8)
        try simp only [hn4, hn4']
        obtain ⟨BASE, hBASE⟩ : ∃ X, X = pwP l h ++ PA ++ PB := ⟨_, rfl⟩
        have HOX : Hid (OwnR w8 w.heap.size w8.heap.size (.slice ao8 L8 cap8) vs8 BASE) := by show OwnR _ _ _ _ _ _; rw [hBASE]; exact O8.out
        have HRES2 : Hid (RES = BASE ++ pwT l h h (h / 2)) := by show _ = _; rw [HRES.out, hBASE]
        have HBL : Hid (BASE.length ≤ 300) := by show _ ≤ _; rw [hBASE, List.length_append, List.length_append, pwP_len]; omega
        have B8w : Hid (Below w.heap.size w w8) := B8.out
        clear O8 hBASE

        go_loopw [4, 8] (fun v s wr => ∃ (s' fu : Nat) (cur : List (List Int)), s' ≤ fu ∧ s' ≤ h ∧ s = .int .i64 (s' : Int) ∧ Hid (RES = cur ++ pwT l h fu s') ∧ Hid (cur.length + fu * h ≤ 400) ∧ ∃ us, OwnR wr w.heap.size wr.heap.size v us cur ∧ Below w.heap.size w wr) (fun _ s _ => (intOf s).toNat)
        case atStart => exact ⟨h / 2, h, BASE, by omega, by omega, by go_num, HRES2.out, (by show BASE.length + h * h ≤ 400; have := HBL.out; rcases hh4 with e | e | e <;> (rw [e]; omega)), vs8, HOX.out, B8w.out⟩
        case round =>
          obtain ⟨s, fu, cur, hsf, hsh, rfl, HE, HCL, us5, hR5, hB5⟩ := hrel
          have HR5 := Lib.hid hR5
          have HB5 := Lib.hid hB5
          have hz5 := hB5.size
          clear HOX HRES2 HBL B8w B8 hR5
          by_cases hs1 : 1 ≤ s
          · have hsI : (1 : Int) ≤ (s : Int) := by omega
            have HE2 : Hid (RES = (cur ++ pwS l s (h - s)) ++ pwT l h (fu - 1) (s / 2)) := by show _ = _; rw [HE.out, pwT_step l h fu s hs1 hsf, List.append_assoc]
            have hfu1 : 1 ≤ fu := by omega
            have hmul : (fu - 1) * h + h = fu * h := by rw [← Nat.succ_mul]; congr 1; omega
            have HMUL := Lib.hid hmul
            obtain ⟨wo, rfl⟩ : ∃ wo : World, wo = wr := ⟨_, rfl⟩
            clear hB5 HE hmul
            go_wp2_with fail
            go_loopw [4, 9] (fun v i wr => ∃ k : Nat, k ≤ h - s ∧ i = .int .i64 (k : Int) ∧ ∃ us, OwnR wr w.heap.size wr.heap.size v us (cur ++ pwS l s k) ∧ Below w.heap.size w wr) (fun _ i _ => h - (intOf i).toNat)
            case atStart => exact ⟨0, Nat.zero_le _, rfl, us5, by simpa [pwS] using HR5.out, HB5.out⟩
            case round =>
              obtain ⟨k, hk, rfl, us6, hR6, hB6⟩ := hrel
              have HR := Lib.hid hR6
              have HB := Lib.hid hB6
              have hzr := hB6.size
              clear HR5 HB5 hz5
              by_cases hlt : k < h - s
              · obtain ⟨x, hx⟩ : ∃ x, x = l.getD (2 * k + 1) 0 := ⟨_, rfl⟩
                obtain ⟨y, hy⟩ : ∃ y, y = l.getD (2 * (k + s)) 0 := ⟨_, rfl⟩
                obtain ⟨p, hp⟩ : ∃ p, p = 2 * k := ⟨_, rfl⟩
                obtain ⟨q, hq⟩ : ∃ q, q = 2 * (k + s) := ⟨_, rfl⟩
                have c1 : wr.cell? ⟨b, off + (p + 1), none⟩ = some (.int .i64 x) := (hB6.cell (p := ⟨b, off + (p + 1), none⟩) (by show b < _; omega)).trans (by rw [hx, hp]; exact HC.out (2 * k + 1) (by omega))
                have c2 : wr.cell? ⟨b, off + q, none⟩ = some (.int .i64 y) := (hB6.cell (p := ⟨b, off + q, none⟩) (by show b < _; omega)).trans (by rw [hy, hq]; exact HC.out (2 * (k + s)) (by omega))
                have HT : Hid (cur ++ pwS l s (k + 1) = (cur ++ pwS l s k) ++ [[x, y]]) := by show _ = _; rw [pwS_succ, hx, hy, List.append_assoc]
                have HLN : Hid ((cur ++ pwS l s k).length ≤ 1000000) := by show _ ≤ _; rw [List.length_append, pwS_len]; have := HCL.out; omega
                have HRd := Lib.hid (HR.out.kept (w' := wr.drew) fun _ _ _ _ => rfl)
                have hz2 : w.heap.size ≤ wr.drew.heap.size := hzr
                have hS : ∀ W', Below w.heap.size wr W' → W'.cell? ⟨b, off + (p + 1), none⟩ = some (.int .i64 x) ∧ W'.cell? ⟨b, off + q, none⟩ = some (.int .i64 y) := fun W' hb =>
                  ⟨(hb.cell (p := ⟨b, off + (p + 1), none⟩) (by show b < _; omega)).trans c1, (hb.cell (p := ⟨b, off + q, none⟩) (by show b < _; omega)).trans c2⟩
                have hA1 : ∀ X : Obj, Below w.heap.size wr (wr.drew.alloc X) := fun X => (Below.refl _ _).drew.alloc hzr _
                have hA2 : ∀ X Y : Obj, Below w.heap.size wr ((wr.drew.alloc X).alloc Y) := fun X Y => (hA1 X).alloc (by simp; omega) _
                have HSS := Lib.hid hS
                have HA1 := Lib.hid hA1
                have HA2 := Lib.hid hA2
                have HKK : Hid (∀ u : Value, keptC 0 0 wr.drew wr.drew u) := fun u k k1 k2 => by omega
                have h00 : 0 ≤ wr.drew.heap.size := Nat.zero_le _
                have hp1 : (2 : Int) * (k : Int) = (p : Int) := by omega
                have hws : IntKind.i64.wrap ((k : Int) + (s : Int)) = (k : Int) + (s : Int) := IntWalk.i64_in _ (by omega)
                have hk2s : (2 : Int) * ((k : Int) + (s : Int)) = (q : Int) := by omega
                have hw1 : IntKind.i64.wrap (p : Int) = (p : Int) := IntWalk.i64_in _ (by omega)
                have hw2 : IntKind.i64.wrap ((p : Int) + 1) = (p : Int) + 1 := IntWalk.i64_in _ (by omega)
                have h0p : (0 : Int) ≤ (p : Int) + 1 := by omega
                have htp : ((p : Int) + 1).toNat = p + 1 := by omega
                have hw4 : IntKind.i64.wrap (q : Int) = (q : Int) := IntWalk.i64_in _ (by omega)
                have hpl2 : ((p + 1 : Nat) : Int) < (n : Int) := by omega
                have hpl3 : (p : Int) + 1 < (n : Int) := by omega
                have hql : (q : Int) < (n : Int) := by omega
                clear hS hA1 hA2 hR6 hB6 hx hy hp hq
                go_wp2_with fail
                go_region_held3 (fun W' => W'.cell? ⟨b, off + (p + 1), none⟩ = some (.int .i64 x) ∧ W'.cell? ⟨b, off + q, none⟩ = some (.int .i64 y)) (first | exact ⟨c1, c2⟩ | exact HSS.out _ (HA2.out _ _) | exact HSS.out _ (HA1.out _) | exact ⟨cc1, cc2⟩ | fail) (first | (refine wp_app_pairC (.tmp 63) (.tmp 78) rfl wr.drew x y w.heap.size _ us6 (cur ++ pwS l s k) 0 0 wr.drew HRd.out hz2 (HKK.out _) h00 HLN.out rfl rfl ?_; intro g' L' cap' w9 vs9 hL9 o9 q9 z9 k9 y9; obtain ⟨cc1, cc2⟩ := HSS.out w9 (undrew q9); have O9 := Lib.hid o9; have Q9 := Lib.hid (undrew q9); clear o9 q9 k9) | fail)
                all_goals
                  go_wp2
                  go_roundw
                  case rel => exact ⟨k + 1, by omega, by go_num, vs9, by rw [HT.out]; exact O9.out, HB.out.trans Q9.out⟩
                  case measure => simp [intOf]; omega
              · have hkk : k = h - s := by omega
                have hnl : ¬ (2 : Int) * ((k : Int) + (s : Int)) < (n : Int) := by omega
                have hnl2 : (n : Int) ≤ (2 : Int) * ((k : Int) + (s : Int)) := by omega
                have hRk := hR6
                rw [hkk] at hRk
                have HRk := Lib.hid hRk
                have HCL2 : Hid ((cur ++ pwS l s (h - s)).length + (fu - 1) * h ≤ 400) := by show _ ≤ _; rw [List.length_append, pwS_len]; have := HCL.out; have := HMUL.out; omega
                clear HR hR6 hB6 hkk hRk
                go_wp2
                go_roundw
                case rel => exact ⟨s / 2, fu - 1, cur ++ pwS l s (h - s), by omega, by omega, by go_num, HE2.out, HCL2.out, us6, HRk.out, HB.out⟩
                case measure => simp [intOf]; omega
          · have hs0 : s = 0 := by omega
            subst hs0
            have HEE : Hid (RES = cur) := by show _ = _; rw [HE.out, pwT_zero, List.append_nil]
            clear hB5
            go_wp2
            go_ret
            exact ⟨_, us5, rfl, by rw [HEE.out]; exact HR5.out, HB5.out⟩

end Go.Proofs.Ytiodolbgapjmkaa
