/- Batcher's sorter, the program's. Conditions: one to eight wires. -/
import Derived.Test.YtiodolbgapjmkaaMrg
namespace Go.Proofs.Ytiodolbgapjmkaa
open Go.RowKit
set_option maxRecDepth 100000

/-- The first h of a list, in the same memory. -/
theorem IntsV.take {w : World} {lo hi : Nat} {b off cap : Nat} {l : List Int} (h : IntsV w lo hi (.slice (some ⟨b, off, none⟩) l.length cap) l) (k : Nat) (h1 : k ≤ l.length) (h0 : 0 < cap) :
    IntsV w lo hi (.slice (some ⟨b, off, none⟩) k cap) (l.take k) := by
  obtain ⟨ao, b', off', cap', e, hcap, hao, hc⟩ := h
  injection e with e1 e2 e3
  subst e3
  obtain ⟨rfl, q1, q2⟩ := hao h0
  injection e1 with e1
  injection e1 with e1 e4
  subst e1 e4
  have hl : (l.take k).length = k := by rw [List.length_take]; omega
  exact ⟨_, b, off, cap, by rw [hl], by omega, fun _ => ⟨rfl, q1, q2⟩, fun i hi' => by
    rw [hl] at hi'
    rw [hc i (by omega)]
    simp [List.getD, hi']⟩
/-- The rest of a list behind the first k, in the same memory. -/
theorem IntsV.drop {w : World} {lo hi : Nat} {b off cap : Nat} {l : List Int} (h : IntsV w lo hi (.slice (some ⟨b, off, none⟩) l.length cap) l) (k : Nat) (h1 : k < l.length) (h0 : 0 < cap) :
    IntsV w lo hi (.slice (some ⟨b, off + k, none⟩) (l.length - k) (cap - k)) (l.drop k) := by
  obtain ⟨ao, b', off', cap', e, hcap, hao, hc⟩ := h
  injection e with e1 e2 e3
  subst e3
  obtain ⟨rfl, q1, q2⟩ := hao h0
  injection e1 with e1
  injection e1 with e1 e4
  subst e1 e4
  exact ⟨_, b, off + k, cap - k, by rw [List.length_drop], by rw [List.length_drop]; omega, fun _ => ⟨rfl, q1, q2⟩, fun i hi' => by
    rw [List.length_drop] at hi'
    rw [Nat.add_assoc, hc (k + i) (by omega)]
    simp [List.getD, List.getElem?_drop]⟩

/-- Batcher's sorter of a list of wires. -/
def bat : Nat → List Int → List (List Int)
  | 0, _ => []
  | f + 1, l => if l.length ≤ 1 then [] else bat f (l.take ((l.length + 1) / 2)) ++ bat f (l.drop ((l.length + 1) / 2)) ++ mrg l.length (l.take ((l.length + 1) / 2)) (l.drop ((l.length + 1) / 2))
theorem bat_len (f : Nat) : ∀ l : List Int, 1 ≤ l.length → l.length ≤ 8 → (bat f l).length + 4000 ≤ 4000 * l.length := by
  induction f with
  | zero => intro l h1 _; simp only [bat, List.length_nil]; omega
  | succ f ih =>
    intro l h1 h
    unfold bat
    by_cases h2 : l.length ≤ 1
    · rw [if_pos h2]; simp only [List.length_nil]; omega
    · rw [if_neg h2]
      have l0 : (l.take ((l.length + 1) / 2)).length = (l.length + 1) / 2 := by rw [List.length_take]; omega
      have l1 : (l.drop ((l.length + 1) / 2)).length = l.length - (l.length + 1) / 2 := by rw [List.length_drop]
      have i0 := ih (l.take ((l.length + 1) / 2)) (by omega) (by omega)
      have i1 := ih (l.drop ((l.length + 1) / 2)) (by omega) (by omega)
      have i2 := mrg_len l.length (l.take ((l.length + 1) / 2)) (l.drop ((l.length + 1) / 2)) (by omega)
      have : 2 ^ l.length ≤ 2 ^ 8 := Nat.pow_le_pow_right (by omega) h
      rw [List.length_append, List.length_append]
      omega

set_option maxHeartbeats 1000000 in
theorem batcher_c (f : Nat) : ∀ (l : List Int) (lo hi : Nat) (v : Value) (w : World), 1 ≤ l.length → l.length ≤ f → l.length ≤ 8 → f ≤ 8 → IntsV w lo hi v l → hi ≤ w.heap.size →
    Calls Try.prog 122 #[v] w (RowC w (bat f l)) := by
  induction f with
  | zero => intro l lo hi v w h1 h2; omega
  | succ f ih =>
    intro l lo hi v w h1 h2 h8 hf8 hv hh
    have hv' := hv
    obtain ⟨ao, b, off, cap, rfl, hcap, hao, hc⟩ := hv
    obtain ⟨rfl, q1, q2⟩ := hao (by omega)
    clear hc hao
    by_cases h11 : l.length = 1
    · rw [show bat (f + 1) l = [] from by unfold bat; rw [if_pos (by omega)]]
      rw [h11] at *
      go_enter Try.func122, Try.ntmps122
      go_wp2
      go_ret
      exact ⟨_, [], rfl, OwnR.nil _ _ _, Below.refl _ _⟩
    · obtain ⟨n, hn⟩ : ∃ n, n = l.length := ⟨_, rfl⟩
      obtain ⟨h, hh2⟩ : ∃ h, h = (l.length + 1) / 2 := ⟨_, rfl⟩
      have ht := hv'.take h (by omega) (by omega)
      have hd := hv'.drop h (by omega) (by omega)
      rw [show bat (f + 1) l = bat f (l.take h) ++ bat f (l.drop h) ++ mrg n (l.take h) (l.drop h) from by
        show (if l.length ≤ 1 then _ else _) = _
        rw [if_neg (by omega), ← hh2, ← hn]]
      rw [← hn] at hd ⊢
      obtain ⟨A, hA⟩ : ∃ A, A = l.take h := ⟨_, rfl⟩
      obtain ⟨B, hB⟩ : ∃ B, B = l.drop h := ⟨_, rfl⟩
      have hAl : A.length = h := by rw [hA, List.length_take]; omega
      have hBl : B.length = n - h := by rw [hB, List.length_drop, hn]
      rw [← hA] at ht ⊢
      rw [← hB] at hd ⊢
      obtain ⟨RES, hRES⟩ : ∃ RES, RES = bat f A ++ bat f B ++ mrg n A B := ⟨_, rfl⟩
      rw [← hRES]
      have HRES := Lib.hid hRES
      have IH := Lib.hid ih
      have HT := Lib.hid ht
      have HD := Lib.hid hd
      have HAL := Lib.hid hAl
      have HBL := Lib.hid hBl
      have hh3 : h = (n + 1) / 2 := by omega
      have hhn : h < n := by omega
      have hh1 : 1 ≤ h := by omega
      have hn8 : n ≤ 8 := by omega
      have hncap : n ≤ cap := by omega
      have hhcap : h ≤ cap := by omega
      have hle : h ≤ n := by omega
      have hch : ¬ cap = h := by omega
      have hle2 : (h : Int) ≤ (n : Int) := by omega
      have hle3 : (h : Int) ≤ (cap : Int) := by omega
      have hne : ((n : Int) == 1) = false := by rw [beq_eq_false_iff_ne]; omega
      have hdiv : ((n : Int) + 1) / 2 = (h : Int) := by omega
      have CA : Hid (∀ w1, Below w.heap.size w w1 → Calls Try.prog 122 #[.slice (some ⟨b, off, none⟩) h cap] w1 (RowC w1 (bat f A))) := fun w1 hb =>
        ih A lo hi _ w1 (by omega) (by omega) (by omega) (by omega) (ht.below hb hh) (by have := hb.size; omega)
      have CB : Hid (∀ w1, Below w.heap.size w w1 → Calls Try.prog 122 #[.slice (some ⟨b, off + h, none⟩) (n - h) (cap - h)] w1 (RowC w1 (bat f B))) := fun w1 hb =>
        ih B lo hi _ w1 (by omega) (by omega) (by omega) (by omega) (hd.below hb hh) (by have := hb.size; omega)
      have CO : Hid (∀ w1, Below w.heap.size w w1 → Calls Try.prog 108 #[.slice (some ⟨b, off, none⟩) h cap, .slice (some ⟨b, off + h, none⟩) (n - h) (cap - h)] w1 (RowC w1 (mrg n A B))) := fun w1 hb =>
        oddEven_c n A B lo hi _ _ w1 (by omega) (by omega) (ht.below hb hh) (hd.below hb hh) (by have := hb.size; omega)
      have LEN : Hid ((bat f A).length ≤ 32000 ∧ (bat f B).length ≤ 32000 ∧ (mrg n A B).length ≤ 2048) := by
        have e1 := bat_len f A (by omega) (by omega)
        have e2 := bat_len f B (by omega) (by omega)
        have e3 := mrg_len n A B (by omega)
        have p2 : 2 ^ n ≤ 2 ^ 8 := Nat.pow_le_pow_right (by omega) (by omega)
        exact ⟨by omega, by omega, by omega⟩
      clear hv' hA hB hRES ih ht hd hAl hBl hn hh2 hh3 IH HT HD
      go_enter Try.func122, Try.ntmps122
      go_wp2_with fail
      rw [hdiv]
      have BD : Hid (Below w.heap.size w w.drew) := (Below.refl _ _).drew
      have HL1 : Hid ((bat f A).length + (bat f B).length ≤ 1000000) := by show _ ≤ _; have := LEN.out; omega
      go_region_law (first | (refine wp_app_rows (.tmp 15) (.tmp 19) rfl w2 w.heap.size w1.heap.size _ _ us1 us2 _ _ H1.out O2.out Z1.out Z2.out HL1.out rfl rfl ?_; intro ao3 L3 cap3 w3 vs3 hL3 o3 b3 z3; have O3 := Lib.hid o3; have B3 : Hid (Below w.heap.size w w3) := B2.out.trans b3; clear o3 b3) | (go_simp; go_at_call 122; refine (CB.out w1 B1.out).mono ?_; rintro e w2 ⟨u2, us2, rfl, o2, b2⟩; have O2 := Lib.hid o2; have H1 := Lib.hid (O1.out.below b2 (Nat.le_refl _)); have B2 : Hid (Below w.heap.size w w2) := B1.out.trans (b2.mono Z1.out); have Z2 : Hid (w1.heap.size ≤ w2.heap.size) := b2.size; clear o2 b2) | (go_simp; go_at_call 122; refine (CA.out w.drew BD.out).mono ?_; rintro e w1 ⟨u1, us1, rfl, o1, b1⟩; have O1 := Lib.hid o1; have B1 : Hid (Below w.heap.size w w1) := BD.out.trans b1; have Z1 : Hid (w.heap.size ≤ w1.heap.size) := b1.size; clear o1 b1) | fail)
      all_goals
        have B4 : Hid (Below w.heap.size w w3.drew) := (B3.out : Below w.heap.size w w3).drew
        have O3' : Hid (OwnR w3.drew w.heap.size w3.drew.heap.size (.slice ao3 L3 cap3) vs3 (bat f A ++ bat f B)) := O3.out.kept fun _ _ _ _ => rfl
        have Z3 : Hid (w.heap.size ≤ w3.drew.heap.size) := (B3.out : Below w.heap.size w w3).size
        have HL4 : Hid ((bat f A ++ bat f B).length + (mrg n A B).length ≤ 1000000) := by show _ ≤ _; rw [List.length_append]; have := LEN.out; omega
        clear B1 B2 H1 O2 O3 CA CB
        go_wp2_with fail
        go_region_law (first | (refine wp_app_rows (.tmp 21) (.tmp 28) rfl w5 w.heap.size w3.drew.heap.size _ _ vs3 us5 _ _ H5.out O5.out Z3.out Z5.out HL4.out rfl rfl ?_; intro ao6 L6 cap6 w6 vs6 hL6 o6 b6 z6; have O6 := Lib.hid o6; have B6 : Hid (Below w.heap.size w w6) := B5.out.trans b6; clear o6 b6) | (go_simp; go_at_call 108; refine (CO.out w3.drew B4.out).mono ?_; rintro e w5 ⟨u5, us5, rfl, o5, b5⟩; have O5 := Lib.hid o5; have H5 := Lib.hid (O3'.out.below b5 (Nat.le_refl _)); have B5 : Hid (Below w.heap.size w w5) := B4.out.trans (b5.mono Z3.out); have Z5 : Hid (w3.drew.heap.size ≤ w5.heap.size) := b5.size; clear o5 b5) | fail)
        all_goals
          go_wp2
          go_ret
          exact ⟨_, vs6, rfl, by rw [HRES.out]; exact O6.out, B6.out⟩
end Go.Proofs.Ytiodolbgapjmkaa
