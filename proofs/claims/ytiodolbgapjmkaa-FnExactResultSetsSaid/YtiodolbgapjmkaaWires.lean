/- Lists of wires: a run of numbers, every second element, lists put together; the program's functions and the reference's, by their contracts. Conditions: lists are short. -/
import Derived.Test.YtiodolbgapjmkaaInts
import Derived.Test.YtiodolbgapjmkaaSmall
namespace Go.Proofs.Ytiodolbgapjmkaa
open Go.RowKit
set_option maxRecDepth 100000

/-- n numbers from one on. -/
def upI (a : Int) (n : Nat) : List Int := (List.range n).map fun i : Nat => a + (i : Int)
theorem upI_length (a : Int) (n : Nat) : (upI a n).length = n := by simp [upI]
theorem upI_succ (a : Int) (n : Nat) : upI a (n + 1) = upI a n ++ [a + (n : Int)] := by simp [upI, List.range_succ]

theorem wires_c (a b : Int) (w : World) (h0 : 0 ≤ a) (h1 : a ≤ b) (h2 : b ≤ 1000) : Calls Try.prog 109 #[.int .i64 a, .int .i64 b] w (IntC w (upI a (b - a).toNat)) := by
  obtain ⟨n, hn⟩ : ∃ n : Nat, b = a + (n : Int) := ⟨(b - a).toNat, by omega⟩
  subst hn
  rw [show (a + (n : Int) - a).toNat = n from by omega]
  have hn8 : n ≤ 1000 := by omega
  go_enter Try.func109, Try.ntmps109
  go_wp2
  obtain ⟨W, hW⟩ : ∃ W, W = w.alloc (.cells #[] 3) := ⟨_, rfl⟩
  have hi : OwnI W w.heap.size W.heap.size (.slice (some ⟨w.heap.size, 0, none⟩) 0 0) [] := by rw [hW]; exact Own.mono (ownI_empty w) (Nat.le_refl _) (by simp)
  have hb : Below w.heap.size w W := by rw [hW]; exact (Below.refl _ _).alloc (Nat.le_refl _) _
  rw [← hW]
  clear hW
  have HI := Lib.hid hi
  clear hi
  go_loopw [5, 6] (fun v i wr => ∃ k : Nat, k ≤ n ∧ i = .int .i64 (a + (k : Int)) ∧ OwnI wr w.heap.size wr.heap.size v (upI a k) ∧ Below w.heap.size w wr) (fun _ i _ => (a + (n : Int) - intOf i).toNat)
  case atStart => exact ⟨0, by omega, by go_num, by simpa [upI] using HI.out, hb⟩
  case round =>
    obtain ⟨k, hk, rfl, hR, hB⟩ := hrel
    have HR := Lib.hid hR
    have HB := Lib.hid hB
    have hz := hB.size
    have HL : Hid ((upI a k).length ≤ 100000000) := by show _ ≤ _; rw [upI_length]; omega
    clear hR hB
    by_cases hlt : k < n
    · have hj : a + (k : Int) < a + (n : Int) := by omega
      go_wp2_with (at_builtin; refine wpList_app_int rfl (.tmp 14) (.tmp 16) rfl wr (a + (k : Int)) w.heap.size wr.heap.size _ (upI a k) HR.out hz HL.out rfl rfl ?_; intro ao L cap w1 hL o1 b1 z1; have O1 := Lib.hid o1; clear o1)
      go_roundw
      case rel => exact ⟨k + 1, by omega, by go_num, by rw [upI_succ]; exact O1.out, HB.out.trans b1⟩
      case measure => simp [intOf]; omega
    · have hj : a + (n : Int) ≤ a + (k : Int) := by omega
      have HE : Hid (k = n) := by show k = n; omega
      go_wp2
      go_ret
      exact ⟨_, rfl, by rw [← HE.out]; exact HR.out, HB.out⟩
theorem l08Wires_c (a : Int) (n : Nat) (w : World) (h0 : 0 ≤ a) (h1 : a ≤ 1000) (h2 : n ≤ 1000) : Calls Try.prog 91 #[.int .i64 a, .int .i64 n] w (IntC w (upI a n)) := by
  go_enter Try.func91, Try.ntmps91
  go_wp2
  obtain ⟨W, hW⟩ : ∃ W, W = w.alloc (.cells #[] 3) := ⟨_, rfl⟩
  have hi : OwnI W w.heap.size W.heap.size (.slice (some ⟨w.heap.size, 0, none⟩) 0 0) [] := by rw [hW]; exact Own.mono (ownI_empty w) (Nat.le_refl _) (by simp)
  have hb : Below w.heap.size w W := by rw [hW]; exact (Below.refl _ _).alloc (Nat.le_refl _) _
  rw [← hW]
  clear hW
  have HI := Lib.hid hi
  clear hi
  go_loopw [5, 6] (fun v i wr => ∃ k : Nat, k ≤ n ∧ i = .int .i64 (k : Int) ∧ OwnI wr w.heap.size wr.heap.size v (upI a k) ∧ Below w.heap.size w wr) (fun _ i _ => n - (intOf i).toNat)
  case atStart => exact ⟨0, by omega, by go_num, by simpa [upI] using HI.out, hb⟩
  case round =>
    obtain ⟨k, hk, rfl, hR, hB⟩ := hrel
    have HR := Lib.hid hR
    have HB := Lib.hid hB
    have hz := hB.size
    have HL : Hid ((upI a k).length ≤ 100000000) := by show _ ≤ _; rw [upI_length]; omega
    clear hR hB
    by_cases hlt : k < n
    · go_wp2_with (at_builtin; refine wpList_app_int rfl (.tmp 13) (.tmp 17) rfl wr (a + (k : Int)) w.heap.size wr.heap.size _ (upI a k) HR.out hz HL.out rfl rfl ?_; intro ao L cap w1 hL o1 b1 z1; have O1 := Lib.hid o1; clear o1)
      go_roundw
      case rel => exact ⟨k + 1, by omega, by go_num, by rw [upI_succ]; exact O1.out, HB.out.trans b1⟩
      case measure => simp [intOf]; omega
    · have HE : Hid (k = n) := by show k = n; omega
      go_wp2
      go_ret
      exact ⟨_, rfl, by rw [← HE.out]; exact HR.out, HB.out⟩

/-- Of the first k elements those at indexes of parity p. -/
def halfK (p : Nat) (xs : List Int) (k : Nat) : List Int := ((List.range k).filter fun i => i % 2 == p).map fun i => xs.getD i 0
/-- Every second element. -/
def halfI (p : Nat) (xs : List Int) : List Int := halfK p xs xs.length
theorem halfK_hit (p : Nat) (xs : List Int) (k : Nat) (h : k % 2 = p) : halfK p xs (k + 1) = halfK p xs k ++ [xs.getD k 0] := by simp [halfK, List.range_succ, List.filter_append, h]
theorem halfK_miss (p : Nat) (xs : List Int) (k : Nat) (h : k % 2 ≠ p) : halfK p xs (k + 1) = halfK p xs k := by simp [halfK, List.range_succ, List.filter_append, h]
theorem halfK_le (p : Nat) (xs : List Int) (k : Nat) : (halfK p xs k).length ≤ k := by
  unfold halfK
  rw [List.length_map]
  exact Nat.le_trans (List.length_filter_le _ _) (by simp)

theorem l08Half_c (lo hi : Nat) (v : Value) (xs : List Int) (p : Nat) (w : World) (hv : IntsV w lo hi v xs) (hh : hi ≤ w.heap.size) (hp : p ≤ 1) (hl : xs.length ≤ 1000) : Calls Try.prog 221 #[v, .int .i64 p] w (IntC w (halfI p xs)) := by
  obtain ⟨ao, b, off, cap, rfl, hcap, hao, hc⟩ := hv
  have HC := Lib.hid hc
  clear hc
  go_enter Try.func221, Try.ntmps221
  go_wp2
  obtain ⟨W, hW⟩ : ∃ W, W = w.alloc (.cells #[] 3) := ⟨_, rfl⟩
  have hi0 : OwnI W w.heap.size W.heap.size (.slice (some ⟨w.heap.size, 0, none⟩) 0 0) [] := by rw [hW]; exact Own.mono (ownI_empty w) (Nat.le_refl _) (by simp)
  have hb : Below w.heap.size w W := by rw [hW]; exact (Below.refl _ _).alloc (Nat.le_refl _) _
  rw [← hW]
  clear hW
  have HI := Lib.hid hi0
  clear hi0
  go_loopw [5, 6] (fun v i wr => ∃ k : Nat, k ≤ xs.length + 1 ∧ i = .int .i64 (k : Int) ∧ Hid (k % 2 = p) ∧ OwnI wr w.heap.size wr.heap.size v (halfK p xs k) ∧ Below w.heap.size w wr) (fun _ i _ => xs.length + 1 - (intOf i).toNat)
  case atStart => exact ⟨p, by omega, rfl, (by show p % 2 = p; omega), by rw [show halfK p xs p = [] from by rcases (by omega : p = 0 ∨ p = 1) with rfl | rfl <;> rfl]; exact HI.out, hb⟩
  case round =>
    obtain ⟨k, hk, rfl, HK, hR, hB⟩ := hrel
    have HR := Lib.hid hR
    have HB := Lib.hid hB
    have hz := hB.size
    have HL : Hid ((halfK p xs k).length ≤ 100000000) := by show _ ≤ _; have := halfK_le p xs k; omega
    by_cases hlt : k < xs.length
    · obtain ⟨rfl, q1, q2⟩ := hao (by omega)
      obtain ⟨x, hx⟩ : ∃ x, x = xs.getD k 0 := ⟨_, rfl⟩
      have c1 : wr.cell? ⟨b, off + k, none⟩ = some (.int .i64 x) := by rw [hx]; exact (hB.cell (p := ⟨b, off + k, none⟩) (by show b < _; omega)).trans (HC.out k hlt)
      have HX := Lib.hid hx
      clear hR hB hx
      go_wp2_with (at_builtin; refine wpList_app_int rfl (.tmp 15) (.tmp 20) rfl wr x w.heap.size wr.heap.size _ (halfK p xs k) HR.out hz HL.out rfl rfl ?_; intro ao L cap w1 hL o1 b1 z1; have O1 := Lib.hid o1; clear o1)
      go_roundw
      case rel =>
        refine ⟨k + 2, by omega, by go_num, (by show _ = _; have := HK.out; omega), ?_, HB.out.trans b1⟩
        have hk2 := HK.out
        rw [show k + 2 = (k + 1) + 1 from rfl, halfK_miss p xs (k + 1) (by omega), halfK_hit p xs k hk2, ← HX.out]
        exact O1.out
      case measure => simp [intOf]; omega
    · clear hR hB
      have HE : Hid (halfK p xs k = halfI p xs) := by
        have hk2 := HK.out
        show _ = halfK p xs xs.length
        by_cases e : k = xs.length
        · rw [e]
        · rw [show k = xs.length + 1 from by omega] at hk2 ⊢
          exact halfK_miss p xs xs.length (by omega)
      go_wp2
      go_ret
      exact ⟨_, rfl, by rw [← HE.out]; exact HR.out, HB.out⟩
theorem halves_c (lo hi : Nat) (v : Value) (xs : List Int) (w : World) (hv : IntsV w lo hi v xs) (hh : hi ≤ w.heap.size) (hl : xs.length ≤ 1000) : Calls Try.prog 178 #[v] w fun e w' =>
    ∃ u0 u1, e = .returned (.tuple #[u0, u1]) ∧ OwnI w' w.heap.size w'.heap.size u0 (halfI 0 xs) ∧ OwnI w' w.heap.size w'.heap.size u1 (halfI 1 xs) ∧ Below w.heap.size w w' := by
  obtain ⟨ao, b, off, cap, rfl, hcap, hao, hc⟩ := hv
  have HC := Lib.hid hc
  clear hc
  go_enter Try.func178, Try.ntmps178
  go_wp2
  obtain ⟨W, hW⟩ : ∃ W, W = (w.alloc (.cells #[] 3)).alloc (.cells #[] 3) := ⟨_, rfl⟩
  have hi0 : OwnI W w.heap.size W.heap.size (.slice (some ⟨w.heap.size, 0, none⟩) 0 0) [] := by rw [hW]; exact Own.mono (Own.alloc (ownI_empty w) _) (Nat.le_refl _) (by simp)
  have hi1 : OwnI W w.heap.size W.heap.size (.slice (some ⟨w.heap.size + 1, 0, none⟩) 0 0) [] := by
    rw [hW]
    have := ownI_empty (w.alloc (.cells #[] 3))
    rw [show (w.alloc (.cells #[] 3)).heap.size = w.heap.size + 1 from by simp] at this
    exact Own.mono this (by omega) (by simp)
  have hb : Below w.heap.size w W := by rw [hW]; exact ((Below.refl _ _).alloc (Nat.le_refl _) _).alloc (by simp) _
  rw [← hW]
  clear hW
  have HI0 := Lib.hid hi0
  have HI1 := Lib.hid hi1
  clear hi0 hi1
  go_loopw [4, 5, 12] (fun v u i wr => ∃ k : Nat, k ≤ xs.length ∧ i = .int .i64 (k : Int) ∧ OwnI wr w.heap.size wr.heap.size v (halfK 0 xs k) ∧ OwnI wr w.heap.size wr.heap.size u (halfK 1 xs k) ∧ sepV v u ∧ sepV u v ∧ Below w.heap.size w wr) (fun _ _ i _ => xs.length - (intOf i).toNat)
  case atStart => exact ⟨0, by omega, rfl, HI0.out, HI1.out, (by intro k hk h2; simp [Value.ownBlock] at hk h2; omega), (by intro k hk h2; simp [Value.ownBlock] at hk h2; omega), hb⟩
  case round =>
    obtain ⟨k, hk, rfl, hR0, hR1, hs01, hs10, hB⟩ := hrel
    have HR0 := Lib.hid hR0
    have HR1 := Lib.hid hR1
    have HB := Lib.hid hB
    have HS01 := Lib.hid hs01
    have HS10 := Lib.hid hs10
    have hz := hB.size
    have HL0 : Hid ((halfK 0 xs k).length ≤ 100000000) := by show _ ≤ _; have := halfK_le 0 xs k; omega
    have HL1 : Hid ((halfK 1 xs k).length ≤ 100000000) := by show _ ≤ _; have := halfK_le 1 xs k; omega
    by_cases hlt : k < xs.length
    · obtain ⟨rfl, q1, q2⟩ := hao (by omega)
      obtain ⟨x, hx⟩ : ∃ x, x = xs.getD k 0 := ⟨_, rfl⟩
      have c1 : wr.cell? ⟨b, off + k, none⟩ = some (.int .i64 x) := by rw [hx]; exact (hB.cell (p := ⟨b, off + k, none⟩) (by show b < _; omega)).trans (HC.out k hlt)
      have HX := Lib.hid hx
      clear hR0 hR1 hB hx hs01 hs10
      rcases Nat.mod_two_eq_zero_or_one k with hm | hm
      · have hmi : (k : Int) % 2 = 0 := by omega
        have HM := Lib.hid hm
        clear hm
        go_wp2_with (at_builtin; refine wpList_app_int2 rfl (.tmp 20) (.tmp 22) rfl wr x w.heap.size wr.heap.size _ (halfK 0 xs k) HR0.out hz HL0.out rfl rfl ?_; intro ao L cap w1 hL o1 b1 z1 kp; have O1 := Lib.hid o1; have KP := Lib.hid (kp _ _ HR1.out HS01.out); clear o1 kp)
        go_roundw
        case rel =>
          have hm := HM.out
          exact ⟨k + 1, by omega, by go_num, by rw [halfK_hit 0 xs k hm, ← HX.out]; exact O1.out, by rw [halfK_miss 1 xs k (by omega)]; exact KP.out.1, KP.out.2, (fun j hj h2 => KP.out.2 j h2 hj), HB.out.trans b1⟩
        case measure => simp [intOf]; omega
      · have hmi : (k : Int) % 2 = 1 := by omega
        have HM := Lib.hid hm
        clear hm
        go_wp2_with (at_builtin; refine wpList_app_int2 rfl (.tmp 24) (.tmp 26) rfl wr x w.heap.size wr.heap.size _ (halfK 1 xs k) HR1.out hz HL1.out rfl rfl ?_; intro ao L cap w1 hL o1 b1 z1 kp; have O1 := Lib.hid o1; have KP := Lib.hid (kp _ _ HR0.out HS10.out); clear o1 kp)
        go_roundw
        case rel =>
          have hm := HM.out
          exact ⟨k + 1, by omega, by go_num, by rw [halfK_miss 0 xs k (by omega)]; exact KP.out.1, by rw [halfK_hit 1 xs k hm, ← HX.out]; exact O1.out, (fun j hj h2 => KP.out.2 j h2 hj), KP.out.2, HB.out.trans b1⟩
        case measure => simp [intOf]; omega
    · have HE : Hid (k = xs.length) := by show k = _; omega
      clear hR0 hR1 hB hs01 hs10
      go_wp2
      go_ret2
      refine ⟨_, _, rfl, ?_, ?_, HB.out⟩
      · have := HR0.out
        rw [HE.out] at this
        exact this
      · have := HR1.out
        rw [HE.out] at this
        exact this
end Go.Proofs.Ytiodolbgapjmkaa
