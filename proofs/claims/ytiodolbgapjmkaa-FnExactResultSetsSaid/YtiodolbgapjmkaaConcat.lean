/- The library's Grow of nothing and Concat of two lists of ints, by their contracts. Conditions: lists are short. -/
import Derived.Test.YtiodolbgapjmkaaInts
import Derived.Test.YtiodolbgapjmkaaSmall
namespace Go.Proofs.Ytiodolbgapjmkaa
open Go.RowKit
set_option maxRecDepth 100000

/-- 'append(nil, make([]int, n)...)'. -/
theorem wpList_app_zeros {ops : Array Oper} {rest : List Oper} {o : Oper} {a : Act} {Q : Exit → Act → World → Prop} (hgd : o.guard = none) (s x : Operand)
    (ho : o.op = .call { callee := .builtin .append, args := #[s, x], argTypes := #[22, 3] }) (w : World) (n : Nat) (h0 : 0 < n) (hn : n ≤ 100000)
    (hs : a.eval s = .slice none 0 0) (hx : a.eval x = .int .i64 n)
    (h : ∀ C W', n ≤ C → OwnI W' w.heap.size W'.heap.size (.slice (some ⟨w.heap.size, 0, none⟩) 0 C) [] → Below w.heap.size w W' → wpList Try.prog ops Q rest (a.put o.dst (.slice (some ⟨w.heap.size, 0, none⟩) n C)) W') :
    wpList Try.prog ops Q (o :: rest) a w := by
  obtain ⟨i0, hi0, hz0, hz1, hz2⟩ := info_parts Try.infoI
  have hr := Lib.run_append_grow_zeros (P := Try.prog) w 22 3 o.type 3 i0 (.int .i64 0) .i64 .i64 Try.underlying22 Try.underlying3 hi0 hz0 none 0 0 [] (by simp [Builtin.firstCells]) n (by omega) (by omega) (by omega) (by omega) (by rw [hz2]; omega) (by rw [hz2]; have := growslice_fits (need := 0 + n) (old := 0) (bytes := 8) (by omega) (by omega); exact this)
  obtain ⟨C, hC⟩ : ∃ C, C = grownCap w (0 + n) 0 3 := ⟨_, rfl⟩
  have hge : 0 + n ≤ C := by rw [hC]; exact grownCap_ge w (0 + n) 0 3
  have hle : C ≤ maxLen := by rw [hC]; exact grownCap_le_maxLen w (0 + n) 0 3 (by unfold maxLen; omega)
  rw [← hC] at hr
  obtain ⟨cs, hcs⟩ : ∃ cs, cs = (([] : List Value).toArray ++ Builtin.zeroCells (Value.int .i64 0).cells n ++ Builtin.zeroCells (Value.int .i64 0).cells (C - (0 + n))) := ⟨_, rfl⟩
  have hsz : cs.size = C := by rw [hcs]; simp [Builtin.zeroCells, Value.cells]; omega
  rw [← hcs] at hr
  simp only [Nat.zero_add] at hr hge
  have hblk := blk_new w.drew (.cells cs 3)
  refine wpList_plain hgd fun K hK => ?_
  have hfin := hK _ _ (h C (w.drew.alloc (.cells cs 3)) hge ⟨⟨rfl, .inr ⟨w.heap.size, C, cs, rfl, Nat.le_refl _, hblk, Nat.zero_le _, hle, by omega, rfl⟩⟩, fun k hk => by simp [Value.ownBlock] at hk; simp; omega⟩ ((Below.refl _ _).drew.alloc (Nat.le_refl _) _))
  unfold Oper.wp
  simp [execOp, ho, resolve, invoke, builtin, hs, hx, hr, Result.andThen]
  exact hfin

theorem Grow_c (n : Nat) (w : World) (hn : n ≤ 100000) : Calls Try.prog 169 #[.slice none 0 0, .int .i64 n] w (IntC w []) := by
  by_cases h0 : n = 0
  · subst h0
    go_enter Try.func169, Try.ntmps169
    go_wp2
    go_ret
    exact ⟨_, rfl, Own.nil _ _ _ _, Below.refl _ _⟩
  · have hpos : 0 < n := by omega
    go_enter Try.func169, Try.ntmps169
    go_wp2_with (at_builtin; refine wpList_app_zeros rfl (.tmp 20) (.tmp 21) rfl w n hpos hn rfl rfl ?_; intro C W' hC o1 b1; have O1 := Lib.hid o1; clear o1)
    go_ret
    exact ⟨_, rfl, O1.out, b1⟩

/-- Two lists of ints, one behind the other. -/
theorem Concat_c (lo hi : Nat) (b : Nat) (s0 s1 : Value) (xs ys : List Int) (w : World) (hx : IntsV w lo hi s0 xs) (hy : IntsV w lo hi s1 ys) (hh : hi ≤ w.heap.size) (hbs : b < w.heap.size)
    (c0 : w.cell? ⟨b, 0, none⟩ = some s0) (c1 : w.cell? ⟨b, 1, none⟩ = some s1) (hl : xs.length ≤ 1000) (hl2 : ys.length ≤ 1000) :
    Calls Try.prog 85 #[.slice (some ⟨b, 0, none⟩) 2 2] w (IntC w (xs ++ ys)) := by
  have hlen : ∀ k, k < 2 → ∃ ao n cap, (if k = 0 then s0 else s1) = .slice ao n cap ∧ n = (if k = 0 then xs else ys).length := by
    intro k hk
    by_cases e : k = 0
    · obtain ⟨ao, b', off, cap, e2, -⟩ := hx
      exact ⟨ao, _, cap, by rw [if_pos e, e2], by rw [if_pos e]⟩
    · obtain ⟨ao, b', off, cap, e2, -⟩ := hy
      exact ⟨ao, _, cap, by rw [if_neg e, e2], by rw [if_neg e]⟩
  have hcel : ∀ k, k < 2 → w.cell? ⟨b, k, none⟩ = some (if k = 0 then s0 else s1) := by
    intro k hk
    rcases (by omega : k = 0 ∨ k = 1) with rfl | rfl
    · exact c0
    · exact c1
  have HX := Lib.hid hx
  have HY := Lib.hid hy
  have HLEN := Lib.hid hlen
  have HCEL := Lib.hid hcel
  clear hx hy hlen hcel c0 c1
  go_enter Try.func85, Try.ntmps85
  go_wp2
  go_loopw [3, 11] (fun s i wr => ∃ k m : Nat, k ≤ 2 ∧ i = .int .i64 k ∧ s = .int .i64 m ∧ m ≤ 1000 * k ∧ Below w.heap.size w wr ∧ wr.heap.size = w.heap.size) (fun _ i _ => 2 - (intOf i).toNat)
  case atStart => exact ⟨0, 0, by omega, rfl, rfl, by omega, Below.refl _ _, rfl⟩
  case round =>
    obtain ⟨k, m, hk, rfl, rfl, hm, hb, hsz⟩ := hrel
    by_cases hlt : k < 2
    · obtain ⟨ao, n, cap, e, hn⟩ := HLEN.out k hlt
      have c2 := (hb.cell (p := ⟨b, k, none⟩) hbs).trans (HCEL.out k hlt)
      rw [e] at c2
      have hn1 : n ≤ 1000 := by rw [hn]; split <;> assumption
      have HSZ := Lib.hid hsz
      clear e hn hsz
      go_wp2
      go_roundw
      case rel => exact ⟨k + 1, m + n, by omega, by go_num, by go_num, by omega, hb, HSZ.out⟩
      case measure => simp [intOf]; omega
    · have hm2 : m ≤ 100000 := by omega
      have HSZ := Lib.hid hsz
      clear hsz
      go_wp2_with fail
      refine (Grow_c m wr hm2).mono ?_
      rintro e w1 ⟨v, rfl, o1, b1⟩
      have O1 : Hid (OwnI w1 w.heap.size w1.heap.size v []) := by show OwnI _ _ _ _ _; have := HSZ.out; exact Own.mono o1 (by omega) (Nat.le_refl _)
      have B1 : Hid (Below w.heap.size w w1) := hb.trans (b1.mono (by have := HSZ.out; omega))
      clear o1
      go_wp2
      go_loopw [6, 27] (fun v i wr => ∃ k : Nat, k ≤ 2 ∧ i = .int .i64 k ∧ Hid (OwnI wr w.heap.size wr.heap.size v (if k = 0 then [] else if k = 1 then xs else xs ++ ys)) ∧ Below w.heap.size w wr) (fun _ i _ => 2 - (intOf i).toNat)
      case atStart => exact ⟨0, by omega, rfl, O1.out, B1.out⟩
      case round =>
        obtain ⟨k, hk, rfl, HO, hb⟩ := hrel
        have hz := hb.size
        by_cases hlt : k < 2
        · have c2 := (hb.cell (p := ⟨b, k, none⟩) hbs).trans (HCEL.out k hlt)
          have HB := Lib.hid hb
          rcases (by omega : k = 0 ∨ k = 1) with rfl | rfl
          · replace c2 : wr.cell? ⟨b, 0, none⟩ = some s0 := c2
            have hs : IntsV wr lo hi s0 xs := HX.out.below hb hh
            have HS := Lib.hid hs
            have HL : Hid (([] : List Int).length + xs.length ≤ 1000000000) := by show _ ≤ _; simp; omega
            clear hs hb
            go_wp2_with (at_builtin; refine wpList_app_ints rfl (.tmp 31) (.tmp 32) rfl wr w.heap.size wr.heap.size lo hi _ s0 [] xs HO.out HS.out hz HL.out rfl rfl ?_; intro ao L cap w2 hL o2 b2 z2; have O2 := Lib.hid o2; clear o2)
            go_roundw
            case rel => exact ⟨1, by omega, by go_num, O2.out, HB.out.trans b2⟩
            case measure => simp [intOf]
          · replace c2 : wr.cell? ⟨b, 1, none⟩ = some s1 := c2
            have hs : IntsV wr lo hi s1 ys := HY.out.below hb hh
            have HS := Lib.hid hs
            have HL : Hid (xs.length + ys.length ≤ 1000000000) := by show _ ≤ _; omega
            clear hs hb
            go_wp2_with (at_builtin; refine wpList_app_ints rfl (.tmp 31) (.tmp 32) rfl wr w.heap.size wr.heap.size lo hi _ s1 xs ys HO.out HS.out hz HL.out rfl rfl ?_; intro ao L cap w2 hL o2 b2 z2; have O2 := Lib.hid o2; clear o2)
            go_roundw
            case rel => exact ⟨2, by omega, by go_num, O2.out, HB.out.trans b2⟩
            case measure => simp [intOf]
        · obtain rfl : k = 2 := by omega
          go_wp2
          go_ret
          exact ⟨_, rfl, HO.out, hb⟩
end Go.Proofs.Ytiodolbgapjmkaa
