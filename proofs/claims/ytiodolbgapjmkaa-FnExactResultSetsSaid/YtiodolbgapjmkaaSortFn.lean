/- slices.SortFunc of a list of lists by slices.Compare: what it leaves. Conditions: lengths. -/
import Derived.Test.YtiodolbgapjmkaaCmpL
import Derived.Test.YtiodolbgapjmkaaShelf2
import Derived.Test.YtiodolbgapjmkaaSetsO
namespace Go.Proofs.Ytiodolbgapjmkaa
open Go.RowKit Go.Lib Go.Sort Go.Shelf
set_option maxRecDepth 100000
set_option linter.unusedVariables false
set_option linter.unusedSimpArgs false
theorem sortWorld_block {α : Type} [Inhabited α] (enc : α → Value) (w : World) (blk off m : Nat) (dk : Array α) (os : Array Obj) (k : Nat) (hk : k < w.heap.size) (hne : k ≠ blk) : (sortWorld enc w blk off m dk os).heap[k]? = w.heap[k]? := by
  unfold sortWorld
  rw [heap_grow_old _ _ (by simpa [putRow, mapBlock, Sort.ahead] using hk)]
  simp [putRow, mapBlock, Sort.ahead, Array.getElem?_modify, Ne.symm hne]
theorem sortWorld_size {α : Type} [Inhabited α] (enc : α → Value) (w : World) (blk off m : Nat) (dk : Array α) (os : Array Obj) : w.heap.size ≤ (sortWorld enc w blk off m dk os).heap.size := by
  unfold sortWorld
  rw [size_grow]
  simp [putRow, mapBlock, Sort.ahead]
/-- What the sort leaves: all blocks but the list's own. -/
structure SortL (v : Value) (w w' : World) : Prop where
  os : w'.os = w.os
  tape : w'.tape = w.tape
  output : w'.output = w.output
  size : w.heap.size ≤ w'.heap.size
  block : ∀ k, k < w.heap.size → v.ownBlock ≠ some k → w'.heap[k]? = w.heap[k]?
set_option maxHeartbeats 1000000 in
theorem SortFn_c {w : World} {v : Value} {vs : List Value} {xss : List (List Int)} (hv : Own 22 w 0 w.heap.size v vs) (hl : vs.length = xss.length)
    (hrows : ∀ (i : Nat) (u : Value) (xs : List Int), vs[i]? = some u → xss[i]? = some xs → ∃ l h, IntsV w l h u xs ∧ h ≤ w.heap.size ∧ ∀ k, l ≤ k → k < h → v.ownBlock ≠ some k)
    (hlen : ∀ r ∈ xss, r.length ≤ 100000) (hL : xss.length ≤ 1000000) (hsome : ∃ g, v.ownBlock = some g) :
    Calls Try.prog 195 #[v, .func (.func 196) #[] #[]] w fun e w' => e = .returned (.tuple #[]) ∧ SortL v w w' := by
  have eg : ∀ args w, (callFunc 196 args).run Try.prog w = .ok (.enter 196 args) w := fun args w => by kernel_rfl
  obtain ⟨ao, g, cap, e, hcap, hao, hcell⟩ := hv.view
  rw [hl] at e hcap hao hcell
  obtain ⟨g', hob⟩ := hsome
  have hg' := hv.lt g' hob
  obtain ⟨g, hob, hg, e, hcell⟩ : ∃ g, v.ownBlock = some g ∧ g < w.heap.size ∧ v = .slice (some ⟨g, 0, none⟩) xss.length cap ∧ ∀ i, i < xss.length → w.cell? ⟨g, i, none⟩ = vs[i]? ∧ w.frozen? ⟨g, i, none⟩ = false := by
    rcases Nat.eq_zero_or_pos xss.length with h0 | h0
    · rcases hv.row.2 with ⟨rfl, -⟩ | ⟨g2, cap2, cur, rfl, -⟩
      · simp [Value.ownBlock] at hob
      · have hb : (Value.slice (some ⟨g2, 0, none⟩) vs.length cap2).ownBlock = some g2 := rfl
        refine ⟨g2, rfl, hv.lt g2 hb, ?_, fun i hi => by omega⟩
        injection e with e1 e2 e3
        rw [e2, e3]
    · obtain ⟨rfl, -, hg⟩ := hao h0
      exact ⟨g, by rw [e]; rfl, hg, e, hcell⟩
  let enc : Nat → Value := fun i => vs.getD i (.slice none 0 0)
  let F : Nat → List Int := fun i => xss.getD i []
  have hrow : ∀ i, ∃ l h, IntsV w l h (enc i) (F i) ∧ h ≤ w.heap.size ∧ ∀ k, l ≤ k → k < h → k ≠ g := by
    intro i
    by_cases hi : i < xss.length
    · have hi' : i < vs.length := by rw [hl]; exact hi
      obtain ⟨l, h, q1, q2, q3⟩ := hrows i (enc i) (F i) (by show vs[i]? = some (vs.getD i _); simp [List.getD, List.getElem?_eq_getElem hi']) (by show xss[i]? = some (xss.getD i _); simp [List.getD, List.getElem?_eq_getElem hi])
      exact ⟨l, h, q1, q2, fun k h1 h2 e => q3 k h1 h2 (by rw [hob, e])⟩
    · refine ⟨0, 0, ?_, Nat.zero_le _, fun k _ h => by omega⟩
      have h1 : enc i = .slice none 0 0 := by
        show vs.getD i _ = _
        rw [List.getD_eq_getElem?_getD, List.getElem?_eq_none (by omega)]
        rfl
      have h2 : F i = [] := by
        show xss.getD i _ = _
        rw [List.getD_eq_getElem?_getD, List.getElem?_eq_none (by omega)]
        rfl
      rw [h1, h2]
      exact ⟨none, 0, 0, 0, rfl, Nat.le_refl _, fun h => by omega, fun i hi => by simp at hi⟩
  have hF : ∀ i, (F i).length ≤ 100000 := by
    intro i
    by_cases hi : i < xss.length
    · refine hlen _ ?_
      show xss.getD i _ ∈ xss
      rw [List.getD_eq_getElem?_getD, List.getElem?_eq_getElem hi]
      exact List.getElem_mem hi
    · show (xss.getD i []).length ≤ _
      rw [List.getD_eq_getElem?_getD, List.getElem?_eq_none (by omega)]
      simp
  have h1 : OneCell enc := fun i => by
    obtain ⟨l, h, q, -⟩ := hrow i
    exact q.one
  have hsz : (Array.range xss.length).size = xss.length := by simp
  have hcmp : CmpLays1 Try.prog 196 #[] enc (fun i j => cmpL (F i) (F j)) g 0 (Array.range xss.length).size w := by
    intro m os dk hs x y
    have keep : ∀ i, ∃ l h, IntsV (sortWorld enc w g 0 m dk os) l h (enc i) (F i) := by
      intro i
      obtain ⟨l, h, ⟨a, b, o, c, q1, q2, q3, q4⟩, q5, q6⟩ := hrow i
      refine ⟨l, h, a, b, o, c, q1, q2, q3, fun j hj => ?_⟩
      obtain ⟨-, r1, r2⟩ := q3 (by omega)
      exact (World.cell?_of_block (w := w) (sortWorld_block enc w g 0 m dk os b (by omega) (q6 b r1 r2))).trans (q4 j hj)
    obtain ⟨l, h, qx⟩ := keep x
    obtain ⟨l2, h2, qy⟩ := keep y
    refine (Compare_c l h l2 h2 (enc x) (enc y) (F x) (F y) _ qx qy (hF x) (hF y)).mono ?_
    rintro e w' ⟨rfl, rfl⟩
    exact ⟨rfl, 0, #[], by rw [grow_empty]; rfl⟩
  have hH : Holds enc w g 0 (Array.range xss.length) := by
    intro j hj
    have hj' : j < xss.length := by simpa using hj
    obtain ⟨q1, q2⟩ := hcell j hj'
    rw [show 0 + j = j by omega]
    refine ⟨q1.trans ?_, q2⟩
    have hjv : j < vs.length := by omega
    rw [List.getElem?_eq_getElem hjv]
    show some vs[j] = some (vs.getD ((Array.range xss.length)[j]!) _)
    simp [hj', List.getD, List.getElem?_eq_getElem hjv]
  have hcon := Any.slices_SortFunc Try.sortFn enc h1 (fun i j => cmpL (F i) (F j)) (swoL F) 196 #[] g 0 cap (Array.range xss.length) w eg hcmp hH hg (by rw [hsz]; omega)
  change Calls Try.prog 195 _ _ _ at hcon
  rw [hsz, ← e] at hcon
  refine hcon.mono ?_
  rintro e' w' ⟨rfl, d', n, os, -, -, rfl⟩
  exact ⟨rfl, rfl, rfl, rfl, sortWorld_size _ _ _ _ _ _ _, fun k hk hne => sortWorld_block _ _ _ _ _ _ _ k hk (fun e => hne (by rw [hob, e]))⟩
end Go.Proofs.Ytiodolbgapjmkaa
