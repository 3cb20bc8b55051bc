/-
  slices.Insert of one way into a slice of the call's own. Conditions: the place is in bounds, bounds on the length, the way lies in another block.
-/
import Derived.Test.YtcehdpeeaogpiaaCopyN
import Derived.Test.YtcehdpeeaogpiaaHeapY
import Derived.Test.YtcehdpeeaogpiaaPushAll
import Derived.Shelf.Spec.SlicesInsert
import Derived.Lib.Overlaps
import Derived.Lib.AppendZerosOnto
import Derived.LoopTactic
import Derived.Deep.RegionLaw
import Derived.WalkSpells
import Derived.WalkLawsBesides
namespace Go.Proofs.Ytcehdpeeaogpiaa
open Go.RowKit
set_option linter.unusedSimpArgs false
set_option linter.unusedVariables false
theorem size_way : (Try.prog.info? 36).map (·.size) = some 2 := by kernel_rfl
theorem sizeOf_way (w : World) : (Go.sizeOf 36).run Try.prog w = .ok 2 w := by kernel_rfl
/-- the slice v, one more in place i -/
def InsertedY (base : Nat) (w : World) (v : Value) (n : Nat) (xs : List Yv) (e : Ending) (w' : World) : Prop :=
  ∃ g c, e = .returned (.slice (some ⟨g, 0, none⟩) (n + 1) c) ∧ Own encY 2 36 w' base (.slice (some ⟨g, 0, none⟩) (n + 1) c) xs ∧ Keep (fun k => v.ownBlock = some k) w w'
theorem insY_cells {xs : List Yv} {i n c : Nat} {cur : List Value} (hn : xs.length = n) (hi : i < n) (hc : n + 1 ≤ c) (hl : cur.length = c * 2) (ht : cur.take (n * 2) = xs.flatMap encY) (p : Yv) :
    (splice (splice cur ((i + 1) * 2) ((xs.drop i).flatMap encY)) (i * 2) (encY p)).length = c * 2 ∧ (splice (splice cur ((i + 1) * 2) ((xs.drop i).flatMap encY)) (i * 2) (encY p)).take ((n + 1) * 2) = (xs.take i ++ p :: xs.drop i).flatMap encY := by
  have hA : ((xs.take i).flatMap encY).length = i * 2 := by rw [flat_len lenY, List.length_take]; omega
  have hB : ((xs.drop i).flatMap encY).length = (n - i) * 2 := by rw [flat_len lenY, List.length_drop, hn]
  have hX : cur = (xs.take i).flatMap encY ++ (xs.drop i).flatMap encY ++ cur.drop (n * 2) := by
    rw [← List.flatMap_append, List.take_append_drop, ← ht, List.take_append_drop]
  have h := splice_two hX hA (encY p) (lenY p) (by rw [List.length_drop]; omega)
  rw [show i * 2 + 2 = (i + 1) * 2 by omega] at h
  rw [h]
  constructor
  · simp only [List.length_append, hA, hB, lenY, List.length_drop]; omega
  · rw [List.take_append_of_le_length (by simp only [List.length_append, hA, hB, lenY]; omega), List.take_of_length_le (by simp only [List.length_append, hA, hB, lenY]; omega)]
    simp [encY]
theorem encY_ones (xs : List Yv) : ∀ u ∈ xs.flatMap encY, u.oneCell' = true := by
  intro u hu
  obtain ⟨y, _, hy⟩ := List.mem_flatMap.1 hu
  exact oneY y u hy
theorem newY2 {w : World} {vb : Nat} {p : Yv} {tv : TypeId} (h : w.heap[vb]? = some (.cells #[.slice p.a p.n p.c, .int .i64 p.k] tv (0, 0))) : ∀ j u, (encY p)[j]? = some u → w.cell? ((⟨vb, 0, none⟩ : Addr).add j) = some u := by
  intro j u hj
  match j, hj with
  | 0, hj => simp [encY] at hj; subst hj; simp [Addr.add, World.cell?, h]
  | 1, hj => simp [encY] at hj; subst hj; simp [WideShapes.add_plain, World.cell?, h]
set_option maxHeartbeats 400000 in
set_option maxRecDepth 100000 in
theorem insY_shift (base g n c i vb : Nat) (xs : List Yv) (p : Yv) (tv : TypeId) (w : World) (own : Own encY 2 36 w base (.slice (some ⟨g, 0, none⟩) n c) xs) (hi : i < n) (hc : n + 1 ≤ c)
    (hv : w.heap[vb]? = some (.cells #[.slice p.a p.n p.c, .int .i64 p.k] tv (0, 0))) (hvb : vb ≠ g) :
    Calls Try.prog 157 #[.slice (some ⟨g, 0, none⟩) n c, .int .i64 i, .slice (some ⟨vb, 0, none⟩) 1 1] w (InsertedY base w (.slice (some ⟨g, 0, none⟩) n c) n (xs.take i ++ p :: xs.drop i)) := by
  obtain ⟨cur, hbg, hn, hg, _, hcm, hcl, hct⟩ := own.block
  obtain ⟨hl2, ht2⟩ := insY_cells hn hi hc hcl hct p
  have hB : ((xs.drop i).flatMap encY).length = (n - i) * 2 := by rw [flat_len lenY, List.length_drop, hn]
  have hsrc : ∀ j v, ((xs.drop i).flatMap encY)[j]? = some v → w.cell? ((⟨g, i * 2, none⟩ : Addr).add j) = some v := by
    intro j v hj
    rw [flat_drop lenY, List.getElem?_drop, ← hct, List.getElem?_take] at hj
    split at hj
    · simp [World.cell?, WideShapes.add_plain, hg, hj]
    · simp at hj
  have hcm2 := hide hcm
  unfold maxLen at hcm
  have hov : ∀ lb cb, (callFunc 204 #[.slice (some ⟨vb, 0, none⟩) 1 1, .slice (some ⟨g, (i + 1) * 2, none⟩) lb cb]).run Try.prog w = .ok (.value (.bool false)) w := fun lb cb => by
    rw [run_callFunc_extern Try.func204 (by kernel_rfl) (by kernel_rfl) (by kernel_rfl) (e := Extern.SlicesOverlaps.overlaps #[117, 117] #[4]) (by kernel_rfl),
      Lib.run_overlaps_apart w 117 4 36 Try.underlying117 2 sizeOf_way ⟨vb, 0, none⟩ ⟨g, (i + 1) * 2, none⟩ 1 1 lb cb hvb tv 36 2 (c * 2) (by simp [World.shape?, hv]) (by simp [World.shape?, hg, hcl]) (by omega) (by simp [World.frozen?, hv]) (by simp [World.frozen?, hv])]
    rfl
  have hz2 : ¬ ((i : Int) = (n : Int)) := by omega
  have hz3 : ((i : Int) == (n : Int)) = false := by simp; omega
  have hw1 : IntKind.i64.wrap ((i : Int) + 1) = (i : Int) + 1 := by rw [IntKind.wrap_i64]; omega
  have hw2 : (0 : Int) ≤ (i : Int) + 1 := by omega
  have hw3 : (i : Int) + 1 ≤ (n : Int) + 1 := by omega
  have hw4 : ((i : Int) + 1).toNat = i + 1 := by omega
  have hw5 : ¬ (c = i + 1) := by omega
  have hw6 : ¬ (c = i) := by omega
  have hw7 : (i : Int) ≤ (n : Int) + 1 := by omega
  replace hov := hide hov
  replace hsrc := hide hsrc
  replace hl2 := hide hl2
  replace ht2 := hide ht2
  replace hB := hide hB
  replace hct := hide hct
  replace hcl := hide hcl
  replace hn := hide hn
  replace hg := hide hg
  replace hv := hide hv
  clear own
  go_enter Try.func157, Try.ntmps157
  go_wp2_with (simp only [hov.out])
  go_region_law (refine step_copy_K rfl (.tmp 73) (.tmp 76) 117 117 rfl 36 2 Try.underlying117 size_way g ((i + 1) * 2) (n - i) (c - (i + 1)) ⟨g, i * 2, none⟩ (n + 1 - i) (c - i) (n - i) ?d3 ?d4 ?d1 cur 36 hg.out ((xs.drop i).flatMap encY) hB.out hsrc.out ?d2 (encY_ones _) ?_; (case d3 => simp [Act.eval, Act.put]); (case d4 => simp [Act.eval, Act.put]); (case d1 => simp only [Nat.min_def]; split <;> omega); (case d2 => rw [hB.out, hcl.out]; omega); intro w1 hg1 hk1)
  all_goals
    have hv1 := (hk1.block vb (Array.getElem?_eq_some_iff.1 hv.out).1 hvb).trans hv.out
    replace hv1 := hide hv1
    replace hk1 := hide hk1
    go_wp2_with (refine wpList_copy_K rfl (.tmp 80) (.tmp 81) 117 117 rfl 36 2 Try.underlying117 size_way g (i * 2) (n + 1 - i) (c - i) ⟨vb, 0, none⟩ 1 1 1 rfl rfl ?e1 _ 36 hg1.out (encY p) ?e2 ?e3 ?e4 (oneY p) ?_; (case e1 => simp only [Nat.min_def]; split <;> omega); (case e2 => rfl); (case e3 => exact newY2 hv1.out); (case e4 => rw [lenY, length_splice _ _ _ (by rw [hB.out, hcl.out]; omega), hcl.out]; omega); intro w2 hg2 hk2; replace hk2 := hide hk2)
    go_ret
    exact ⟨g, c, rfl, Own.ofBlock lenY hbg (by have := hn.out; simp; omega) hg2.out hc hcm2.out hl2.out ht2.out, ((((Keep.refl (fun k => k = g) w).drew).trans hk1.out).trans hk2.out).mono (fun k _ h => by simp [Value.ownBlock, h])⟩
theorem own_capY (a0 : Option Addr) (n c m d : Nat) : (Value.slice a0 n c).ownBlock = (Value.slice a0 m d).ownBlock := by cases a0 <;> rfl
set_option maxHeartbeats 400000 in
set_option maxRecDepth 100000 in
theorem insY_end (base n c vb : Nat) (a0 : Option Addr) (xs : List Yv) (p : Yv) (tv : TypeId) (w : World) (own : Own encY 2 36 w base (.slice a0 n c) xs) (hb : base ≤ w.heap.size) (hn : n ≤ 1000000)
    (hv : w.heap[vb]? = some (.cells #[.slice p.a p.n p.c, .int .i64 p.k] tv (0, 0))) :
    Calls Try.prog 157 #[.slice a0 n c, .int .i64 n, .slice (some ⟨vb, 0, none⟩) 1 1] w (InsertedY base w (.slice a0 n c) n (xs ++ [p])) := by
  have hl : xs.length = n := by
    rcases own.form with ⟨h1, h2⟩ | ⟨g, cap, h1, _⟩
    · simp only [Value.slice.injEq] at h1; subst h2; exact h1.2.1.symm
    · simp only [Value.slice.injEq] at h1; exact h1.2.1.symm
  have hcm : c ≤ 9223372036854775807 := by
    rcases own.form with ⟨h1, h2⟩ | ⟨g, cap, h1, _, _, _, h5⟩
    · simp only [Value.slice.injEq] at h1; omega
    · simp only [Value.slice.injEq] at h1; unfold maxLen at h5; omega
  have hrow : Row encY 2 w w.heap.size (some ⟨vb, 0, none⟩) [p] := by
    intro i hi
    obtain rfl : i = 0 := by simp at hi; omega
    refine ⟨vb, 0, rfl, (Array.getElem?_eq_some_iff.1 hv).1, fun j u hu => ?_⟩
    have := newY2 hv j u hu
    rw [WideShapes.add_plain] at this
    simpa using this
  have hoo := hide own
  replace hl := hide hl
  replace hrow := hide hrow
  clear own
  go_enter Try.func157, Try.ntmps157
  go_wp2_with (at_builtin; (refine wpList_pushAll rfl (.tmp 23) (.tmp 24) 117 rfl _ 32 Try.underlying117 info_way rfl ?d1 lenY oneY n ?d2 rfl hoo.out w.heap.size (some ⟨vb, 0, none⟩) 1 1 [p] rfl rfl ?d3 hrow.out ?d4 ?d5 ?d6 ?_); (case d1 => omega); (case d2 => exact hl.out); (case d3 => intro h; cases h); (case d4 => omega); (case d5 => unfold maxLen; omega); (case d6 => omega); intro a2 c2 w2 own2 hb2 hg2; have hg2 : w.grownBy w2 (Value.slice a0 n c).ownBlock := hg2; replace own2 := hide own2; replace hb2 := hide hb2; replace hg2 := hide hg2)
  all_goals
    go_ret
    obtain ⟨g, rfl⟩ : ∃ g, a2 = some ⟨g, 0, none⟩ := by
      rcases own2.out.form with ⟨h1, h2⟩ | ⟨g, cap, h1, _⟩
      · simp at h2
      · simp only [Value.slice.injEq] at h1; exact ⟨g, h1.1⟩
    exact ⟨g, c2, rfl, own2.out, (Keep.refl _ w).grown hg2.out (fun k hk => .inl ((own_capY a0 _ _ _ _).trans hk))⟩
theorem insY_cells2 {xs : List Yv} {i n c : Nat} {R : List Value} (hn : xs.length = n) (hi : i < n) (hc : n + 1 ≤ c) (hl : R.length = c * 2) (ht : R.take (i * 2) = (xs.take i).flatMap encY) (p : Yv) :
    (splice (splice R (i * 2) (encY p)) ((i + 1) * 2) ((xs.drop i).flatMap encY)).length = c * 2 ∧ (splice (splice R (i * 2) (encY p)) ((i + 1) * 2) ((xs.drop i).flatMap encY)).take ((n + 1) * 2) = (xs.take i ++ p :: xs.drop i).flatMap encY := by
  have hA : ((xs.take i).flatMap encY).length = i * 2 := by rw [flat_len lenY, List.length_take]; omega
  have hB : ((xs.drop i).flatMap encY).length = (n - i) * 2 := by rw [flat_len lenY, List.length_drop, hn]
  have h1 : splice R (i * 2) (encY p) = (xs.take i).flatMap encY ++ encY p ++ R.drop ((i + 1) * 2) := by
    unfold splice
    rw [ht, lenY, show i * 2 + 2 = (i + 1) * 2 by omega]
    simp
  have hAp : ((xs.take i).flatMap encY ++ encY p).length = (i + 1) * 2 := by rw [List.length_append, hA, lenY]; omega
  have h2 : splice (splice R (i * 2) (encY p)) ((i + 1) * 2) ((xs.drop i).flatMap encY) = (xs.take i).flatMap encY ++ encY p ++ (xs.drop i).flatMap encY ++ R.drop ((n + 1) * 2) := by
    rw [h1]
    unfold splice
    rw [List.take_append_of_le_length (by omega), List.take_of_length_le (by omega), hB, ← List.drop_drop, List.drop_left' hAp, List.drop_drop, show (i + 1) * 2 + (n - i) * 2 = (n + 1) * 2 by omega]
    simp
  rw [h2]
  constructor
  · simp only [List.length_append, hA, hB, lenY, List.length_drop, hl]; omega
  · rw [List.take_append_of_le_length (by simp only [List.length_append, hA, hB, lenY]; omega), List.take_of_length_le (by simp only [List.length_append, hA, hB, lenY]; omega)]
    simp [encY]
set_option maxHeartbeats 400000 in
set_option maxRecDepth 100000 in
theorem insY_grow (base g n c i vb : Nat) (xs : List Yv) (p : Yv) (tv : TypeId) (w : World) (own : Own encY 2 36 w base (.slice (some ⟨g, 0, none⟩) n c) xs) (hi : i < n) (hc : c < n + 1) (hn1 : n ≤ 1000000)
    (hv : w.heap[vb]? = some (.cells #[.slice p.a p.n p.c, .int .i64 p.k] tv (0, 0))) (hvb : vb ≠ g) :
    Calls Try.prog 157 #[.slice (some ⟨g, 0, none⟩) n c, .int .i64 i, .slice (some ⟨vb, 0, none⟩) 1 1] w (InsertedY base w (.slice (some ⟨g, 0, none⟩) n c) n (xs.take i ++ p :: xs.drop i)) := by
  obtain ⟨cur, hbg, hn, hg, hnc, hcm, hcl, hct⟩ := own.block
  obtain rfl : c = n := by omega
  obtain ⟨i0, hi0, hz0, hzs, hzb⟩ := info_parts info_way
  have hB : ((xs.drop i).flatMap encY).length = (c - i) * 2 := by rw [flat_len lenY, List.length_drop, hn]
  have hgl : g < w.heap.size := (Array.getElem?_eq_some_iff.1 hg).1
  have hvl : vb < w.heap.size := (Array.getElem?_eq_some_iff.1 hv).1
  have hsrc : ∀ j v, ((xs.drop i).flatMap encY)[j]? = some v → w.cell? ((⟨g, i * 2, none⟩ : Addr).add j) = some v := by
    intro j v hj
    rw [flat_drop lenY, List.getElem?_drop, ← hct, List.getElem?_take] at hj
    split at hj
    · simp [World.cell?, WideShapes.add_plain, hg, hj]
    · simp at hj
  have hold : (Builtin.firstCells i0.size i (.slice (some ⟨g, 0, none⟩) i c)).run Try.prog w.drew = .ok ((xs.take i).flatMap encY).toArray w.drew := by
    rw [hzs]
    refine run_firstCells_some w.drew 2 i ⟨g, 0, none⟩ i c _ (by rw [flat_len lenY, List.length_take]; omega) (fun j v hj => ?_)
    rw [flat_take lenY, ← hct, List.getElem?_take] at hj
    split at hj
    · rw [List.getElem?_take] at hj
      split at hj
      · show w.cell? _ = some v
        simp [World.cell?, WideShapes.add_plain, hg, hj]
      · simp at hj
    · simp at hj
  obtain ⟨G, hG⟩ : ∃ G, G = grownCap w (c + 1) c 36 := ⟨_, rfl⟩
  obtain ⟨R, hR⟩ : ∃ R : Array Value, R = ((xs.take i).flatMap encY).toArray ++ Builtin.zeroCells (Value.agg #[.slice none 0 0, .int .i64 0]).cells (c + 1 - i) ++ Builtin.zeroCells (Value.agg #[.slice none 0 0, .int .i64 0]).cells (G - (c + 1)) := ⟨_, rfl⟩
  have hkk : (c : Int) + 1 - (i : Int) = ((c + 1 - i : Nat) : Int) := by omega
  have hrz : ∀ ty, (Builtin.append_ #[117, 3] ty #[.slice (some ⟨g, 0, none⟩) i c, .int .i64 ((c : Int) + 1 - (i : Int))]).run Try.prog w = .ok (.slice (some ⟨w.heap.size, 0, none⟩) (c + 1) G) (w.drew.alloc (.cells R 36)) := fun ty => by
    have h := Lib.run_append_grow_zeros w 117 3 ty 36 i0 _ .i64 .i64 Try.underlying117 Try.underlying3 hi0 hz0 (some ⟨g, 0, none⟩) i c _ hold (c + 1 - i) (by omega) (by omega) (by omega) (by omega) (by rw [hzb]; omega) (by rw [hzb, show i + (c + 1 - i) = c + 1 by omega]; exact growslice_fits (by omega) (by omega))
    rw [show i + (c + 1 - i) = c + 1 by omega, ← hG, ← hR] at h
    rw [hkk]
    exact h
  have hG1 : c + 1 ≤ G := by rw [hG]; exact grownCap_ge w _ _ _
  have hG2 : G ≤ maxLen := by rw [hG]; exact grownCap_le_maxLen w (c + 1) c _ (by unfold maxLen; omega)
  have hA : ((xs.take i).flatMap encY).length = i * 2 := by rw [flat_len lenY, List.length_take]; omega
  have hRl : R.toList.length = G * 2 := by
    rw [hR]
    simp only [Array.toList_append, List.length_append, hA]
    simp [Builtin.zeroCells, Value.cells]
    omega
  have hRt : R.toList.take (i * 2) = (xs.take i).flatMap encY := by
    rw [hR]
    simp only [Array.toList_append, List.append_assoc]
    rw [List.take_append_of_le_length (by omega), List.take_of_length_le (by omega)]
  obtain ⟨hl2, ht2⟩ := insY_cells2 hn hi hG1 hRl hRt p
  obtain ⟨W1, hW1⟩ : ∃ W1, W1 = w.drew.alloc (.cells R 36) := ⟨_, rfl⟩
  rw [← hW1] at hrz
  have hg1 : W1.heap[w.heap.size]? = some (.cells R.toList.toArray 36 (0, 0)) := by
    rw [hW1]
    show (w.heap.push _)[w.heap.size]? = _
    simp
  have hk1 : Keep (fun _ => False) w W1 := by rw [hW1]; exact ((Keep.refl _ w).drew).alloc _
  clear hW1 hold hR hA hRt hG hkk
  have hz2 : ¬ ((i : Int) = (c : Int)) := by omega
  have hz3 : ((i : Int) == (c : Int)) = false := by simp; omega
  have hz4 : (c : Int) < (c : Int) + 1 := by omega
  have hw1 : IntKind.i64.wrap ((i : Int) + 1) = (i : Int) + 1 := by rw [IntKind.wrap_i64]; omega
  have hw2 : (0 : Int) ≤ (i : Int) + 1 := by omega
  have hw3 : (i : Int) + 1 ≤ (c : Int) + 1 := by omega
  have hw4 : ((i : Int) + 1).toNat = i + 1 := by omega
  have hw5 : ¬ (G = i + 1) := by omega
  have hw6 : ¬ (G = i) := by omega
  have hw7 : (i : Int) ≤ (c : Int) + 1 := by omega
  have hw8 : ¬ (c = i) := by omega
  have hw9 : (i : Int) ≤ (c : Int) := by omega
  have hv1 := (hk1.block vb hvl (fun h => h)).trans hv
  have hgx := (hk1.block g hgl (fun h => h)).trans hg
  have hsrc1 : ∀ j v, ((xs.drop i).flatMap encY)[j]? = some v → W1.cell? ((⟨g, i * 2, none⟩ : Addr).add j) = some v := fun j v hj => by
    have := hsrc j v hj
    rw [WideShapes.add_plain] at this ⊢
    exact hk1.cu this (fun h => h)
  have hz : w.heap.size < W1.heap.size := (Array.getElem?_eq_some_iff.1 hg1).1
  have hG3 : G ≤ 9223372036854775807 := by unfold maxLen at hG2; exact hG2
  replace hsrc1 := hide hsrc1
  replace hG2 := hide hG2
  replace hrz := hide hrz
  replace hl2 := hide hl2
  replace ht2 := hide ht2
  replace hB := hide hB
  replace hn := hide hn
  replace hg1 := hide hg1
  replace hv1 := hide hv1
  replace hk1 := hide hk1
  replace hRl := hide hRl
  clear own hsrc hct hcl hgx hg hv hi0 hz0 hzs hzb hcm
  go_enter Try.func157, Try.ntmps157
  go_wp2_with (first
    | (at_builtin; refine Lib.wpList_append_run _ rfl (.tmp 34) (.tmp 39) 117 3 rfl _ _ rfl rfl _ _ (hrz.out _) ?_)
    | (refine wpList_copy_K rfl (.tmp 43) (.tmp 44) 117 117 rfl 36 2 Try.underlying117 size_way w.heap.size (i * 2) (c + 1 - i) (G - i) ⟨vb, 0, none⟩ 1 1 1 rfl rfl ?e1 _ 36 hg1.out (encY p) ?e2 ?e3 ?e4 (oneY p) ?_; (case e1 => simp only [Nat.min_def]; split <;> omega); (case e2 => rfl); (case e3 => exact newY2 hv1.out); (case e4 => rw [lenY, hRl.out]; omega); intro w2 hg2 hk2; replace hk2 := hide hk2))
  have hsrc2 : ∀ j v, ((xs.drop i).flatMap encY)[j]? = some v → w2.drew.cell? ((⟨g, i * 2, none⟩ : Addr).add j) = some v := fun j v hj => by
    have := hsrc1.out j v hj
    rw [WideShapes.add_plain] at this ⊢
    exact cu_drew (hk2.out.cu this (by simp; omega))
  replace hsrc2 := hide hsrc2
  go_region_law (refine step_copy_K rfl (.tmp 50) (.tmp 53) 117 117 rfl 36 2 Try.underlying117 size_way w.heap.size ((i + 1) * 2) (c - i) (G - (i + 1)) ⟨g, i * 2, none⟩ (c - i) (c - i) (c - i) ?d3 ?d4 ?d1 _ 36 hg2.out ((xs.drop i).flatMap encY) hB.out hsrc2.out ?d2 (encY_ones _) ?_; (case d3 => simp [Act.eval, Act.put]); (case d4 => simp [Act.eval, Act.put]); (case d1 => simp only [Nat.min_def]; split <;> omega); (case d2 => rw [hB.out, length_splice _ _ _ (by rw [lenY, hRl.out]; omega), hRl.out]; omega); intro w3 hg3 hk3)
  all_goals
    replace hk3 := hide hk3
    go_wp2
    go_ret
    exact ⟨w.heap.size, G, rfl, Own.ofBlock lenY (by omega) (by have := hn.out; simp; omega) hg3.out hG1 hG2.out hl2.out ht2.out, (((hk1.out.mono (T := fun k => (Value.slice (some ⟨g, 0, none⟩) c c).ownBlock = some k) (fun _ _ h => h.elim)).trans2 hk2.out (fun k h => .inr (by omega))).drew).trans2 hk3.out (fun k h => .inr (by omega))⟩
theorem insY_any (base n c i vb : Nat) (a0 : Option Addr) (xs : List Yv) (p : Yv) (tv : TypeId) (w : World) (own : Own encY 2 36 w base (.slice a0 n c) xs) (hb : base ≤ w.heap.size) (hn : n ≤ 1000000) (hi : i ≤ n)
    (hv : w.heap[vb]? = some (.cells #[.slice p.a p.n p.c, .int .i64 p.k] tv (0, 0))) (hvb : vb < base ∨ (Value.slice a0 n c).ownBlock ≠ some vb) :
    Calls Try.prog 157 #[.slice a0 n c, .int .i64 i, .slice (some ⟨vb, 0, none⟩) 1 1] w (InsertedY base w (.slice a0 n c) n (xs.take i ++ p :: xs.drop i)) := by
  have hl : xs.length = n := by
    rcases own.form with ⟨h1, h2⟩ | ⟨g, cap, h1, _⟩
    · simp only [Value.slice.injEq] at h1; subst h2; exact h1.2.1.symm
    · simp only [Value.slice.injEq] at h1; exact h1.2.1.symm
  by_cases h : i = n
  · subst h
    rw [List.take_of_length_le (by omega), List.drop_of_length_le (by omega)]
    exact insY_end base i c vb a0 xs p tv w own hb hn hv
  · rcases own.form with ⟨h1, h2⟩ | ⟨g, cap, h1, h2, _⟩
    · subst h2; simp at hl; omega
    · simp only [Value.slice.injEq] at h1
      obtain ⟨rfl, _, rfl⟩ := h1
      have hne : vb ≠ g := by
        rintro rfl
        rcases hvb with h3 | h3
        · omega
        · exact h3 rfl
      by_cases hc : n + 1 ≤ c
      · exact insY_shift base g n c i vb xs p tv w own (by omega) hc hv hne
      · exact insY_grow base g n c i vb xs p tv w own (by omega) (by omega) hn hv hne
end Go.Proofs.Ytcehdpeeaogpiaa
