/-
  What net.Outs returns: of each place the numbers of the edges from it. Conditions: a right net.
-/
import Derived.Test.YtcehdpeeaogpiaaNetL
import Derived.Test.YtcehdpeeaogpiaaBase
import Derived.Deep.RegionLaw
namespace Go.Proofs.Ytcehdpeeaogpiaa
open Go.RowKit
set_option linter.unusedSimpArgs false
set_option linter.unusedVariables false

/-- the numbers below k of the edges from v -/
def outIdx (es : List Ed) (v k : Nat) : List Int := ((List.range k).filter fun i => (es.map (·.u)).getD i (-1) == (v : Int)).map Int.ofNat
def outRows (n : Nat) (es : List Ed) (k : Nat) : List (List Int) := (List.range n).map fun v => outIdx es v k
theorem outRows_len (n : Nat) (es : List Ed) (k : Nat) : (outRows n es k).length = n := by simp [outRows]
theorem outRows_zero (n : Nat) (es : List Ed) : outRows n es 0 = List.replicate n [] := by
  apply List.ext_getElem
  · simp [outRows]
  · intro i h1 h2; simp [outRows, outIdx]
theorem outIdx_len (es : List Ed) (v k : Nat) : (outIdx es v k).length ≤ k := by
  unfold outIdx
  rw [List.length_map]
  exact Nat.le_trans (List.length_filter_le _ _) (by simp)
theorem outRows_get (n : Nat) (es : List Ed) (k u : Nat) (h : u < (outRows n es k).length) : (outRows n es k)[u] = outIdx es u k := by simp [outRows]
theorem outRows_step (n : Nat) (es : List Ed) (k u : Nat) (hk : k < es.length) (hu : es[k].u = (u : Int)) (hn : u < n) : outRows n es (k + 1) = (outRows n es k).set u (outIdx es u k ++ [(k : Int)]) := by
  apply List.ext_getElem
  · simp [outRows]
  · intro i h1 h2
    have hi : i < n := by simpa [outRows] using h1
    have e : (es.map (·.u)).getD k (-1) = (u : Int) := by
      simp [List.getD, List.getElem?_eq_getElem hk, hu]
    have e' : (Option.map (fun x : Ed => x.u) es[k]?).getD (-1) = (u : Int) := by simp [List.getElem?_eq_getElem hk, hu]
    by_cases hiu : u = i
    · subst hiu
      rw [List.getElem_set_self, outRows_get]
      unfold outIdx
      rw [List.range_succ, List.filter_append, List.map_append]
      congr 1
      simp [List.filter_cons, e']
    · rw [List.getElem_set_ne hiu, outRows_get, outRows_get]
      unfold outIdx
      rw [List.range_succ, List.filter_append, List.map_append]
      have : ((u : Int) == (i : Int)) = false := by simp; omega
      have hui : ¬ (u : Int) = (i : Int) := by omega
      simp [List.filter_cons, e', hui]

theorem outs_step {n k u G c rl cv g cap' m base : Nat} {eo ei : TypeId} {es : List Ed} {wr w2 : World} {av : Option Addr} (own : Own2 encI 1 eo ei wr base (.slice (some ⟨G, 0, none⟩) n c) (outRows n es k)) (hne : eo ≠ ei) (hk : k < es.length) (hu : es[k].u = (u : Int)) (hun : u < n)
    (r0 : wr.cell? ⟨G, u, none⟩ = some (.slice av rl cv)) {E X : Obj} (hg2 : ((wr.alloc E).alloc X).drew.grownBy w2 (Value.slice av rl cv).ownBlock)
    (own2 : w2.ownsRow base ei 1 (.slice (some ⟨g, 0, none⟩) m cap') ((outIdx es u k).length + 1) ((outIdx es u k).flatMap encI ++ [.int .i64 (k : Int)])) (hat : (Value.slice av rl cv).ownBlock = some g ∨ g = wr.heap.size + 1 + 1) :
    Own2 encI 1 eo ei (w2.setCell ⟨G, u, none⟩ (.slice (some ⟨g, 0, none⟩) m cap')) base (.slice (some ⟨G, 0, none⟩) n c) (outRows n es (k + 1)) := by
  have hul : u < (outRows n es k).length := by rw [outRows_len]; exact hun
  have own' : Own encI 1 ei w2 base (.slice (some ⟨g, 0, none⟩) m cap') (outIdx es u k ++ [(k : Int)]) := by
    unfold Own
    rw [List.length_append, List.flatMap_append]
    exact own2
  have := Own2.put ((own.alloc E).alloc X).drew hne u hul (cu_drew (cu_alloc (cu_alloc r0))) hg2 own' (by
    intro j hj
    simp [Value.ownBlock] at hj
    subst hj
    rcases hat with h | h
    · exact .inl h
    · right; simp; omega)
  rw [outRows_step n es k u hk hu hun]
  exact this

set_option maxRecDepth 100000 in
set_option maxHeartbeats 4000000 in
theorem outs_any (n : Nat) (a : Option Addr) (cap : Nat) (es : List Ed) (w : World) (B : Nat) (hB : B ≤ w.heap.size) (hE : Row encE 3 w B a es) (hn : n ≤ 64) (hl : es.length ≤ 9000) (hes : ∀ e ∈ es, 0 ≤ e.u ∧ e.u < n) :
    Calls Try.prog 94 #[.agg #[.int .i64 (n : Int), .slice a es.length cap]] w fun e w' => ∃ g, e = .returned (.slice (some ⟨g, 0, none⟩) n n) ∧ Own2 encI 1 29 3 w' w.heap.size (.slice (some ⟨g, 0, none⟩) n n) (outRows n es es.length) ∧ Below w.heap.size w w' := by
  obtain ⟨i0, hi, hz0, hz1, hz2⟩ := info_parts info_row
  have hE := hide hE
  go_enter Try.func94, Try.ntmps94
  go_wp2_with (at_make; go_must (refine wpList_make_full _ rfl (.tmp 7) (.tmp 7) 25 rfl w.heap.size 29 i0 (.slice none 0 0) 1 Try.underlying25 hi hz0 hz1 .i64 .i64 (n : Int) (n : Int) n rfl rfl rfl rfl (by rw [hz2]; omega) (by unfold maxLen; omega) (by simp) ?_; intro w1 own1 hg1; have hb1 := (Below.refl _ _).grown hg1 (Nat.le_refl _) (fun k hk => by cases hk); obtain ⟨hc1, hf1⟩ := bcell hb1; have hz1 : w.heap.size < w1.heap.size := (by have := hb1.size; (try simp at this); omega)))
  replace own1 := hide (own2_made w1 w.heap.size (w.heap.size + 1) n 29 3 (by simpa using own1))
  have hlt1 : w.heap.size + 1 < w1.heap.size := by obtain ⟨vs, _, h2, _⟩ := own1.out; exact h2.at_base.2
  have hbw : Below w.heap.size w w1 := (up_alloc (Below.refl _ _) (Nat.le_refl _)).trans (hb1.mono (by simp))
  go_loopw [12] (fun i wr => ∃ k : Nat, k ≤ es.length ∧ i = .int .i64 k ∧ Hid (Own2 encI 1 29 3 wr w.heap.size (.slice (some ⟨w.heap.size + 1, 0, none⟩) n n) (outRows n es k)) ∧ Below w.heap.size w wr ∧ w.heap.size + 1 < wr.heap.size) (fun i _ => es.length - (intOf i).toNat)
  case atStart => exact ⟨0, Nat.zero_le _, rfl, by rw [outRows_zero]; exact own1, hbw, hlt1⟩
  case round =>
    obtain ⟨k, hk, rfl, own, hb, hsz⟩ := hrel
    clear own1 hb1 hc1 hf1 hg1 hbw
    by_cases hlt : k < es.length
    · obtain ⟨u, hu⟩ := Int.eq_ofNat_of_zero_le (hes es[k] (List.getElem_mem hlt)).1
      have hun : u < n := by have := (hes es[k] (List.getElem_mem hlt)).2; omega
      obtain ⟨b, o, rfl, hbB, e0, e1, e2⟩ := hE.out.ed k hlt
      rw [← hb.cell (by simp; omega)] at e0 e1 e2
      rw [hu] at e0
      have hul : u < (outRows n es k).length := by rw [outRows_len]; exact hun
      obtain ⟨av, cv, r0, rown, rf⟩ := own.out.at u hul
      rw [outRows_get] at r0 rown
      have hrl := outIdx_len es u k
      obtain ⟨rl, hrl2⟩ : ∃ rl, rl = (outIdx es u k).length := ⟨_, rfl⟩
      rw [← hrl2] at r0 rown hrl
      have hrl3 := hide hrl2
      have hU := hide hu
      have hap := own.out.apart (by decide) u hul r0
      replace rown := hide rown
      obtain ⟨j0, hj, hj0, hj1, hj2⟩ := info_parts info_int
      have hblk := rown.out.block_lt
      have hrl4 := outIdx_len es u k
      have hsz3 : w.heap.size < wr.heap.size := by omega
      have iu : (0 : Int) ≤ (u : Int) ∧ (u : Int) < (n : Int) := by omega
      clear hrl2 hu
      go_wp2
      go_region_law (first | (refine step_append_lies _ rfl (.tmp 24) (.tmp 26) 29 rfl w.heap.size 3 j0 (.int .i64 0) 1 8 Try.underlying29 hj hj0 hj1 hj2 rfl (by decide) (.slice av rl cv) (outIdx es u k).length _ (by rw [hrl3.out]; rfl) (Own.drew (Own.alloc (Own.alloc rown.out _) _)) ⟨wr.heap.size + 1, 0, none⟩ 1 1 [.int .i64 (k : Int)] rfl rfl (newI _ _ _ _ (by simp)) (oneI _) (by omega) (by unfold maxLen; omega) (by omega) (by simp; omega) (wr.heap.size + 1 + 1) (by simp) ?_; intro g cap' w2 own2 hg2 hat hlt2; have k0 := hg2.cell (a := ⟨w.heap.size + 1, u, none⟩) (cu_drew (cu_alloc (cu_alloc r0))) (fun e => hap e.symm); have k1 := hg2.frozen_far ⟨w.heap.size + 1, u, none⟩ (by simp; omega) (fun e => hap e.symm); rw [fu_drew (fu_alloc (fu_alloc (rf u)))] at k1; have k2 := hg2.cell (a := ⟨wr.heap.size, 0, none⟩) (v := .int .i64 (u : Int)) (by simp [go_sem]) (fun e => by have := hblk _ e.symm; simp at this)))
      all_goals
        go_wp2
        go_roundw
        case rel =>
          refine ⟨k + 1, by omega, by go_num, hide (outs_step own.out (by decide) hlt hU.out hun r0 hg2 own2 hat), ?_, ?_⟩
          · refine up_set (hb.trans ?_) (by simp)
            exact (unalloc (unalloc (((up_drew (Below.refl _ _)).trans ((Below.refl _ _).grown hg2 (by simp; omega) (fun j hj => (hblk j hj).1)) : Below w.heap.size _ w2)) (by simp; omega)) (by omega))
          · have := hg2.size; simp at this; simp; omega
        case measure => simp [intOf]; omega
    · obtain rfl : k = es.length := by omega
      go_wp2
      go_ret
      exact ⟨_, rfl, own.out, hb⟩
end Go.Proofs.Ytcehdpeeaogpiaa
