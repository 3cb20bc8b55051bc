/-
  What star.Back returns: the way to a place, and what it is said to cost. Conditions: the way up is there.
-/
import Derived.Test.YtcehdpeeaogpiaaStarPC
import Derived.Test.YtcehdpeeaogpiaaROut
import Derived.Test.YtcehdpeeaogpiaaBase
import Derived.Deep.LoopGhost
namespace Go.Proofs.Ytcehdpeeaogpiaa
open Go.RowKit
set_option linter.unusedSimpArgs false
set_option linter.unusedVariables false
/-- a way up as a function -/
theorem chain_b {pred : Nat → Int} {v : Nat} {l : List Nat} (h : Chain pred v l) : ∃ b : Nat → Int, b 0 = (v : Int) ∧ (∀ j, j < l.length → ∃ x : Nat, b j = (x : Int) ∧ x ∈ l ∧ b (j + 1) = pred x) ∧ b l.length < 0 ∧ (∀ j (hj : j < l.length), b j = (l[j] : Int)) := by
  induction h with
  | top v h =>
    refine ⟨fun j => if j = 0 then (v : Int) else pred v, rfl, fun j hj => ?_, by simpa using h, fun j hj => ?_⟩
    · simp at hj
      subst hj
      exact ⟨v, rfl, by simp, rfl⟩
    · simp at hj
      subst hj
      rfl
  | step v u l h hc ih =>
    obtain ⟨b, h0, h1, h2, h3⟩ := ih
    refine ⟨fun j => if j = 0 then (v : Int) else b (j - 1), rfl, fun j hj => ?_, by simpa using h2, fun j hj => ?_⟩
    · by_cases hj0 : j = 0
      · subst hj0
        exact ⟨v, rfl, by simp, by simp [h0, h]⟩
      · obtain ⟨x, e1, e2, e3⟩ := h1 (j - 1) (by simp at hj; omega)
        refine ⟨x, by simp [hj0, e1], List.mem_cons_of_mem _ e2, ?_⟩
        simp only [Nat.add_one_ne_zero, if_false, Nat.add_sub_cancel]
        rw [show j - 1 + 1 = j by omega] at e3
        exact e3
    · cases j with
      | zero => rfl
      | succ j => simpa using h3 j (by simpa using hj)
def revF (L i : Nat) (b : Nat → Int) (j : Nat) : Int := if j < i ∨ L ≤ j + i then b (L - 1 - j) else b j
theorem revF_zero (L : Nat) (b : Nat → Int) : LI L (revF L 0 b) = LI L b := li_congr fun v hv => by unfold revF; rw [if_neg (by omega)]
theorem revF_all {L i : Nat} (b : Nat → Int) (h : L ≤ 2 * i + 1) : LI L (revF L i b) = LI L (fun j => b (L - 1 - j)) := li_congr fun v hv => by
  unfold revF
  split
  · rfl
  · rw [show L - 1 - v = v by omega]
theorem revF_step {L i k : Nat} (b : Nat → Int) (hk : k = L - 1 - i) (h : i < k) : upz (upz (revF L i b) i (revF L i b k)) k (revF L i b i) = revF L (i + 1) b := by
  funext j
  show upz (upz (revF L i b) i (revF L i b k)) k (revF L i b i) j = revF L (i + 1) b j
  unfold upz revF
  subst hk
  by_cases h1 : j = L - 1 - i
  · subst h1
    simp only [if_true]
    rw [if_neg (by omega), if_pos (by omega)]
    congr 1
    omega
  · rw [if_neg h1]
    by_cases h2 : j = i
    · subst h2
      simp only [if_true]
      rw [if_neg (by omega), if_pos (by omega)]
    · rw [if_neg h2]
      show (if j < i ∨ L ≤ j + i then b (L - 1 - j) else b j) = _
      by_cases h3 : j < i ∨ L ≤ j + i
      · rw [if_pos h3, if_pos (by omega)]
      · rw [if_neg h3, if_neg (by omega)]
/-- what holds while Back runs: the way so far in the block P -/
structure BK (w w0 : World) (c : Int) (av : Option Addr) (j cv : Nat) (xs : List Int) (wr : World) : Prop where
  c0 : wr.cell? ⟨w.heap.size + 1, 0, none⟩ = some (.slice av j cv)
  c1 : wr.cell? ⟨w.heap.size + 1, 1, none⟩ = some (.int .i64 c)
  f0 : wr.frozen? ⟨w.heap.size + 1, 0, none⟩ = false
  ra : wr.cell? ⟨w.heap.size, 0, none⟩ = some (.slice none 0 0)
  rb : wr.cell? ⟨w.heap.size, 1, none⟩ = some (.int .i64 0)
  fa : wr.frozen? ⟨w.heap.size, 0, none⟩ = false
  fb : wr.frozen? ⟨w.heap.size, 1, none⟩ = false
  own : Own encI 1 3 wr w0.heap.size (.slice av j cv) xs
  bel : Below w.heap.size w wr
  low : w.heap.size + 1 < w0.heap.size
  up : w0.heap.size ≤ wr.heap.size
theorem BK.grow {w w0 wr w2 : World} {c : Int} {av : Option Addr} {j cv g' c' : Nat} {xs ys : List Int} {X : Array Value} {tX : TypeId} (h : BK w w0 c av j cv xs wr) (own2 : Own encI 1 3 w2 w0.heap.size (.slice (some ⟨g', 0, none⟩) (j + 1) c') ys) (hg : (wr.alloc (.cells X tX)).grownBy w2 (Value.slice av j cv).ownBlock) :
    BK w w0 c (some ⟨g', 0, none⟩) (j + 1) c' ys (w2.setCell ⟨w.heap.size + 1, 0, none⟩ (.slice (some ⟨g', 0, none⟩) (j + 1) c')) := by
  have hl := h.low
  have hu := h.up
  have hn : ∀ k, k < w0.heap.size → (Value.slice av j cv).ownBlock ≠ some k := fun k hk e => by have := (h.own.block_lt k e).1; omega
  have hgb := own2.at_base
  have k0 := hg.cell (a := ⟨w.heap.size + 1, 0, none⟩) (cu_alloc h.c0) (fun e => hn (w.heap.size + 1) (by omega) e.symm)
  have k1 := hg.cell (a := ⟨w.heap.size + 1, 1, none⟩) (cu_alloc h.c1) (fun e => hn (w.heap.size + 1) (by omega) e.symm)
  have k2 := hg.cell (a := ⟨w.heap.size, 0, none⟩) (cu_alloc h.ra) (fun e => hn w.heap.size (by omega) e.symm)
  have k3 := hg.cell (a := ⟨w.heap.size, 1, none⟩) (cu_alloc h.rb) (fun e => hn w.heap.size (by omega) e.symm)
  have g0 := hg.frozen_far ⟨w.heap.size + 1, 0, none⟩ (by simp; omega) (fun e => hn (w.heap.size + 1) (by omega) e.symm)
  have g1 := hg.frozen_far ⟨w.heap.size, 0, none⟩ (by simp; omega) (fun e => hn w.heap.size (by omega) e.symm)
  have g2 := hg.frozen_far ⟨w.heap.size, 1, none⟩ (by simp; omega) (fun e => hn w.heap.size (by omega) e.symm)
  rw [fu_alloc h.f0] at g0
  rw [fu_alloc h.fa] at g1
  rw [fu_alloc h.fb] at g2
  have hz := hg.size
  simp at hz
  refine ⟨World.cell?_setCell_same _ _ _ k0, cu_set_off k1 (by omega), fu_set g0, cu_set k2 (by simp), cu_set k3 (by simp), fu_set g1, fu_set g2, own2.elsewhere (by simp [Value.ownBlock]; omega) _, ?_, h.low, by simp; omega⟩
  exact ((up_alloc h.bel (by omega)).grown hg (by simp; omega) (fun k hk => by have := (h.own.block_lt k hk).1; omega)).setCell (by simp) _
section
variable {w w0 wr : World} {c : Int} {g L cv : Nat} {f : Nat → Int} {av : Option Addr} {xs : List Int} {j : Nat}
theorem BK.drew (h : BK w w0 c av j cv xs wr) : BK w w0 c av j cv xs wr.drew := ⟨h.c0, h.c1, h.f0, h.ra, h.rb, h.fa, h.fb, h.own.drew, h.bel.drew, h.low, h.up⟩
theorem BK.drewN (h : BK w w0 c av j cv xs wr) (m : Nat) : BK w w0 c av j cv xs (wr.drewN m) := by
  induction m with
  | zero => exact h
  | succ m ih => exact ih.drew
theorem BK.setI (h : BK w w0 c (some ⟨g, 0, none⟩) L cv (LI L f) wr) (i : Nat) (hi : i < L) (x : Int) : BK w w0 c (some ⟨g, 0, none⟩) L cv (LI L (upz f i x)) (wr.setCell ⟨g, i, none⟩ (.int .i64 x)) := by
  have hg := h.own.at_base
  have hl := h.low
  exact ⟨cu_set h.c0 (by simp; omega), cu_set h.c1 (by simp; omega), fu_set h.f0, cu_set h.ra (by simp; omega), cu_set h.rb (by simp; omega), fu_set h.fa, fu_set h.fb, h.own.setI i hi x, h.bel.setCell (by simp; omega) _, h.low, by have := h.up; simpa using this⟩
end
def BackAns (l : List Nat) (c : Int) (w : World) (e : Ending) (w' : World) : Prop := ∃ a k, e = .returned (.agg #[.slice a l.length k, .int .i64 c]) ∧ Own encI 1 3 w' w.heap.size (.slice a l.length k) (LP l.reverse) ∧ Below w.heap.size w w'
set_option maxRecDepth 100000 in
set_option maxHeartbeats 1000000 in
theorem back_any (n v pc : Nat) (pa : Option Addr) (pred : Nat → Int) (l : List Nat) (c : Int) (w : World) (B : Nat) (hB : B ≤ w.heap.size) (hP : Row encI 1 w B pa (LI n pred)) (hl : Chain pred v l) (hn : n ≤ 64) (hll : l.length ≤ n) (hm : ∀ x ∈ l, x < n) :
    Calls Try.prog 175 #[.slice pa n pc, .int .i64 (v : Int), .int .i64 c] w (BackAns l c w) := by
  obtain ⟨b, hb0, hb1, hb2, hb3⟩ := chain_b hl
  have hL1 : 1 ≤ l.length := by obtain ⟨t, rfl⟩ := chain_head hl; simp
  have hLP := hide (show LI l.length (fun j => b (l.length - 1 - j)) = LP l.reverse from by
    refine List.ext_getElem (by simp [LI, LP]) fun i h1 h2 => ?_
    simp only [LI, LP, List.getElem_map, List.getElem_range, List.getElem_reverse]
    exact hb3 _ (by simp [LI] at h1; omega))
  obtain ⟨L, hL⟩ : ∃ L, L = l.length := ⟨_, rfl⟩
  rw [← hL] at hb1 hb2 hL1 hLP hll
  have hstep := hide (show ∀ j, j < L → ∃ x : Nat, b j = (x : Int) ∧ x < n ∧ b (j + 1) = pred x from fun j hj => by
    obtain ⟨x, h1, h2, h3⟩ := hb1 j hj
    exact ⟨x, h1, hm x h2, h3⟩)
  replace hL := hide hL
  replace hP := hide hP
  replace hb0 := hide hb0
  clear hl hm hb1 hb3
  go_enter Try.func175, Try.ntmps175
  go_wp2
  obtain ⟨w0, h0⟩ : ∃ w0, w0 = (w.alloc (.cells #[.slice none 0 0, .int .i64 0] 36)).alloc (.cells #[.slice none 0 0, .int .i64 c] 36) := ⟨_, rfl⟩
  have hK0 := hide (show BK w w0 c none 0 0 (LI 0 b) w0 by
    rw [h0]
    exact ⟨by simp [go_sem], by simp [go_sem], by simp [go_sem], cu_alloc (by simp [go_sem]), cu_alloc (by simp [go_sem]), fu_alloc (by simp [go_sem]), fu_alloc (by simp [go_sem]), Own.nil _ _, (by repeat (first | with_reducible exact Below.refl _ _ | with_reducible assumption | with_reducible refine up_drewN ?_ | with_reducible refine up_drew ?_ | (with_reducible refine up_alloc ?_ ?_; rotate_left; (first | omega | (simp <;> omega) | simp)) | (with_reducible refine up_set ?_ ?_; rotate_left; (first | omega | (simp <;> omega) | simp)) | (with_reducible refine Below.trans ?_ (Below.mono (by with_reducible assumption) ?_); rotate_left; (first | omega | (simp <;> omega) | simp)))), by simp, Nat.le_refl _⟩)
  simp only [← h0]
  replace h0 := hide h0
  go_loopg [8] L (fun gk s8 wr => ∃ (j cv : Nat) (av : Option Addr), j + gk = L ∧ s8 = .int .i64 (b j) ∧ Hid (BK w w0 c av j cv (LI j b) wr))
  case atStart => exact ⟨0, 0, none, by omega, by rw [hb0.out], hK0⟩
  case round =>
    clear hK0
    obtain ⟨j, cv, av, hj, rfl, hK⟩ := hrel
    have k0 := hK.out.c0
    have f0 := hK.out.f0
    have hlw := hK.out.low
    have hup := hK.out.up
    by_cases hlt : j < L
    · obtain ⟨gk', rfl⟩ : ∃ gk', gk = gk' + 1 := ⟨gk - 1, by omega⟩
      obtain ⟨x, hx, hxn, hxs⟩ := hstep.out j hlt
      obtain ⟨pb, po, rfl, hpb, pc0⟩ := hP.out.atI x hxn
      have pc1 := cu_below hK.out.bel pc0 (by simp; omega)
      have hpl : pb < wr.heap.size := cell_lt pc1
      have hsn := hide (show LI (j + 1) b = LI j b ++ [(x : Int)] by rw [li_succ, hx])
      rw [← hxs] at pc1
      rw [hx]
      replace hx := hide hx
      replace hxs := hide hxs
      have ix : (0 : Int) ≤ (x : Int) ∧ (x : Int) < (n : Int) := by omega
      clear pc0
      go_wp2_with (at_builtin; (refine wpList_pushL (e := 3) (enc := encI) (xs := (LI j b)) (v := .slice av (j) cv) (base := w0.heap.size) rfl (.tmp 21) (.tmp 23) 29 rfl _ 8 Try.underlying29 info_int rfl ?d13 lenI oneI (j) ?d23 ?d33 ?d43 ⟨wr.heap.size, 0, none⟩ 1 (x : Int) ?d53 ?d63 ?d73 ?d83 ?d93 ?_); (case d13 => omega); (case d23 => exact (li_len _ _)); (case d33 => rfl); (case d43 => exact (hK.out.own.alloc _)); (case d53 => rfl); (case d63 => exact newI _ _ _ _ rfl); (case d73 => omega); (case d83 => unfold maxLen; omega); (case d93 => first | omega | (simp; done) | (simp; omega)); intro g3 c3 w3 own3 hb3 hgr3 hat3 hgl3; rw [← hsn.out] at own3; have hK3 := hide (hK.out.grow own3 hgr3); have k3 := hgr3.cell (a := ⟨w.heap.size + 1, 0, none⟩) (cu_alloc k0) (fun e => by have := (hK.out.own.block_lt _ e.symm).1; simp at this; omega); have f3 := hgr3.frozen_far ⟨w.heap.size + 1, 0, none⟩ (by simp; omega) (fun e => by have := (hK.out.own.block_lt _ e.symm).1; simp at this; omega); rw [fu_alloc f0] at f3; have pc3 := hgr3.cell (a := ⟨pb, po + x, none⟩) (cu_alloc pc1) (fun e => by have := (hK.out.own.block_lt _ e.symm).1; simp at this; omega); have hp3 := cell_lt pc3; have hk3 := cell_lt k3; replace own3 := hide own3; replace hb3 := hide hb3; replace hgr3 := hide hgr3; replace hat3 := hide hat3)
      go_roundg gk'
      case measure => omega
      case rel => exact ⟨j + 1, _, _, by omega, rfl, hK3⟩
    · obtain rfl : j = L := by omega
      obtain ⟨g, rfl, hg1, hg2⟩ := hK.out.own.blockI' (by omega)
      have hR0 := hide (show BK w w0 c (some ⟨g, 0, none⟩) j cv (LI j (revF j 0 b)) wr by rw [revF_zero]; exact hK.out)
      have hneg : ¬ (0 : Int) ≤ b j := by omega
      have hwk : IntKind.i64.wrap ((j : Int) - 1) = ((j - 1 : Nat) : Int) := by rw [show (j : Int) - 1 = ((j - 1 : Nat) : Int) by omega]; exact IntWalk.i64_in _ (by omega)
      clear hstep hb2 hK
      go_wp2
      go_quiet (fail)
      have hR1 := hide (hR0.out.drewN nq)
      generalize wr.drewN nq = w4 at hR1 ⊢
      clear hR0 k0 f0 hwk
      go_wp2
      go_loopw [9, 10] (fun s9 s10 wr => ∃ i k : Nat, s9 = .int .i64 (i : Int) ∧ s10 = .int .i64 (k : Int) ∧ i + k + 1 = j ∧ Hid (BK w w0 c (some ⟨g, 0, none⟩) j cv (LI j (revF j i b)) wr)) (fun s9 _ _ => j - (intOf s9).toNat)
      case atStart => exact ⟨0, j - 1, rfl, rfl, by omega, hR1⟩
      case round =>
        clear hR1
        obtain ⟨i, k, rfl, rfl, hik, hR⟩ := hrel
        have k0 := hR.out.c0
        have f0 := hR.out.own.free
        have hat := hR.out.own.at_base.2
        have hP0 := cell_lt k0
        by_cases hlt : i < k
        · have ci := hR.out.own.atI i (by omega)
          have ck := hR.out.own.atI k (by omega)
          have hs1 := (hR.out.setI i (by omega) (revF j i b k)).setI k (by omega) (revF j i b i)
          rw [revF_step b (by omega) hlt] at hs1
          replace hs1 := hide hs1
          obtain ⟨x, hx⟩ : ∃ x, x = revF j i b i := ⟨_, rfl⟩
          obtain ⟨y, hy⟩ : ∃ y, y = revF j i b k := ⟨_, rfl⟩
          rw [← hx] at ci hs1
          rw [← hy] at ck hs1
          replace hx := hide hx
          replace hy := hide hy
          have fi := f0 i
          have fk := f0 k
          have i1 : (0 : Int) ≤ (i : Int) ∧ (i : Int) < (j : Int) := by omega
          have i2 : (0 : Int) ≤ (k : Int) ∧ (k : Int) < (j : Int) := by omega
          have hlt2 : (i : Int) < (k : Int) := by omega
          have hne : g ≠ w.heap.size + 1 := by have := hR.out.own.at_base.1; omega
          obtain ⟨k', rfl⟩ : ∃ k', k = k' + 1 := ⟨k - 1, by omega⟩
          have hwk : IntKind.i64.wrap (((k' + 1 : Nat) : Int) - 1) = (k' : Int) := by rw [show ((k' + 1 : Nat) : Int) - 1 = (k' : Int) by omega]; exact IntWalk.i64_in _ (by omega)
          clear f0
          go_wp2
          go_region
          go_wp2
          go_roundw
          case rel => exact ⟨i + 1, k', by go_num, by go_num, by omega, by first | exact hide hs1.out.drew | exact hide (hs1.out.drewN _)⟩
          case measure => simp [intOf]; omega
        · have hfin := hide (show LI j (revF j i b) = LP l.reverse by rw [revF_all b (by omega)]; exact hLP.out)
          have c1 := hR.out.c1
          have ra := hR.out.ra
          have rb := hR.out.rb
          have fa := hR.out.fa
          have fb := hR.out.fb
          have hnl : ¬ (i : Int) < (k : Int) := by omega
          have hlo := hR.out.low
          have hupp := hR.out.up
          have hb := hR.out.bel
          have hO := hide (show Own encI 1 3 wr w0.heap.size (.slice (some ⟨g, 0, none⟩) j cv) (LP l.reverse) by rw [← hfin.out]; exact hR.out.own)
          clear f0
          go_wp2
          refine bodyPost_ret (v := .agg #[.slice (some ⟨g, 0, none⟩) j cv, .int .i64 c]) (by simp [results, Try.results175, go_sem, ra, rb, fa, fb]) rfl ⟨some ⟨g, 0, none⟩, cv, by rw [← hL.out], ?_, ?_⟩
          · rw [← hL.out]
            exact ((hO.out.setCell (by simp; omega) _).setCell (by simp; omega) _).base_le (by omega)
          · exact (hb.setCell (by simp) _).setCell (by simp) _
end Go.Proofs.Ytcehdpeeaogpiaa
