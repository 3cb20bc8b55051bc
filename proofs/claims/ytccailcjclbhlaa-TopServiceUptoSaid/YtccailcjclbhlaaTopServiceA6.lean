/-
  A part of the proof of ServePlays: StarB Clone Spread EqA AnyBad StarZ DijkP Outs DijkO StarO FocW
-/
import Derived.Test.YtccailcjclbhlaaTopServiceA4
import Derived.Test.YtccailcjclbhlaaTopServiceA5
import Derived.Test.YtccailcjclbhlaaTopServiceA1
import Derived.Deep.LoopGhost
import Derived.Lib.SliceRun
import Derived.WalkSpells
import Derived.WalkLawsBesides
import Derived.BigQuiet
import Derived.Deep.QuietTactic
import Derived.ChangeAlike
import Derived.RegionTactic
import Derived.Deep.RegionHeld3
import Derived.Test.YtccailcjclbhlaaTopServiceA2
import Derived.Deep.RegionLaw
/-! What star.Back returns: the way to a place, and what it is said to cost. Conditions: the way up is there. -/
namespace Go.Proofs.Ytccailcjclbhlaa
open Go.RowKit
set_option linter.unusedSimpArgs false
set_option linter.unusedVariables false
/-- a way up as a function -/
theorem chain_b {pred : Nat → Int} {v : Nat} {l : List Nat} (h : Chain pred v l) : ∃ b : Nat → Int, b 0 = (v : Int) ∧ (∀ j, j < l.length → ∃ x : Nat, b j = (x : Int) ∧ x ∈ l ∧ b (j + 1) = pred x) ∧ b l.length < 0 ∧ (∀ j (hj : j < l.length), b j = (l[j] : Int)) := by
  induction h with
  | top v h =>
    refine ⟨fun j => if j = 0 then (v : Int) else pred v, rfl, fun j hj => ?_, by simpa using h, fun j hj => ?_⟩
    · simp at hj
      subst hj
      exact ⟨v, rfl, by simp, rfl⟩
    · simp at hj
      subst hj
      rfl
  | step v u l h hc ih =>
    obtain ⟨b, h0, h1, h2, h3⟩ := ih
    refine ⟨fun j => if j = 0 then (v : Int) else b (j - 1), rfl, fun j hj => ?_, by simpa using h2, fun j hj => ?_⟩
    · by_cases hj0 : j = 0
      · subst hj0
        exact ⟨v, rfl, by simp, by simp [h0, h]⟩
      · obtain ⟨x, e1, e2, e3⟩ := h1 (j - 1) (by simp at hj; omega)
        refine ⟨x, by simp [hj0, e1], List.mem_cons_of_mem _ e2, ?_⟩
        simp only [Nat.add_one_ne_zero, if_false, Nat.add_sub_cancel]
        rw [show j - 1 + 1 = j by omega] at e3
        exact e3
    · cases j with
      | zero => rfl
      | succ j => simpa using h3 j (by simpa using hj)
def revF (L i : Nat) (b : Nat → Int) (j : Nat) : Int := if j < i ∨ L ≤ j + i then b (L - 1 - j) else b j
theorem revF_zero (L : Nat) (b : Nat → Int) : LI L (revF L 0 b) = LI L b := li_congr fun v hv => by unfold revF; rw [if_neg (by omega)]
theorem revF_all {L i : Nat} (b : Nat → Int) (h : L ≤ 2 * i + 1) : LI L (revF L i b) = LI L (fun j => b (L - 1 - j)) := li_congr fun v hv => by
  unfold revF
  split
  · rfl
  · rw [show L - 1 - v = v by omega]
theorem revF_step {L i k : Nat} (b : Nat → Int) (hk : k = L - 1 - i) (h : i < k) : upz (upz (revF L i b) i (revF L i b k)) k (revF L i b i) = revF L (i + 1) b := by
  funext j
  show upz (upz (revF L i b) i (revF L i b k)) k (revF L i b i) j = revF L (i + 1) b j
  unfold upz revF
  subst hk
  by_cases h1 : j = L - 1 - i
  · subst h1
    simp only [if_true]
    rw [if_neg (by omega), if_pos (by omega)]
    congr 1
    omega
  · rw [if_neg h1]
    by_cases h2 : j = i
    · subst h2
      simp only [if_true]
      rw [if_neg (by omega), if_pos (by omega)]
    · rw [if_neg h2]
      show (if j < i ∨ L ≤ j + i then b (L - 1 - j) else b j) = _
      by_cases h3 : j < i ∨ L ≤ j + i
      · rw [if_pos h3, if_pos (by omega)]
      · rw [if_neg h3, if_neg (by omega)]
/-- what holds while Back runs: the way so far in the block P -/
structure BK (w w0 : World) (c : Int) (av : Option Addr) (j cv : Nat) (xs : List Int) (wr : World) : Prop where
  c0 : wr.cell? ⟨w.heap.size + 1, 0, none⟩ = some (.slice av j cv)
  c1 : wr.cell? ⟨w.heap.size + 1, 1, none⟩ = some (.int .i64 c)
  f0 : wr.frozen? ⟨w.heap.size + 1, 0, none⟩ = false
  ra : wr.cell? ⟨w.heap.size, 0, none⟩ = some (.slice none 0 0)
  rb : wr.cell? ⟨w.heap.size, 1, none⟩ = some (.int .i64 0)
  fa : wr.frozen? ⟨w.heap.size, 0, none⟩ = false
  fb : wr.frozen? ⟨w.heap.size, 1, none⟩ = false
  own : Own encI 1 3 wr w0.heap.size (.slice av j cv) xs
  bel : Below w.heap.size w wr
  low : w.heap.size + 1 < w0.heap.size
  up : w0.heap.size ≤ wr.heap.size
theorem BK.grow {w w0 wr w2 : World} {c : Int} {av : Option Addr} {j cv g' c' : Nat} {xs ys : List Int} {X : Array Value} {tX : TypeId} (h : BK w w0 c av j cv xs wr) (own2 : Own encI 1 3 w2 w0.heap.size (.slice (some ⟨g', 0, none⟩) (j + 1) c') ys) (hg : (wr.alloc (.cells X tX)).grownBy w2 (Value.slice av j cv).ownBlock) :
    BK w w0 c (some ⟨g', 0, none⟩) (j + 1) c' ys (w2.setCell ⟨w.heap.size + 1, 0, none⟩ (.slice (some ⟨g', 0, none⟩) (j + 1) c')) := by
  have hl := h.low
  have hu := h.up
  have hn : ∀ k, k < w0.heap.size → (Value.slice av j cv).ownBlock ≠ some k := fun k hk e => by have := (h.own.block_lt k e).1; omega
  have hgb := own2.at_base
  have k0 := hg.cell (a := ⟨w.heap.size + 1, 0, none⟩) (cu_alloc h.c0) (fun e => hn (w.heap.size + 1) (by omega) e.symm)
  have k1 := hg.cell (a := ⟨w.heap.size + 1, 1, none⟩) (cu_alloc h.c1) (fun e => hn (w.heap.size + 1) (by omega) e.symm)
  have k2 := hg.cell (a := ⟨w.heap.size, 0, none⟩) (cu_alloc h.ra) (fun e => hn w.heap.size (by omega) e.symm)
  have k3 := hg.cell (a := ⟨w.heap.size, 1, none⟩) (cu_alloc h.rb) (fun e => hn w.heap.size (by omega) e.symm)
  have g0 := hg.frozen_far ⟨w.heap.size + 1, 0, none⟩ (by simp; omega) (fun e => hn (w.heap.size + 1) (by omega) e.symm)
  have g1 := hg.frozen_far ⟨w.heap.size, 0, none⟩ (by simp; omega) (fun e => hn w.heap.size (by omega) e.symm)
  have g2 := hg.frozen_far ⟨w.heap.size, 1, none⟩ (by simp; omega) (fun e => hn w.heap.size (by omega) e.symm)
  rw [fu_alloc h.f0] at g0
  rw [fu_alloc h.fa] at g1
  rw [fu_alloc h.fb] at g2
  have hz := hg.size
  simp at hz
  refine ⟨World.cell?_setCell_same _ _ _ k0, cu_set_off k1 (by omega), fu_set g0, cu_set k2 (by simp), cu_set k3 (by simp), fu_set g1, fu_set g2, own2.elsewhere (by simp [Value.ownBlock]; omega) _, ?_, h.low, by simp; omega⟩
  exact ((up_alloc h.bel (by omega)).grown hg (by simp; omega) (fun k hk => by have := (h.own.block_lt k hk).1; omega)).setCell (by simp) _
section
variable {w w0 wr : World} {c : Int} {g L cv : Nat} {f : Nat → Int} {av : Option Addr} {xs : List Int} {j : Nat}
theorem BK.drew (h : BK w w0 c av j cv xs wr) : BK w w0 c av j cv xs wr.drew := ⟨h.c0, h.c1, h.f0, h.ra, h.rb, h.fa, h.fb, h.own.drew, h.bel.drew, h.low, h.up⟩
theorem BK.drewN (h : BK w w0 c av j cv xs wr) (m : Nat) : BK w w0 c av j cv xs (wr.drewN m) := by
  induction m with
  | zero => exact h
  | succ m ih => exact ih.drew
theorem BK.setI (h : BK w w0 c (some ⟨g, 0, none⟩) L cv (LI L f) wr) (i : Nat) (hi : i < L) (x : Int) : BK w w0 c (some ⟨g, 0, none⟩) L cv (LI L (upz f i x)) (wr.setCell ⟨g, i, none⟩ (.int .i64 x)) := by
  have hg := h.own.at_base
  have hl := h.low
  exact ⟨cu_set h.c0 (by simp; omega), cu_set h.c1 (by simp; omega), fu_set h.f0, cu_set h.ra (by simp; omega), cu_set h.rb (by simp; omega), fu_set h.fa, fu_set h.fb, h.own.setI i hi x, h.bel.setCell (by simp; omega) _, h.low, by have := h.up; simpa using this⟩
end
def BackAns (l : List Nat) (c : Int) (w : World) (e : Ending) (w' : World) : Prop := ∃ a k, e = .returned (.agg #[.slice a l.length k, .int .i64 c]) ∧ Own encI 1 3 w' w.heap.size (.slice a l.length k) (LP l.reverse) ∧ Below w.heap.size w w'
set_option maxRecDepth 100000 in
set_option maxHeartbeats 1000000 in
theorem back_any (n v pc : Nat) (pa : Option Addr) (pred : Nat → Int) (l : List Nat) (c : Int) (w : World) (B : Nat) (hB : B ≤ w.heap.size) (hP : Row encI 1 w B pa (LI n pred)) (hl : Chain pred v l) (hn : n ≤ 64) (hll : l.length ≤ n) (hm : ∀ x ∈ l, x < n) :
    Calls Try.prog 60 #[.slice pa n pc, .int .i64 (v : Int), .int .i64 c] w (BackAns l c w) := by
  obtain ⟨b, hb0, hb1, hb2, hb3⟩ := chain_b hl
  have hL1 : 1 ≤ l.length := by obtain ⟨t, rfl⟩ := chain_head hl; simp
  have hLP := hide (show LI l.length (fun j => b (l.length - 1 - j)) = LP l.reverse from by
    refine List.ext_getElem (by simp [LI, LP]) fun i h1 h2 => ?_
    simp only [LI, LP, List.getElem_map, List.getElem_range, List.getElem_reverse]
    exact hb3 _ (by simp [LI] at h1; omega))
  obtain ⟨L, hL⟩ : ∃ L, L = l.length := ⟨_, rfl⟩
  rw [← hL] at hb1 hb2 hL1 hLP hll
  have hstep := hide (show ∀ j, j < L → ∃ x : Nat, b j = (x : Int) ∧ x < n ∧ b (j + 1) = pred x from fun j hj => by
    obtain ⟨x, h1, h2, h3⟩ := hb1 j hj
    exact ⟨x, h1, hm x h2, h3⟩)
  replace hL := hide hL
  replace hP := hide hP
  replace hb0 := hide hb0
  clear hl hm hb1 hb3
  go_enter Try.func60, Try.ntmps60
  go_wp2
  obtain ⟨w0, h0⟩ : ∃ w0, w0 = (w.alloc (.cells #[.slice none 0 0, .int .i64 0] 51)).alloc (.cells #[.slice none 0 0, .int .i64 c] 51) := ⟨_, rfl⟩
  have hK0 := hide (show BK w w0 c none 0 0 (LI 0 b) w0 by
    rw [h0]
    exact ⟨by simp [go_sem], by simp [go_sem], by simp [go_sem], cu_alloc (by simp [go_sem]), cu_alloc (by simp [go_sem]), fu_alloc (by simp [go_sem]), fu_alloc (by simp [go_sem]), Own.nil _ _, bel, by simp, Nat.le_refl _⟩)
  simp only [← h0]
  replace h0 := hide h0
  go_loopg [8] L (fun gk s8 wr => ∃ (j cv : Nat) (av : Option Addr), j + gk = L ∧ s8 = .int .i64 (b j) ∧ Hid (BK w w0 c av j cv (LI j b) wr))
  case atStart => exact ⟨0, 0, none, by omega, by rw [hb0.out], hK0⟩
  case round =>
    clear hK0
    obtain ⟨j, cv, av, hj, rfl, hK⟩ := hrel
    have k0 := hK.out.c0
    have f0 := hK.out.f0
    have hlw := hK.out.low
    have hup := hK.out.up
    by_cases hlt : j < L
    · obtain ⟨gk', rfl⟩ : ∃ gk', gk = gk' + 1 := ⟨gk - 1, by omega⟩
      obtain ⟨x, hx, hxn, hxs⟩ := hstep.out j hlt
      obtain ⟨pb, po, rfl, hpb, pc0⟩ := hP.out.atI x hxn
      have pc1 := cu_below hK.out.bel pc0 (by simp; omega)
      have hpl : pb < wr.heap.size := cell_lt pc1
      have hsn := hide (show LI (j + 1) b = LI j b ++ [(x : Int)] by rw [li_succ, hx])
      rw [← hxs] at pc1
      rw [hx]
      replace hx := hide hx
      replace hxs := hide hxs
      have ix : (0 : Int) ≤ (x : Int) ∧ (x : Int) < (n : Int) := by omega
      clear pc0
      go_wp2_with (at_builtin; (refine wpList_pushL (e := 3) (enc := encI) (xs := (LI j b)) (v := .slice av (j) cv) (base := w0.heap.size) rfl (.tmp 21) (.tmp 23) 22 rfl _ 8 Try.underlying22 info_int rfl ?d13 lenI oneI (j) ?d23 ?d33 ?d43 ⟨wr.heap.size, 0, none⟩ 1 (x : Int) ?d53 ?d63 ?d73 ?d83 ?d93 ?_); (case d13 => omega); (case d23 => exact (li_len _ _)); (case d33 => rfl); (case d43 => exact (hK.out.own.alloc _)); (case d53 => rfl); (case d63 => exact newI _ _ _ _ rfl); (case d73 => omega); (case d83 => unfold maxLen; omega); (case d93 => first | omega | (simp; done) | (simp; omega)); intro g3 c3 w3 own3 hb3 hgr3 hat3 hgl3; rw [← hsn.out] at own3; have hK3 := hide (hK.out.grow own3 hgr3); have k3 := hgr3.cell (a := ⟨w.heap.size + 1, 0, none⟩) (cu_alloc k0) (fun e => by have := (hK.out.own.block_lt _ e.symm).1; simp at this; omega); have f3 := hgr3.frozen_far ⟨w.heap.size + 1, 0, none⟩ (by simp; omega) (fun e => by have := (hK.out.own.block_lt _ e.symm).1; simp at this; omega); rw [fu_alloc f0] at f3; have pc3 := hgr3.cell (a := ⟨pb, po + x, none⟩) (cu_alloc pc1) (fun e => by have := (hK.out.own.block_lt _ e.symm).1; simp at this; omega); have hp3 := cell_lt pc3; have hk3 := cell_lt k3; replace own3 := hide own3; replace hb3 := hide hb3; replace hgr3 := hide hgr3; replace hat3 := hide hat3)
      go_roundg gk'
      case measure => omega
      case rel => exact ⟨j + 1, _, _, by omega, rfl, hK3⟩
    · obtain rfl : j = L := by omega
      obtain ⟨g, rfl, hg1, hg2⟩ := hK.out.own.blockI' (by omega)
      have hR0 := hide (show BK w w0 c (some ⟨g, 0, none⟩) j cv (LI j (revF j 0 b)) wr by rw [revF_zero]; exact hK.out)
      have hneg : ¬ (0 : Int) ≤ b j := by omega
      have hwk : IntKind.i64.wrap ((j : Int) - 1) = ((j - 1 : Nat) : Int) := by rw [show (j : Int) - 1 = ((j - 1 : Nat) : Int) by omega]; exact IntWalk.i64_in _ (by omega)
      clear hstep hb2 hK
      go_wp2
      go_quiet (fail)
      have hR1 := hide (hR0.out.drewN nq)
      generalize wr.drewN nq = w4 at hR1 ⊢
      clear hR0 k0 f0 hwk
      go_wp2
      go_loopw [9, 10] (fun s9 s10 wr => ∃ i k : Nat, s9 = .int .i64 (i : Int) ∧ s10 = .int .i64 (k : Int) ∧ i + k + 1 = j ∧ Hid (BK w w0 c (some ⟨g, 0, none⟩) j cv (LI j (revF j i b)) wr)) (fun s9 _ _ => j - (intOf s9).toNat)
      case atStart => exact ⟨0, j - 1, rfl, rfl, by omega, hR1⟩
      case round =>
        clear hR1
        obtain ⟨i, k, rfl, rfl, hik, hR⟩ := hrel
        have k0 := hR.out.c0
        have f0 := hR.out.own.free
        have hat := hR.out.own.at_base.2
        have hP0 := cell_lt k0
        by_cases hlt : i < k
        · have ci := hR.out.own.atI i (by omega)
          have ck := hR.out.own.atI k (by omega)
          have hs1 := (hR.out.setI i (by omega) (revF j i b k)).setI k (by omega) (revF j i b i)
          rw [revF_step b (by omega) hlt] at hs1
          replace hs1 := hide hs1
          obtain ⟨x, hx⟩ : ∃ x, x = revF j i b i := ⟨_, rfl⟩
          obtain ⟨y, hy⟩ : ∃ y, y = revF j i b k := ⟨_, rfl⟩
          rw [← hx] at ci hs1
          rw [← hy] at ck hs1
          replace hx := hide hx
          replace hy := hide hy
          have fi := f0 i
          have fk := f0 k
          have i1 : (0 : Int) ≤ (i : Int) ∧ (i : Int) < (j : Int) := by omega
          have i2 : (0 : Int) ≤ (k : Int) ∧ (k : Int) < (j : Int) := by omega
          have hlt2 : (i : Int) < (k : Int) := by omega
          have hne : g ≠ w.heap.size + 1 := by have := hR.out.own.at_base.1; omega
          obtain ⟨k', rfl⟩ : ∃ k', k = k' + 1 := ⟨k - 1, by omega⟩
          have hwk : IntKind.i64.wrap (((k' + 1 : Nat) : Int) - 1) = (k' : Int) := by rw [show ((k' + 1 : Nat) : Int) - 1 = (k' : Int) by omega]; exact IntWalk.i64_in _ (by omega)
          clear f0
          go_wp2
          go_region
          go_wp2
          go_roundw
          case rel => exact ⟨i + 1, k', by go_num, by go_num, by omega, by first | exact hide hs1.out.drew | exact hide (hs1.out.drewN _)⟩
          case measure => simp [intOf]; omega
        · have hfin := hide (show LI j (revF j i b) = LP l.reverse by rw [revF_all b (by omega)]; exact hLP.out)
          have c1 := hR.out.c1
          have ra := hR.out.ra
          have rb := hR.out.rb
          have fa := hR.out.fa
          have fb := hR.out.fb
          have hnl : ¬ (i : Int) < (k : Int) := by omega
          have hlo := hR.out.low
          have hupp := hR.out.up
          have hb := hR.out.bel
          have hO := hide (show Own encI 1 3 wr w0.heap.size (.slice (some ⟨g, 0, none⟩) j cv) (LP l.reverse) by rw [← hfin.out]; exact hR.out.own)
          clear f0
          go_wp2
          refine bodyPost_ret (v := .agg #[.slice (some ⟨g, 0, none⟩) j cv, .int .i64 c]) (by simp [results, Try.results60, go_sem, ra, rb, fa, fb]) rfl ⟨some ⟨g, 0, none⟩, cv, by rw [← hL.out], ?_, ?_⟩
          · rw [← hL.out]
            exact ((hO.out.setCell (by simp; omega) _).setCell (by simp; omega) _).base_le (by omega)
          · exact (hb.setCell (by simp) _).setCell (by simp) _
end Go.Proofs.Ytccailcjclbhlaa
/-! slices.Clone of numbers. Conditions: a bound on the length. -/
namespace Go.Proofs.Ytccailcjclbhlaa
open Go.RowKit
set_option linter.unusedSimpArgs false
set_option linter.unusedVariables false

def OwnBack {α : Type} (enc : α → List Value) (sz : Nat) (e : TypeId) (xs : List α) (n : Nat) (w : World) (e' : Ending) (w' : World) : Prop := ∃ a c, e' = .returned (.slice a n c) ∧ Own enc sz e w' w.heap.size (.slice a n c) xs ∧ Below w.heap.size w w'
end Go.Proofs.Ytccailcjclbhlaa
/-! Several texts in one: -/
/-! slices.Equal at slices of numbers, of bools, of edges, of pairs: it returns whether the two hold the same. Condition: the lengths fit 63 bits. -/
namespace Go.Proofs.Ytccailcjclbhlaa
open Go.RowKit
set_option linter.unusedSimpArgs false
set_option linter.unusedVariables false

theorem take_step {α : Type} {xs ys : List α} {k : Nat} (hx : k < xs.length) (hy : k < ys.length) (h : xs.take k = ys.take k) (he : xs[k] = ys[k]) : xs.take (k + 1) = ys.take (k + 1) := by
  rw [List.take_succ_eq_append_getElem hx, List.take_succ_eq_append_getElem hy, h, he]
theorem take_all {α : Type} {xs ys : List α} (hl : xs.length = ys.length) (h : xs.take xs.length = ys.take xs.length) : xs = ys := by
  rw [List.take_length, hl, List.take_length] at h; exact h
theorem ne_of_get {α : Type} {xs ys : List α} {k : Nat} (hx : k < xs.length) (hy : k < ys.length) (he : ¬ xs[k] = ys[k]) : xs ≠ ys := by
  intro h; subst h; exact he rfl
theorem t_false {t : Bool} {p : Prop} (h : t = true ↔ p) (hp : ¬ p) : t = false := by
  cases t with
  | false => rfl
  | true => exact absurd (h.1 rfl) hp
theorem equalI (a b : Option Addr) (c1 c2 : Nat) (xs ys : List Int) (w : World) (B C : Nat) (hx : Row encI 1 w B a xs) (hy : Row encI 1 w C b ys) (hl1 : xs.length ≤ 9223372036854775807) (hl2 : ys.length ≤ 9223372036854775807) (t : Bool) (ht : t = true ↔ xs = ys) :
    Calls Try.prog 38 #[.slice a xs.length c1, .slice b ys.length c2] w fun e w' => e = .returned (.bool t) ∧ ∃ n, w' = w.drewN n := by
  by_cases hl : xs.length = ys.length
  · have ql : (((xs.length : Nat) : Int) != ((ys.length : Nat) : Int)) = false := by simp [hl]
    have HL := hide hl
    have HT := hide ht
    clear hl ht
    go_enter Try.func38, Try.ntmps38
    go_wp2
    go_loopw [13] (fun i wr => ∃ k : Nat, k ≤ xs.length ∧ i = .int .i64 k ∧ Hid (xs.take k = ys.take k) ∧ Hid (∃ n, wr = w.drewN n)) (fun i _ => xs.length - (intOf i).toNat)
    case atStart => exact ⟨0, Nat.zero_le _, rfl, rfl, ⟨0, rfl⟩⟩
    case round =>
      obtain ⟨k, hk, rfl, heq, hw⟩ := hrel
      obtain ⟨m, rfl⟩ := hw.out
      by_cases hlt : k < xs.length
      · have hlt2 : k < ys.length := by have := HL.out; omega
        obtain ⟨b1, o1, rfl, _, c0⟩ := hx.int k hlt
        obtain ⟨b2, o2, rfl, _, d0⟩ := hy.int k hlt2
        have i1 : (0 : Int) ≤ (k : Int) ∧ (k : Int) < (xs.length : Int) := by omega
        have i2 : (k : Int) < (ys.length : Int) := by omega
        go_wp2
        go_quiet (fail)
        go_wp2
        all_goals first
          | (go_ret
             refine ⟨ret_bool (t_false HT.out (ne_of_get hlt hlt2 ?_)).symm, ⟨m + nq, by simp⟩⟩
             simp_all)
          | (go_roundw
             case rel => exact ⟨k + 1, by omega, by go_num, take_step hlt hlt2 heq.out (by first | assumption | (simp_all)), ⟨m + nq, by simp⟩⟩
             case measure => simp [intOf]; omega)
      · obtain rfl : k = xs.length := by omega
        go_wp2
        go_ret
        exact ⟨ret_bool (HT.out.2 (take_all HL.out heq.out)).symm, ⟨m, rfl⟩⟩
  · have ql : (((xs.length : Nat) : Int) != ((ys.length : Nat) : Int)) = true := by simp; omega
    have HT := hide (t_false ht (fun h => hl (by rw [h])))
    clear hl ht
    go_enter Try.func38, Try.ntmps38
    go_wp2
    go_ret
    exact ⟨ret_bool HT.out.symm, ⟨0, rfl⟩⟩

end Go.Proofs.Ytccailcjclbhlaa

/-! slices.Equal with the lengths under names of their own. Conditions: the lengths fit 63 bits. -/
namespace Go.Proofs.Ytccailcjclbhlaa
open Go.RowKit

theorem eqI (a b : Option Addr) (c1 c2 n1 n2 : Nat) (xs ys : List Int) (w : World) (B C : Nat) (h1 : xs.length = n1) (h2 : ys.length = n2) (hx : Row encI 1 w B a xs) (hy : Row encI 1 w C b ys) (hl1 : n1 ≤ 9223372036854775807) (hl2 : n2 ≤ 9223372036854775807) (t : Bool) (ht : t = true ↔ xs = ys) :
    Calls Try.prog 38 #[.slice a n1 c1, .slice b n2 c2] w fun e w' => e = .returned (.bool t) ∧ ∃ n, w' = w.drewN n := by
  have := equalI a b c1 c2 xs ys w B C hx hy (by omega) (by omega) t ht
  rwa [h1, h2] at this

end Go.Proofs.Ytccailcjclbhlaa
/-! What the reference's AnyBad and Lift return. Conditions: a right net. -/
namespace Go.Proofs.Ytccailcjclbhlaa
open Go.RowKit
set_option linter.unusedSimpArgs false
set_option linter.unusedVariables false

theorem up_alloc_self {w0 w : World} {o : Obj} (h : Below w0.heap.size w0 w) : Below w0.heap.size w0 (w.alloc o) := h.alloc h.size o
/-- a made slice of numbers, as the walk has it -/
def zeros (n : Nat) : Array Value := madeCells #[.int .i64 0] (n * 1)
theorem own_zeros (w : World) (base n : Nat) (hb : base ≤ w.heap.size) (hn : n ≤ 4096) : Own encI 1 3 (w.alloc (.cells (zeros n) 3)) base (.slice (some ⟨w.heap.size, 0, none⟩) n n) (LI n (fun _ => 0)) := by
  obtain ⟨i0, hi, hz0, hz1, hz2⟩ := info_parts info_int
  have h1 := run_make (P := Try.prog) w 22 3 i0 (.int .i64 0) Try.underlying22 hi hz0 .i64 .i64 (n : Int) (n : Int) (by omega) (Int.le_refl _) (by rw [hz2]; omega) (by omega)
  obtain ⟨w1, h2, h3, _⟩ := run_make_full (P := Try.prog) w base 22 3 i0 (.int .i64 0) 1 Try.underlying22 hi hz0 hz1 .i64 .i64 n (by rw [hz2]; omega) (by unfold maxLen; omega) hb
  rw [h1] at h2
  simp only [Result.ok.injEq] at h2
  obtain ⟨_, rfl⟩ := h2
  rw [hz1] at h3
  have := own_made (enc := encI) _ base n _ 3 (0 : Int) (.int .i64 0) rfl rfl h3
  rw [li_rep] at this
  exact this
theorem run_zeros (w : World) (n : Nat) (hn : n ≤ 4096) : (Instr.makeSlice 22 (.int .i64 (n : Int)) (.int .i64 (n : Int))).run Try.prog w = .ok (.slice (some ⟨w.heap.size, 0, none⟩) n n) (w.alloc (.cells (zeros n) 3)) := by
  obtain ⟨i0, hi, hz0, hz1, hz2⟩ := info_parts info_int
  have h1 := run_make (P := Try.prog) w 22 3 i0 (.int .i64 0) Try.underlying22 hi hz0 .i64 .i64 (n : Int) (n : Int) (by omega) (Int.le_refl _) (by rw [hz2]; omega) (by omega)
  rw [h1, hz1]
  rfl
theorem own_row {w : World} {base : Nat} {e : TypeId} {a : Option Addr} {n c : Nat} {f : Nat → Int} (h : Own encI 1 e w base (.slice a n c) (LI n f)) : Row encI 1 w w.heap.size a (LI n f) := by
  obtain ⟨a', c', hv, hr5, _⟩ := h.row lenI
  simp only [Value.slice.injEq] at hv
  obtain ⟨rfl, _⟩ := hv
  exact hr5
end Go.Proofs.Ytccailcjclbhlaa
/-! A made slice of bools, as the walk has it. Conditions: a bound on the length. -/
namespace Go.Proofs.Ytccailcjclbhlaa
open Go.RowKit
set_option linter.unusedSimpArgs false
set_option linter.unusedVariables false
def zerosB (n : Nat) : Array Value := madeCells #[.bool false] (n * 1)
theorem ordB_nil (n : Nat) : List.replicate n false = ordB n [] := by
  unfold ordB
  refine List.ext_getElem (by simp) fun i h1 h2 => by simp
theorem own_zerosB (w : World) (base n : Nat) (hb : base ≤ w.heap.size) (hn : n ≤ 4096) : Own encB 1 4 (w.alloc (.cells (zerosB n) 4)) base (.slice (some ⟨w.heap.size, 0, none⟩) n n) (ordB n []) := by
  obtain ⟨i0, hi, hz0, hz1, hz2⟩ := info_parts info_bool
  have h1 := run_make (P := Try.prog) w 84 4 i0 (.bool false) Try.underlying84 hi hz0 .i64 .i64 (n : Int) (n : Int) (by omega) (Int.le_refl _) (by rw [hz2]; omega) (by omega)
  obtain ⟨w1, h2, h3, _⟩ := run_make_full (P := Try.prog) w base 84 4 i0 (.bool false) 1 Try.underlying84 hi hz0 hz1 .i64 .i64 n (by rw [hz2]; omega) (by unfold maxLen; omega) hb
  rw [h1] at h2
  simp only [Result.ok.injEq] at h2
  obtain ⟨_, rfl⟩ := h2
  rw [hz1] at h3
  have := own_made (enc := encB) _ base n _ 4 false (.bool false) rfl rfl h3
  rw [ordB_nil] at this
  exact this
theorem run_zerosB (w : World) (n : Nat) (hn : n ≤ 4096) : (Instr.makeSlice 84 (.int .i64 (n : Int)) (.int .i64 (n : Int))).run Try.prog w = .ok (.slice (some ⟨w.heap.size, 0, none⟩) n n) (w.alloc (.cells (zerosB n) 4)) := by
  obtain ⟨i0, hi, hz0, hz1, hz2⟩ := info_parts info_bool
  have h1 := run_make (P := Try.prog) w 84 4 i0 (.bool false) Try.underlying84 hi hz0 .i64 .i64 (n : Int) (n : Int) (by omega) (Int.le_refl _) (by rw [hz2]; omega) (by omega)
  rw [h1, hz1]
  rfl
end Go.Proofs.Ytccailcjclbhlaa
/-! Costs from one place by a list of what waits: what stays true, step by step. No program here. -/
namespace Go.Proofs.Ytccailcjclbhlaa
set_option linter.unusedVariables false

/-- what stays true: E the edges, s the costs to begin with, S the places looked from, m the last cost, todo the edges of the last place that are still to do -/
structure DInv (n : Nat) (E : List NE) (s : Nat → Int) (S : Nat → Bool) (m : Int) (todo : List NE) (d : Nat → Int) (L : List P2) : Prop where
  att : Att E s d
  far : ∀ v, d v ≤ FAR
  pos : ∀ v, 0 ≤ d v
  ent : ∀ p ∈ L, 0 ≤ p.b ∧ p.b < n ∧ d p.b.toNat ≤ p.a ∧ m ≤ p.a ∧ p.a ≤ FAR
  nodup : L.Nodup
  wait : ∀ v, v < n → d v < FAR → S v = false → (⟨d v, (v : Int)⟩ : P2) ∈ L
  low : ∀ v, S v = true → d v ≤ m
  edge : ∀ e ∈ E, S e.u = true → e ∉ todo → d e.v ≤ d e.u + e.c
  old : ∀ p ∈ L, S p.b.toNat = true → d p.b.toNat < p.a
theorem DInv.perm {n : Nat} {E : List NE} {s d : Nat → Int} {S : Nat → Bool} {m : Int} {todo : List NE} {L L' : List P2} (h : DInv n E s S m todo d L) (hp : L'.Perm L) : DInv n E s S m todo d L' :=
  ⟨h.att, h.far, h.pos, fun p hm => h.ent p (hp.mem_iff.1 hm), hp.nodup_iff.2 h.nodup, fun v hv h1 h2 => hp.mem_iff.2 (h.wait v hv h1 h2), h.low, h.edge, fun p hm => h.old p (hp.mem_iff.1 hm)⟩
/-- an edge that does not give way -/
theorem DInv.stay {n : Nat} {E : List NE} {s d : Nat → Int} {S : Nat → Bool} {m : Int} {e : NE} {todo : List NE} {L : List P2} (h : DInv n E s S m (e :: todo) d L) (hd : d e.u = m) (hq : ¬ m + e.c < d e.v) : DInv n E s S m todo d L := by
  refine ⟨h.att, h.far, h.pos, h.ent, h.nodup, h.wait, h.low, fun x hx hS ht => ?_, h.old⟩
  by_cases hxe : x = e
  · subst hxe; omega
  · exact h.edge x hx hS (fun hm => by rcases List.mem_cons.1 hm with e1 | e1; exact hxe e1; exact ht e1)
/-- an edge that gives way -/
theorem DInv.give {n : Nat} {E : List NE} {s d : Nat → Int} {S : Nat → Bool} {m : Int} {e : NE} {todo : List NE} {L L' : List P2} (h : DInv n E s S m (e :: todo) d L) (he : e ∈ E) (hn : e.v < n) (hS : S e.u = true) (hd : d e.u = m) (hc : 0 ≤ e.c) (hq : m + e.c < d e.v)
    (hL : L'.Perm (L ++ [⟨m + e.c, (e.v : Int)⟩])) : DInv n E s S m todo (upz d e.v (m + e.c)) L' := by
  have hF := h.far e.v
  have hP := h.pos e.u
  have hSv : S e.v = false := by
    cases hh : S e.v with
    | false => rfl
    | true => have := h.low _ hh; omega
  have hne : ∀ v, S v = true → v ≠ e.v := by rintro v hv rfl; rw [hSv] at hv; cases hv
  refine DInv.perm (L := L ++ [⟨m + e.c, (e.v : Int)⟩]) ?_ hL
  constructor
  · intro v
    by_cases hv : v = e.v
    · subst hv
      rw [upz_same]
      refine ⟨by have := (h.att e.v).1; omega, fun hlt => ?_⟩
      have h1 := (h.att e.u).2 (by omega)
      rw [hd] at h1
      exact At.step e m he h1 (by omega) hlt
    · rw [upz_other _ _ hv]; exact h.att v
  · intro v
    by_cases hv : v = e.v
    · subst hv; rw [upz_same]; omega
    · rw [upz_other _ _ hv]; exact h.far v
  · intro v
    by_cases hv : v = e.v
    · subst hv; rw [upz_same]; omega
    · rw [upz_other _ _ hv]; exact h.pos v
  · intro p hp
    rcases List.mem_append.1 hp with hp | hp
    · obtain ⟨h1, h2, h3, h4, h5⟩ := h.ent p hp
      refine ⟨h1, h2, ?_, h4, h5⟩
      by_cases hv : p.b.toNat = e.v
      · rw [hv, upz_same]; rw [hv] at h3; omega
      · rw [upz_other _ _ hv]; exact h3
    · obtain rfl := List.mem_singleton.1 hp
      simp only [Int.toNat_natCast, upz_same]
      omega
  · refine List.nodup_append.2 ⟨h.nodup, by simp, ?_⟩
    intro p hp q hq2 hpq
    obtain rfl := List.mem_singleton.1 hq2
    subst hpq
    have := (h.ent _ hp).2.2.1
    simp only [Int.toNat_natCast] at this
    omega
  · intro v hv h1 h2
    by_cases hve : v = e.v
    · subst hve
      rw [upz_same]
      exact List.mem_append_right _ (List.mem_singleton.2 rfl)
    · rw [upz_other _ _ hve] at h1 ⊢
      exact List.mem_append_left _ (h.wait v hv h1 h2)
  · intro v hv
    rw [upz_other _ _ (hne v hv)]
    exact h.low v hv
  · intro x hx hSx ht
    rw [upz_other _ _ (hne _ hSx)]
    by_cases hxe : x = e
    · subst hxe; rw [upz_same]; omega
    · have h1 := h.edge x hx hSx (fun hm => by rcases List.mem_cons.1 hm with e1 | e1; exact hxe e1; exact ht e1)
      by_cases hv : x.v = e.v
      · rw [hv, upz_same]; rw [hv] at h1; omega
      · rw [upz_other _ _ hv]; exact h1
  · intro p hp hSp
    rcases List.mem_append.1 hp with hp | hp
    · have := h.old p hp hSp
      rw [upz_other _ _ (hne _ hSp)]
      exact this
    · obtain rfl := List.mem_singleton.1 hp
      simp only [Int.toNat_natCast] at hSp
      rw [hSv] at hSp; cases hSp
/-- the least taken: it is old -/
theorem DInv.drop {n : Nat} {E : List NE} {s d : Nat → Int} {S : Nat → Bool} {m : Int} {p : P2} {L L' : List P2} (h : DInv n E s S m [] d L) (hL : (p :: L').Perm L) (ho : d p.b.toNat < p.a) : DInv n E s S m [] d L' := by
  replace h := h.perm hL
  refine ⟨h.att, h.far, h.pos, fun q hq => h.ent q (List.mem_cons_of_mem _ hq), (List.nodup_cons.1 h.nodup).2, fun v hv h1 h2 => ?_, h.low, h.edge, fun q hq => h.old q (List.mem_cons_of_mem _ hq)⟩
  rcases List.mem_cons.1 (h.wait v hv h1 h2) with e | e
  · subst e; simp at ho
  · exact e
/-- the least taken: the place is looked from -/
theorem DInv.look {n : Nat} {E : List NE} {s d : Nat → Int} {S : Nat → Bool} {m : Int} {p : P2} {L L' : List P2} {v : Nat} {todo : List NE} (h : DInv n E s S m [] d L) (hL : (p :: L').Perm L) (hv : p.b = (v : Int)) (ho : p.a ≤ d v) (hmin : ∀ q ∈ L', p.a ≤ q.a) (ht : ∀ e ∈ E, e.u = v → e ∈ todo) :
    p.a = d v ∧ S v = false ∧ v < n ∧ DInv n E s (upz S v true) p.a todo d L' := by
  replace h := h.perm hL
  obtain ⟨p1, p2, p3, p4, p5⟩ := h.ent p (List.mem_cons_self ..)
  have hbt : p.b.toNat = v := by rw [hv]; simp
  rw [hbt] at p3
  have hk : p.a = d v := by omega
  have hSv : S v = false := by
    cases hh : S v with
    | false => rfl
    | true => have := h.old p (List.mem_cons_self ..) (by rw [hbt]; exact hh); rw [hbt] at this; omega
  refine ⟨hk, hSv, by omega, h.att, h.far, h.pos, ?_, (List.nodup_cons.1 h.nodup).2, ?_, ?_, ?_, ?_⟩
  · intro q hq
    obtain ⟨h1, h2, h3, h4, h5⟩ := h.ent q (List.mem_cons_of_mem _ hq)
    exact ⟨h1, h2, h3, hmin q hq, h5⟩
  · intro u hu h1 h2
    have huv : u ≠ v := by rintro rfl; rw [upz_same] at h2; cases h2
    rw [upz_other _ _ huv] at h2
    rcases List.mem_cons.1 (h.wait u hu h1 h2) with e | e
    · subst e; simp only at hv; omega
    · exact e
  · intro u hu
    by_cases huv : u = v
    · subst huv; omega
    · rw [upz_other _ _ huv] at hu; have := h.low u hu; omega
  · intro e he hSe hte
    by_cases huv : e.u = v
    · exact absurd (ht e he huv) hte
    · rw [upz_other _ _ huv] at hSe
      exact h.edge e he hSe (by simp)
  · intro q hq hSq
    by_cases huv : q.b.toNat = v
    · obtain ⟨h1, h2, h3, h4, h5⟩ := h.ent q (List.mem_cons_of_mem _ hq)
      rw [huv] at h3 ⊢
      rcases Int.lt_or_eq_of_le h3 with hlt | heq
      · exact hlt
      · exfalso
        have : q = p := by
          obtain ⟨qa, qb⟩ := q
          obtain ⟨pa, pb⟩ := p
          simp only at *
          rw [P2.mk.injEq]
          omega
        subst this
        exact (List.nodup_cons.1 h.nodup).1 hq
    · rw [upz_other _ _ huv] at hSq
      exact h.old q (List.mem_cons_of_mem _ hq) hSq
/-- nothing waits any more: these are the costs -/
theorem DInv.done {n : Nat} {E : List NE} {s d : Nat → Int} {S : Nat → Bool} {m : Int} (h : DInv n E s S m [] d []) (hn : 1 ≤ n) (hE : ∀ e ∈ E, e.u < n ∧ e.v < n) (hs : ∀ v, s v ≤ FAR) (v : Nat) (hv : v < n) : spread E s (n - 1) v = d v := by
  refine spread_fix hn hE hs (fun e he hlt => ?_) h.att (n - 1) (by omega) v hv
  refine h.edge e he ?_ (by simp)
  cases hh : S e.u with
  | true => rfl
  | false => have := h.wait e.u (hE e he).1 hlt hh; cases this
/-- at the start -/
theorem DInv.start {n : Nat} {E : List NE} {s : Nat → Int} (f : Nat) (hf : f < n) (h1 : s f = 0) (h2 : ∀ v, v ≠ f → s v = FAR) : DInv n E s (fun _ => false) 0 [] s [⟨0, (f : Int)⟩] := by
  have h0 : ∀ v, s v = 0 ∨ s v = FAR := fun v => by
    by_cases hv : v = f
    · subst hv; exact .inl h1
    · exact .inr (h2 v hv)
  refine ⟨att_start E s, fun v => ?_, fun v => ?_, ?_, by simp, ?_, by simp, by simp, by simp⟩
  · rcases h0 v with h | h <;> rw [h] <;> simp [FAR]
  · rcases h0 v with h | h <;> rw [h] <;> simp [FAR]
  · intro p hp
    obtain rfl := List.mem_singleton.1 hp
    simp only [Int.toNat_natCast, h1]
    simp [FAR]; omega
  · intro v hv hlt _
    by_cases hvf : v = f
    · subst hvf; rw [h1]; simp
    · rw [h2 v hvf] at hlt; omega

/-! how many may still wait -/
/-- edges of places not yet looked from -/
def rest (E : List NE) (S : Nat → Bool) : Nat := E.countP fun e => !S e.u
theorem rest_mark {E : List NE} {S : Nat → Bool} {v : Nat} (h : S v = false) : rest E (upz S v true) + E.countP (fun e => decide (e.u = v)) = rest E S := by
  unfold rest
  induction E with
  | nil => rfl
  | cons e r ih =>
    simp only [List.countP_cons]
    by_cases hv : e.u = v
    · simp only [hv, upz_same, h, decide_true]; simp; omega
    · simp only [upz_other _ _ hv, decide_eq_false hv]; simp; omega
theorem rest_le (E : List NE) (S : Nat → Bool) : rest E S ≤ E.length := List.countP_le_length
end Go.Proofs.Ytccailcjclbhlaa
/-! What net.Outs returns: of each place the numbers of the edges from it. Conditions: a right net. -/
namespace Go.Proofs.Ytccailcjclbhlaa
open Go.RowKit
set_option linter.unusedSimpArgs false
set_option linter.unusedVariables false

/-- the numbers below k of the edges from v -/
def outIdx (es : List Ed) (v k : Nat) : List Int := ((List.range k).filter fun i => (es.map (·.u)).getD i (-1) == (v : Int)).map Int.ofNat
def outRows (n : Nat) (es : List Ed) (k : Nat) : List (List Int) := (List.range n).map fun v => outIdx es v k
theorem outRows_len (n : Nat) (es : List Ed) (k : Nat) : (outRows n es k).length = n := by simp [outRows]
theorem outRows_zero (n : Nat) (es : List Ed) : outRows n es 0 = List.replicate n [] := by
  apply List.ext_getElem
  · simp [outRows]
  · intro i h1 h2; simp [outRows, outIdx]
theorem outIdx_len (es : List Ed) (v k : Nat) : (outIdx es v k).length ≤ k := by
  unfold outIdx
  rw [List.length_map]
  exact Nat.le_trans (List.length_filter_le _ _) (by simp)
theorem outRows_get (n : Nat) (es : List Ed) (k u : Nat) (h : u < (outRows n es k).length) : (outRows n es k)[u] = outIdx es u k := by simp [outRows]
theorem outRows_step (n : Nat) (es : List Ed) (k u : Nat) (hk : k < es.length) (hu : es[k].u = (u : Int)) (hn : u < n) : outRows n es (k + 1) = (outRows n es k).set u (outIdx es u k ++ [(k : Int)]) := by
  apply List.ext_getElem
  · simp [outRows]
  · intro i h1 h2
    have hi : i < n := by simpa [outRows] using h1
    have e : (es.map (·.u)).getD k (-1) = (u : Int) := by
      simp [List.getD, List.getElem?_eq_getElem hk, hu]
    have e' : (Option.map (fun x : Ed => x.u) es[k]?).getD (-1) = (u : Int) := by simp [List.getElem?_eq_getElem hk, hu]
    by_cases hiu : u = i
    · subst hiu
      rw [List.getElem_set_self, outRows_get]
      unfold outIdx
      rw [List.range_succ, List.filter_append, List.map_append]
      congr 1
      simp [List.filter_cons, e']
    · rw [List.getElem_set_ne hiu, outRows_get, outRows_get]
      unfold outIdx
      rw [List.range_succ, List.filter_append, List.map_append]
      have : ((u : Int) == (i : Int)) = false := by simp; omega
      have hui : ¬ (u : Int) = (i : Int) := by omega
      simp [List.filter_cons, e', hui]

theorem outs_step {n k u G c rl cv g cap' m base : Nat} {eo ei : TypeId} {es : List Ed} {wr w2 : World} {av : Option Addr} (own : Own2 encI 1 eo ei wr base (.slice (some ⟨G, 0, none⟩) n c) (outRows n es k)) (hne : eo ≠ ei) (hk : k < es.length) (hu : es[k].u = (u : Int)) (hun : u < n)
    (r0 : wr.cell? ⟨G, u, none⟩ = some (.slice av rl cv)) {E X : Obj} (hg2 : ((wr.alloc E).alloc X).drew.grownBy w2 (Value.slice av rl cv).ownBlock)
    (own2 : w2.ownsRow base ei 1 (.slice (some ⟨g, 0, none⟩) m cap') ((outIdx es u k).length + 1) ((outIdx es u k).flatMap encI ++ [.int .i64 (k : Int)])) (hat : (Value.slice av rl cv).ownBlock = some g ∨ g = wr.heap.size + 1 + 1) :
    Own2 encI 1 eo ei (w2.setCell ⟨G, u, none⟩ (.slice (some ⟨g, 0, none⟩) m cap')) base (.slice (some ⟨G, 0, none⟩) n c) (outRows n es (k + 1)) := by
  have hul : u < (outRows n es k).length := by rw [outRows_len]; exact hun
  have own' : Own encI 1 ei w2 base (.slice (some ⟨g, 0, none⟩) m cap') (outIdx es u k ++ [(k : Int)]) := by
    unfold Own
    rw [List.length_append, List.flatMap_append]
    exact own2
  have := Own2.put ((own.alloc E).alloc X).drew hne u hul (cu_drew (cu_alloc (cu_alloc r0))) hg2 own' (by
    intro j hj
    simp [Value.ownBlock] at hj
    subst hj
    rcases hat with h | h
    · exact .inl h
    · right; simp; omega)
  rw [outRows_step n es k u hk hu hun]
  exact this

set_option maxRecDepth 100000 in
set_option maxHeartbeats 4000000 in
theorem outs_any (n : Nat) (a : Option Addr) (cap : Nat) (es : List Ed) (w : World) (B : Nat) (hB : B ≤ w.heap.size) (hE : Row encE 3 w B a es) (hn : n ≤ 64) (hl : es.length ≤ 9000) (hes : ∀ e ∈ es, 0 ≤ e.u ∧ e.u < n) :
    Calls Try.prog 37 #[.agg #[.int .i64 (n : Int), .slice a es.length cap]] w fun e w' => ∃ g, e = .returned (.slice (some ⟨g, 0, none⟩) n n) ∧ Own2 encI 1 22 3 w' w.heap.size (.slice (some ⟨g, 0, none⟩) n n) (outRows n es es.length) ∧ Below w.heap.size w w' := by
  obtain ⟨i0, hi, hz0, hz1, hz2⟩ := info_parts info_row
  have hE := hide hE
  go_enter Try.func37, Try.ntmps37
  go_wp2_with (at_make; go_must (refine wpList_make_full _ rfl (.tmp 7) (.tmp 7) 83 rfl w.heap.size 22 i0 (.slice none 0 0) 1 Try.underlying83 hi hz0 hz1 .i64 .i64 (n : Int) (n : Int) n rfl rfl rfl rfl (by rw [hz2]; omega) (by unfold maxLen; omega) (by simp) ?_; intro w1 own1 hg1; have hb1 := (Below.refl _ _).grown hg1 (Nat.le_refl _) (fun k hk => by cases hk); obtain ⟨hc1, hf1⟩ := bcell hb1; have hz1 : w.heap.size < w1.heap.size := (by have := hb1.size; (try simp at this); omega)))
  replace own1 := hide (own2_made w1 w.heap.size (w.heap.size + 1) n 22 3 (by simpa using own1))
  have hlt1 : w.heap.size + 1 < w1.heap.size := by obtain ⟨vs, _, h2, _⟩ := own1.out; exact h2.at_base.2
  have hbw : Below w.heap.size w w1 := (up_alloc (Below.refl _ _) (Nat.le_refl _)).trans (hb1.mono (by simp))
  go_loopw [12] (fun i wr => ∃ k : Nat, k ≤ es.length ∧ i = .int .i64 k ∧ Hid (Own2 encI 1 22 3 wr w.heap.size (.slice (some ⟨w.heap.size + 1, 0, none⟩) n n) (outRows n es k)) ∧ Below w.heap.size w wr ∧ w.heap.size + 1 < wr.heap.size) (fun i _ => es.length - (intOf i).toNat)
  case atStart => exact ⟨0, Nat.zero_le _, rfl, by rw [outRows_zero]; exact own1, hbw, hlt1⟩
  case round =>
    obtain ⟨k, hk, rfl, own, hb, hsz⟩ := hrel
    clear own1 hb1 hc1 hf1 hg1 hbw
    by_cases hlt : k < es.length
    · obtain ⟨u, hu⟩ := Int.eq_ofNat_of_zero_le (hes es[k] (List.getElem_mem hlt)).1
      have hun : u < n := by have := (hes es[k] (List.getElem_mem hlt)).2; omega
      obtain ⟨b, o, rfl, hbB, e0, e1, e2⟩ := hE.out.ed k hlt
      rw [← hb.cell (by simp; omega)] at e0 e1 e2
      rw [hu] at e0
      have hul : u < (outRows n es k).length := by rw [outRows_len]; exact hun
      obtain ⟨av, cv, r0, rown, rf⟩ := own.out.at u hul
      rw [outRows_get] at r0 rown
      have hrl := outIdx_len es u k
      obtain ⟨rl, hrl2⟩ : ∃ rl, rl = (outIdx es u k).length := ⟨_, rfl⟩
      rw [← hrl2] at r0 rown hrl
      have hrl3 := hide hrl2
      have hU := hide hu
      have hap := own.out.apart (by decide) u hul r0
      replace rown := hide rown
      obtain ⟨j0, hj, hj0, hj1, hj2⟩ := info_parts info_int
      have hblk := rown.out.block_lt
      have hrl4 := outIdx_len es u k
      have hsz3 : w.heap.size < wr.heap.size := by omega
      have iu : (0 : Int) ≤ (u : Int) ∧ (u : Int) < (n : Int) := by omega
      clear hrl2 hu
      go_wp2
      go_region_law (first | (refine step_append_lies _ rfl (.tmp 24) (.tmp 26) 22 rfl w.heap.size 3 j0 (.int .i64 0) 1 8 Try.underlying22 hj hj0 hj1 hj2 rfl (by decide) (.slice av rl cv) (outIdx es u k).length _ (by rw [hrl3.out]; rfl) (Own.drew (Own.alloc (Own.alloc rown.out _) _)) ⟨wr.heap.size + 1, 0, none⟩ 1 1 [.int .i64 (k : Int)] rfl rfl (newI _ _ _ _ (by simp)) (oneI _) (by omega) (by unfold maxLen; omega) (by omega) (by simp; omega) (wr.heap.size + 1 + 1) (by simp) ?_; intro g cap' w2 own2 hg2 hat hlt2; have k0 := hg2.cell (a := ⟨w.heap.size + 1, u, none⟩) (cu_drew (cu_alloc (cu_alloc r0))) (fun e => hap e.symm); have k1 := hg2.frozen_far ⟨w.heap.size + 1, u, none⟩ (by simp; omega) (fun e => hap e.symm); rw [fu_drew (fu_alloc (fu_alloc (rf u)))] at k1; have k2 := hg2.cell (a := ⟨wr.heap.size, 0, none⟩) (v := .int .i64 (u : Int)) (by simp [go_sem]) (fun e => by have := hblk _ e.symm; simp at this)))
      all_goals
        go_wp2
        go_roundw
        case rel =>
          refine ⟨k + 1, by omega, by go_num, hide (outs_step own.out (by decide) hlt hU.out hun r0 hg2 own2 hat), ?_, ?_⟩
          · refine up_set (hb.trans ?_) (by simp)
            exact (unalloc (unalloc (((up_drew (Below.refl _ _)).trans ((Below.refl _ _).grown hg2 (by simp; omega) (fun j hj => (hblk j hj).1)) : Below w.heap.size _ w2)) (by simp; omega)) (by omega))
          · have := hg2.size; simp at this; simp; omega
        case measure => simp [intOf]; omega
    · obtain rfl : k = es.length := by omega
      go_wp2
      go_ret
      exact ⟨_, rfl, own.out, hb⟩
end Go.Proofs.Ytccailcjclbhlaa
/-! The edges from a place, by their numbers: what is still to do. No program here. -/
namespace Go.Proofs.Ytccailcjclbhlaa
set_option linter.unusedVariables false

def edAt (es : List Ed) (i : Int) : NE := (nes es).getD i.toNat ⟨0, 0, 0⟩
def todoOf (es : List Ed) (v j : Nat) : List NE := ((outIdx es v es.length).drop j).map (edAt es)
theorem edAt_is {es : List Ed} {i u v : Nat} (hi : i < es.length) (hu : es[i].u = (u : Int)) (hv : es[i].v = (v : Int)) : edAt es (i : Int) = ⟨u, v, es[i].c⟩ := by
  unfold edAt nes
  simp [List.getD, List.getElem?_eq_getElem hi, hu, hv]
theorem outIdx_mem {es : List Ed} {v k : Nat} {x : Int} : x ∈ outIdx es v k ↔ ∃ i : Nat, x = (i : Int) ∧ i < k ∧ (es.map (·.u)).getD i (-1) = (v : Int) := by
  unfold outIdx
  simp only [List.mem_map, List.mem_filter, List.mem_range, beq_iff_eq]
  constructor
  · rintro ⟨i, ⟨h1, h2⟩, rfl⟩; exact ⟨i, rfl, h1, h2⟩
  · rintro ⟨i, rfl, h1, h2⟩; exact ⟨i, ⟨h1, h2⟩, rfl⟩
theorem outIdx_get (es : List Ed) (v j : Nat) (h : j < (outIdx es v es.length).length) : ∃ i : Nat, (outIdx es v es.length)[j] = (i : Int) ∧ ∃ hi : i < es.length, es[i].u = (v : Int) := by
  obtain ⟨i, h1, h2, h3⟩ := outIdx_mem.1 (List.getElem_mem h)
  refine ⟨i, h1, h2, ?_⟩
  simpa [List.getD, List.getElem?_eq_getElem h2] using h3
theorem todo_step {es : List Ed} {v j i u : Nat} (h : j < (outIdx es v es.length).length) (hx : (outIdx es v es.length)[j] = (i : Int)) (hi : i < es.length) (hv : es[i].u = (v : Int)) (hu : es[i].v = (u : Int)) :
    todoOf es v j = ⟨v, u, es[i].c⟩ :: todoOf es v (j + 1) := by
  unfold todoOf
  rw [List.drop_eq_getElem_cons h, List.map_cons, hx, edAt_is hi hv hu]
theorem todo_end {es : List Ed} {v : Nat} : todoOf es v (outIdx es v es.length).length = [] := by simp [todoOf]
theorem todo_all {K : Int} {n : Nat} {es : List Ed} (hR : RightK K n es) (v : Nat) : ∀ e ∈ nes es, e.u = v → e ∈ todoOf es v 0 := by
  intro e he hv
  obtain ⟨k, hk, hek⟩ := List.getElem_of_mem he
  have hk' : k < es.length := by simpa [nes] using hk
  obtain ⟨u, w, h1, h2, h3, h4, h5⟩ := right_edgeK hR k hk'
  have hee : e = ⟨u, w, es[k].c⟩ := by
    rw [← hek]; simp [nes, h1, h2]
  subst hee
  simp only at hv
  subst hv
  refine List.mem_map.2 ⟨(k : Int), ?_, edAt_is hk' h1 h2⟩
  rw [List.drop_zero]
  exact outIdx_mem.2 ⟨k, rfl, hk', by simp [List.getD, List.getElem?_eq_getElem hk', h1]⟩
theorem outIdx_succ (es : List Ed) (v k : Nat) : outIdx es v (k + 1) = outIdx es v k ++ (if (es.map (·.u)).getD k (-1) = (v : Int) then [(k : Int)] else []) := by
  unfold outIdx
  rw [List.range_succ, List.filter_append, List.map_append]
  congr 1
  by_cases h : (es.map (·.u)).getD k (-1) = (v : Int)
  · rw [if_pos h, List.filter_cons, if_pos (by simpa using h)]
    rfl
  · rw [if_neg h, List.filter_cons, if_neg (by simpa using h)]
    rfl
theorem outIdx_count {K : Int} {n : Nat} {es : List Ed} (hR : RightK K n es) (v : Nat) : ∀ k, k ≤ es.length → (outIdx es v k).length = (nes (es.take k)).countP (fun e => decide (e.u = v))
  | 0, _ => by simp [outIdx, nes]
  | k + 1, hk => by
    obtain ⟨u, w, h1, h2, h3, h4, h5⟩ := right_edgeK hR k (by omega)
    rw [outIdx_succ, List.length_append, outIdx_count hR v k (by omega), h5.2.2, List.countP_append]
    congr 1
    have e : (es.map (·.u)).getD k (-1) = (u : Int) := by simp [List.getD, List.getElem?_eq_getElem (show k < es.length by omega), h1]
    rw [e]
    by_cases h : u = v
    · subst h; simp
    · rw [if_neg (by omega)]; simp [h]
theorem todo_len {K : Int} {n : Nat} {es : List Ed} (hR : RightK K n es) (v : Nat) : (outIdx es v es.length).length = (nes es).countP (fun e => decide (e.u = v)) := by
  have := outIdx_count hR v es.length (Nat.le_refl _)
  rwa [List.take_length] at this
end Go.Proofs.Ytccailcjclbhlaa
/-! The table of the edges from each place, kept while other blocks are written; what star.Search makes at its start. No condition. -/
namespace Go.Proofs.Ytccailcjclbhlaa
open Go.RowKit
set_option linter.unusedSimpArgs false
set_option linter.unusedVariables false
/-- the table of the edges from each place stands in the blocks from lo to hi -/
def OutsAt (wr : World) (lo hi O n : Nat) (es : List Ed) : Prop :=
  ∃ w1 : World, w1.heap.size = hi ∧ Own2 encI 1 22 3 w1 lo (.slice (some ⟨O, 0, none⟩) n n) (outRows n es es.length) ∧ hi ≤ wr.heap.size ∧ ∀ k, lo ≤ k → k < hi → wr.heap[k]? = w1.heap[k]?
section
variable {wr w' : World} {lo hi O n : Nat} {es : List Ed}
theorem OutsAt.made (h : Own2 encI 1 22 3 wr lo (.slice (some ⟨O, 0, none⟩) n n) (outRows n es es.length)) : OutsAt wr lo wr.heap.size O n es := ⟨wr, rfl, h, Nat.le_refl _, fun _ _ _ => rfl⟩
theorem OutsAt.later {S : Nat → Prop} (h : OutsAt wr lo hi O n es) (hk : Keep S wr w') (hS : ∀ k, lo ≤ k → k < hi → ¬ S k) : OutsAt w' lo hi O n es := by
  obtain ⟨w1, h1, h2, h3, h4⟩ := h
  exact ⟨w1, h1, h2, Nat.le_trans h3 hk.size, fun k a b => (hk.block k (by omega) (hS k a b)).trans (h4 k a b)⟩
/-- a place's own row -/
theorem OutsAt.row (h : OutsAt wr lo hi O n es) (u : Nat) (hu : u < n) : ∃ av cv, wr.cell? ⟨O, u, none⟩ = some (.slice av (outIdx es u es.length).length cv) ∧ lo ≤ O ∧ O < hi ∧ hi ≤ wr.heap.size ∧
    Own encI 1 3 wr lo (.slice av (outIdx es u es.length).length cv) (outIdx es u es.length) ∧ ∀ k, (Value.slice av (outIdx es u es.length).length cv).ownBlock = some k → lo ≤ k ∧ k < hi := by
  obtain ⟨w1, h1, h2, h3, h4⟩ := h
  have hul : u < (outRows n es es.length).length := by rw [outRows_len]; exact hu
  obtain ⟨av, cv, r0, rown, _⟩ := h2.at u hul
  rw [outRows_get] at r0 rown
  have hO : lo ≤ O ∧ O < w1.heap.size := by obtain ⟨vs, _, h5, _⟩ := h2; exact h5.at_base
  refine ⟨av, cv, ?_, hO.1, by omega, h3, ?_, fun k hk => by have := rown.block_lt k hk; omega⟩
  · rw [World.cell?_of_block (w := w1) (h4 O hO.1 (by omega))]; exact r0
  · refine ⟨rown.1, ?_⟩
    rcases rown.2 with hn | ⟨g, cap, cur, hv, hg, hh, r⟩
    · exact .inl hn
    · refine .inr ⟨g, cap, cur, hv, hg, ?_, r⟩
      rw [h4 g hg (by have := (Array.getElem?_eq_some_iff.1 hh).1; omega)]
      exact hh
end
/-- what Search makes at its start -/
structure SMade (w0 : World) (n : Nat) (es : List Ed) (hv kf : Value) (sb gc gp gd gh O lo hi : Nat) (wx : World) : Prop where
  c2 : wx.cell? ⟨sb, 2, none⟩ = some (.slice (some ⟨O, 0, none⟩) n n)
  c3 : wx.cell? ⟨sb, 3, none⟩ = some hv
  c4 : wx.cell? ⟨sb, 4, none⟩ = some (.slice (some ⟨gc, 0, none⟩) n n)
  c5 : wx.cell? ⟨sb, 5, none⟩ = some (.slice (some ⟨gp, 0, none⟩) n n)
  c6 : wx.cell? ⟨sb, 6, none⟩ = some (.slice (some ⟨gd, 0, none⟩) n n)
  c7 : wx.cell? ⟨sb, 7, none⟩ = some (.pointer (some ⟨gh, 0, none⟩))
  c8 : wx.cell? ⟨sb, 8, none⟩ = some kf
  cost : Own encI 1 3 wx w0.heap.size (.slice (some ⟨gc, 0, none⟩) n n) (LI n (fun _ => 0))
  pred : Own encI 1 3 wx w0.heap.size (.slice (some ⟨gp, 0, none⟩) n n) (LI n (fun _ => 0))
  done : Own encB 1 4 wx w0.heap.size (.slice (some ⟨gd, 0, none⟩) n n) (ordB n [])
  heap : HeapT wx gh gh (.func (.func 36) #[] #[]) (.slice none 0 0) 0 (fun _ => ⟨0, 0, 0⟩)
  outs : OutsAt wx lo hi O n es
  below : Below w0.heap.size w0 wx
  low : w0.heap.size ≤ sb ∧ w0.heap.size ≤ gh
  lt : sb < wx.heap.size ∧ gh < wx.heap.size
  ne : sb ≠ gc ∧ sb ≠ gp ∧ sb ≠ gd ∧ sb ≠ gh ∧ gc ≠ gp ∧ gc ≠ gd ∧ gc ≠ gh ∧ gp ≠ gd ∧ gp ≠ gh ∧ gd ≠ gh
  dis : (gc < lo ∨ hi ≤ gc) ∧ (gp < lo ∨ hi ≤ gp) ∧ (gd < lo ∨ hi ≤ gd) ∧ (gh < lo ∨ hi ≤ gh)
/-- a place's own edges -/
theorem todo_filter {n : Nat} {es : List Ed} (hR : Right n es) (v : Nat) : todoOf es v 0 = (nes es).filter fun e => decide (e.u = v) := by
  have key : ∀ k, k ≤ es.length → (outIdx es v k).map (edAt es) = (nes (es.take k)).filter fun e => decide (e.u = v) := by
    intro k
    induction k with
    | zero => intro _; simp [outIdx, nes]
    | succ k ih =>
      intro hk
      obtain ⟨u, x, h1, h2, h3, h4, h5⟩ := right_edgeK hR k (by omega)
      rw [outIdx_succ, List.map_append, ih (by omega), h5.2.2, List.filter_append]
      congr 1
      have e : (es.map (·.u)).getD k (-1) = (u : Int) := by simp [List.getD, List.getElem?_eq_getElem (show k < es.length by omega), h1]
      rw [e]
      by_cases h : u = v
      · subst h
        rw [if_pos rfl]
        simp [edAt_is (show k < es.length by omega) h1 h2]
      · rw [if_neg (by omega)]
        simp [h]
  have := key es.length (Nat.le_refl _)
  rw [List.take_length] at this
  unfold todoOf
  rw [List.drop_zero]
  exact this
theorem upz_own {α : Type} (f : Nat → α) (v : Nat) : upz f v (f v) = f := by
  funext u
  unfold upz
  split
  · subst_vars; rfl
  · rfl
theorem own_rowL {e : TypeId} {w : World} {base n c : Nat} {a : Option Addr} {xs : List Int} (h : Own encI 1 e w base (.slice a n c) xs) : Row encI 1 w w.heap.size a xs := by
  obtain ⟨a', cap, hv, hr, _⟩ := h.row lenI
  simp only [Value.slice.injEq] at hv
  rw [hv.1]
  exact hr
end Go.Proofs.Ytccailcjclbhlaa
/-! What star.Walked and the reference's walked return: a way with what it costs. Conditions: the way up is there; a right net. -/
namespace Go.Proofs.Ytccailcjclbhlaa
open Go.RowKit
set_option linter.unusedSimpArgs false
set_option linter.unusedVariables false
set_option maxHeartbeats 2000000 in
theorem walked_any (n v L : Nat) (a pa : Option Addr) (cap cp : Nat) (es : List Ed) (pred : Nat → Int) (l : List Nat) (cst : Int) (w : World) (B : Nat) (hB : B ≤ w.heap.size) (hE : Row encE 3 w B a es) (hP : Row encI 1 w w.heap.size pa (LI n pred)) (hl : Chain pred v l) (hn : n ≤ 64) (hll : l.length ≤ n) (hm : ∀ x ∈ l, x < n) (hel : es.length ≤ 9223372036854775807) (hcst : (wcost (n : Int) es (LP l.reverse)).1 = cst) (hL : l.length = L) :
    Calls Try.prog 57 #[.agg #[.int .i64 (n : Int), .slice a es.length cap], .slice pa n cp, .int .i64 (v : Int)] w fun e w' => ∃ av k, e = .returned (.agg #[.slice av L k, .int .i64 cst]) ∧ Own encI 1 3 w' w.heap.size (.slice av L k) (LP l.reverse) ∧ Below w.heap.size w w' := by
  obtain ⟨pth, hpth⟩ : ∃ p, p = LP l.reverse := ⟨_, rfl⟩
  have hplen : pth.length = L := by rw [hpth, lp_len, List.length_reverse, hL]
  have hBk := hide (fun (w' : World) (hb : Below w.heap.size w w') => (back_any n v cp pa pred l 0 w' w'.heap.size (Nat.le_refl _) ((hP.below hb (Nat.le_refl _)).mono hb.size) hl hn hll hm).mono (R' := fun e w'' => ∃ av k, e = .returned (.agg #[.slice av L k, .int .i64 0]) ∧ Own encI 1 3 w'' w'.heap.size (.slice av L k) pth ∧ Below w'.heap.size w' w'') (by
    rintro e w'' ⟨av, k, rfl, oP, hb⟩
    rw [hL, ← hpth] at oP
    rw [hL]
    exact ⟨av, k, rfl, oP, hb⟩))
  rw [← hpth] at hcst ⊢
  obtain ⟨er, her⟩ : ∃ er, er = (wcost (n : Int) es pth).2 := ⟨_, rfl⟩
  have hW := hide (fun (w' : World) (hb : Below w.heap.size w w') (pa : Option Addr) (pc : Nat) (hP2 : Row encI 1 w' w'.heap.size pa pth) => by
    have := wcost_any (n : Int) a cap es pa pc pth w' w'.heap.size (Nat.le_refl _) ((hE.below hb hB).mono (Nat.le_trans hB hb.size)) hP2 hel (by rw [hplen]; omega)
    rw [hplen] at this
    exact this)
  have hwc : wcost (n : Int) es pth = (cst, er) := by rw [← hcst, her]
  rw [hwc] at hW
  replace hpth := hide hpth
  replace her := hide her
  replace hwc := hide hwc
  clear hE hP hl hm hll hcst
  go_enter Try.func57, Try.ntmps57
  go_wp2_with fail
  refine (hBk.out _ (by exact bel)).mono ?_
  rintro e w1 ⟨av, k, rfl, oP, hb1⟩
  have k0 := cu_below hb1 (p := ⟨w.heap.size, 0, none⟩) (v := .int .i64 (n : Int)) (by simp [go_sem]) (by first | omega | (simp; done) | (simp; omega))
  have k1 := cu_below hb1 (p := ⟨w.heap.size, 1, none⟩) (v := .slice a es.length cap) (by simp [go_sem]) (by first | omega | (simp; done) | (simp; omega))
  have r0 := cu_below hb1 (p := ⟨w.heap.size + 1, 0, none⟩) (v := .slice none 0 0) (by simp [go_sem]) (by first | omega | (simp; done) | (simp; omega))
  have r1 := cu_below hb1 (p := ⟨w.heap.size + 1, 1, none⟩) (v := .int .i64 0) (by simp [go_sem]) (by first | omega | (simp; done) | (simp; omega))
  have f0 := fu_below hb1 (p := ⟨w.heap.size + 1, 0, none⟩) (by simp [go_sem]) (by first | omega | (simp; done) | (simp; omega))
  have f1 := fu_below hb1 (p := ⟨w.heap.size + 1, 1, none⟩) (by simp [go_sem]) (by first | omega | (simp; done) | (simp; omega))
  have hb2 := hide (((bel : Below w.heap.size w _)).trans (hb1.mono (by first | omega | (simp; done) | (simp; omega))))
  have hz1 : w.heap.size + 1 < w1.heap.size := cell_lt r0
  have oP1 := hide (oP.base_le (show w.heap.size + 1 + 1 ≤ _ by first | omega | (simp; done) | (simp; omega)))
  clear hb1 oP
  obtain ⟨w2, hw2⟩ : ∃ w2, w2 = w1.alloc (.cells #[.slice av L k, .int .i64 0] 51) := ⟨_, rfl⟩
  have hb12 : Below w1.heap.size w1 w2 := by rw [hw2]; exact (Below.refl _ _).alloc (Nat.le_refl _) _
  have p0 : w2.cell? ⟨w1.heap.size, 0, none⟩ = some (.slice av L k) := by rw [hw2]; simp [go_sem]
  have p1 : w2.cell? ⟨w1.heap.size, 1, none⟩ = some (.int .i64 0) := by rw [hw2]; simp [go_sem]
  have g1 : w2.frozen? ⟨w1.heap.size, 1, none⟩ = false := by rw [hw2]; simp [go_sem]
  have k0 := cu_below hb12 k0 (by first | omega | (simp; done) | (simp; omega))
  have k1 := cu_below hb12 k1 (by first | omega | (simp; done) | (simp; omega))
  have r0 := cu_below hb12 r0 (by first | omega | (simp; done) | (simp; omega))
  have r1 := cu_below hb12 r1 (by first | omega | (simp; done) | (simp; omega))
  have f0 := fu_below hb12 f0 (by first | omega | (simp; done) | (simp; omega))
  have f1 := fu_below hb12 f1 (by first | omega | (simp; done) | (simp; omega))
  have hz2 : w1.heap.size < w2.heap.size := cell_lt p0
  have zg : w.heap.size < w2.heap.size := by omega
  have zg1 : w.heap.size < w1.heap.size := by omega
  have hbw2 := hide (hb2.out.trans (hb12.mono (by omega)))
  have oP2 := hide (oP1.out.stays hb12)
  have hbo := hide (oP1.out.block_lt)
  have hrow := hide (own_rowL oP2.out)
  clear hb12 hb2 oP1
  go_wp2_with fail
  simp only [← hw2]
  replace hw2 := hide hw2
  refine (hW.out _ hbw2.out av k hrow.out).mono ?_
  rintro e w3 ⟨rfl, hb3⟩
  have p0 := cu_below hb3 p0 hz2
  have p1 := cu_below hb3 p1 hz2
  have g1 := fu_below hb3 g1 hz2
  have r0 := cu_below hb3 r0 (by first | omega | (simp; done) | (simp; omega))
  have r1 := cu_below hb3 r1 (by first | omega | (simp; done) | (simp; omega))
  have f0 := fu_below hb3 f0 (by first | omega | (simp; done) | (simp; omega))
  have f1 := fu_below hb3 f1 (by first | omega | (simp; done) | (simp; omega))
  have hbw3 := hide (hbw2.out.trans (hb3.mono (by omega)))
  have oP3 := hide (oP2.out.stays hb3)
  have hz3 : w1.heap.size < w3.heap.size := cell_lt p0
  clear hb3 hbw2 oP2 hrow
  go_wp2
  refine bodyPost_ret (v := .agg #[.slice av L k, .int .i64 cst]) (by simp [results, Try.results57, go_sem, r0, r1, f0, f1, p0, p1, g1]) rfl ?_
  have hne : (Value.slice av L k).ownBlock ≠ some w1.heap.size := fun e => by have := (hbo.out _ e).2; omega
  refine ⟨av, k, rfl, ?_, ?_⟩
  · exact (((oP3.out.elsewhere (p := ⟨w1.heap.size, 1, none⟩) hne _).setCell (by first | omega | (simp; done) | (simp; omega)) _).setCell (by first | omega | (simp; done) | (simp; omega)) _).base_le (by omega)
  · exact ((hbw3.out.setCell (by first | omega | (simp; done) | (simp; omega)) _).setCell (by first | omega | (simp; done) | (simp; omega)) _).setCell (by first | omega | (simp; done) | (simp; omega)) _
end Go.Proofs.Ytccailcjclbhlaa
