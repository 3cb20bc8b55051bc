/-
  Several texts in one:
  A plan (life): what mend does. Conditions: the object reads as LX says, the tables stand beside it.
  A plan (life): what fresh does. Conditions: the object reads as LX says.
  A plan (life): what settle does. Conditions: the object reads as LX says, the tables stand beside it.
  A plan (life): what settle does, and that it leaves all else alone. Conditions: the object reads as LX says, the tables stand beside it.
-/
import Derived.Test.YtcehdpeeaogpiaaLMA
import Derived.Test.YtcehdpeeaogpiaaRevP
import Derived.Test.YtcehdpeeaogpiaaQuietH
import Derived.Deep.LoopGhost
/-! A plan (life): what mend does. Conditions: the object reads as LX says, the tables stand beside it. -/
namespace Go.Proofs.Ytcehdpeeaogpiaa
open Go.RowKit
set_option linter.unusedSimpArgs false
set_option linter.unusedVariables false
/-- the least so far, over the edges that lead to a place -/
def mB (c : Nat → Int) (es : List Ed) (u j : Nat) : Int := ((todoOf (es.map flip) u 0).take j).foldl (fun b e => min b (c e.v + e.c)) FAR
theorem mb_zero (c : Nat → Int) (es : List Ed) (u : Nat) : mB c es u 0 = FAR := by simp [mB]
theorem mb_succ {c : Nat → Int} {es : List Ed} {u j i x : Nat} (h : j < (outIdx (es.map flip) u (es.map flip).length).length) (hx : (outIdx (es.map flip) u (es.map flip).length)[j] = (i : Int)) (hi : i < es.length) (hv : es[i].v = (u : Int)) (hu : es[i].u = (x : Int)) : mB c es u (j + 1) = min (mB c es u j) (c x + es[i].c) := by
  have hl : j < (todoOf (es.map flip) u 0).length := by simpa [todoOf] using h
  have he : (todoOf (es.map flip) u 0)[j] = ⟨u, x, es[i].c⟩ := by
    simp only [todoOf, List.drop_zero, List.getElem_map]
    rw [hx]
    have := edAt_is (es := es.map flip) (i := i) (u := u) (v := x) (by simpa using hi) (by simp [flip, hv]) (by simp [flip, hu])
    simpa [flip] using this
  unfold mB
  rw [List.take_succ_eq_append_getElem hl, List.foldl_append, he]
  rfl
theorem mb_all {n : Nat} {c : Nat → Int} {es : List Ed} (hR : Right n es) (u : Nat) : mB c es u (outIdx (es.map flip) u (es.map flip).length).length = lookOf (nes es) c u := by
  have hl : (todoOf (es.map flip) u 0).length = (outIdx (es.map flip) u (es.map flip).length).length := by simp [todoOf]
  unfold mB lookOf
  rw [List.take_of_length_le (by omega), todo_filter (flip_right hR), nes_flip, List.filter_map, List.foldl_map]
  rfl
theorem mb_bd {n : Nat} {c : Nat → Int} {es : List Ed} {u : Nat} (hE : LEd n (nes es)) (hR : Right n es) (hc : ∀ v, v < n → 0 ≤ c v ∧ c v ≤ FAR) (j : Nat) : 0 ≤ mB c es u j ∧ mB c es u j ≤ FAR := by
  obtain ⟨h1, h2, h3⟩ := fmin (fun e => c e.v + e.c) ((todoOf (es.map flip) u 0).take j) FAR
  refine ⟨?_, h1⟩
  rcases h3 with h3 | ⟨e, he, h3⟩
  · unfold mB; rw [h3]; decide
  · unfold mB; rw [h3]
    have h4 := List.mem_of_mem_take he
    rw [todo_filter (flip_right hR), nes_flip, List.mem_filter, List.mem_map] at h4
    obtain ⟨⟨x, hx, rfl⟩, _⟩ := h4
    have h5 := hE x hx
    have := hc x.u h5.1
    simp only [neFlip]
    omega
theorem led_of {n : Nat} {es : List Ed} (hR : Right n es) (hp : ∀ e ∈ es, 1 ≤ e.c) : LEd n (nes es) := by
  intro e he
  obtain ⟨x, hx, rfl⟩ := nes_mem he
  have h1 := hR x hx
  have h2 := hp x hx
  simp only
  omega
section
variable [LFr]
variable {n pb gc gl gh cc cl I O : Nat} {ev : Value} {fr tg : Int} {es : List Ed} {a0 : Option Addr} {q qc : Nat} {f : Nat → Ed} {c l : Nat → Int} {wk : Nat} {wS w : World}
/-- what mend leaves -/
def MendAns [LFr] (n pb gc gl gh cc cl I O : Nat) (ev : Value) (fr tg : Int) (es : List Ed) (q : Nat) (f : Nat → Ed) (c l : Nat → Int) (wk : Nat) (u : Nat) (wS : World) (e : Ending) (w' : World) : Prop :=
  e = .returned (.tuple #[]) ∧ ∃ a1 q1 k1 f1 l1, LX n pb gc gl gh cc cl I O ev fr tg es (.slice a1 q1 k1) q1 f1 c l1 wk wS w' ∧ (((u : Int) = fr ∧ l1 = l ∧ q1 = q ∧ f1 = f) ∨ ((u : Int) ≠ fr ∧ l1 = upz l u (lookOf (nes es) c u) ∧ PutTo c l1 u q f q1 f1))
set_option maxRecDepth 100000 in
set_option maxHeartbeats 4000000 in
theorem lmend_any (lo1 hi1 lo2 hi2 : Nat) (u m ec : Nat) (ae : Option Addr) (hu : u < n) (hev : ev = .slice ae m ec) (hm : es.length = m) (hX : LX n pb gc gl gh cc cl I O ev fr tg es (.slice a0 q qc) q f c l wk wS w) (hT : LTab wS lo1 hi1 lo2 hi2 n pb gc gl gh I O ev es) (hR : Right n es) (hp : ∀ e ∈ es, 1 ≤ e.c) (hl : m ≤ 600) (hn : n ≤ 64) (hcb : ∀ v, v < n → 0 ≤ c v ∧ c v ≤ FAR) (hq : q ≤ 100000000000) (hok : HeapOK spLt q f) :
    Calls Try.prog 128 #[.pointer (some ⟨pb, 0, none⟩), .int .i64 (u : Int)] w (MendAns n pb gc gl gh cc cl I O ev fr tg es q f c l wk u wS) := by
  have c4 := hX.c4
  have z4 := cell_lt c4
  simp only at z4
  have hE := hide (led_of hR hp)
  replace hcb := hide hcb
  replace hok := hide hok
  by_cases hs : (u : Int) = fr
  · subst hs
    have qs : ((u : Int) == (u : Int)) = true := by simp
    replace hX := hide hX
    clear hT hR hp hE hcb hok
    go_enter Try.func128, Try.ntmps128
    go_wp2
    go_end0
    exact ⟨rfl, a0, q, qc, f, l, hX.out, .inl ⟨rfl, rfl, rfl, rfl⟩⟩
  · have qs : ((u : Int) == fr) = false := by simpa using hs
    have hPut := hide (fun (w' : World) (l1 : Nat → Int) (hX' : LX n pb gc gl gh cc cl I O ev fr tg es (.slice a0 q qc) q f c l1 wk wS w') => lput_any u hu hX' hq hok.out)
    replace hs := hide hs
    obtain ⟨av, cv, t0, t1, t2, t3, town, tblk⟩ := (hT.ins.later hX.keep (fun k h1 h2 => hT.ap k (.inl ⟨h1, h2⟩))).row u hu
    have c2 := hX.c2
    have zI := cell_lt t0
    simp only at zI
    obtain ⟨L, hL⟩ : ∃ L, L = (outIdx (es.map flip) u (es.map flip).length).length := ⟨_, rfl⟩
    have hL6 : L ≤ 600 := by rw [hL]; have := outIdx_len (es.map flip) u (es.map flip).length; have h9 : (es.map flip).length = m := (by simp [hm]); omega
    have hmz := mb_zero c es u
    have hma := hide (mb_all (c := c) hR u)
    rw [← hL] at t0 town tblk hma
    replace hL := hide hL
    have iu : (0 : Int) ≤ (u : Int) ∧ (u : Int) < (n : Int) := by omega
    have hb0 := hide (Below.refl w.heap.size w)
    have town' := hide town
    replace hX := hide hX
    replace hR := hide hR
    have hmb := hide (fun j => mb_bd (u := u) hE.out hR.out hcb.out j)
    clear hT hp
    go_enter Try.func128, Try.ntmps128
    go_wp2
    go_loopw [4, 22] (fun s4 i wr => ∃ (j : Nat) (b : Int), j ≤ L ∧ i = .int .i64 (j : Int) ∧ s4 = .int .i64 b ∧ Hid (b = mB c es u j) ∧ Hid (Below w.heap.size w wr)) (fun _ i _ => L - (intOf i).toNat)
    case atStart => exact ⟨0, 1099511627776, Nat.zero_le _, rfl, rfl, hide hmz.symm, hb0⟩
    case round =>
      clear hb0 c2 c4 t0 hmz
      obtain ⟨j, b, hj, rfl, rfl, hb, hbl⟩ := hrel
      have hXr := hide (hX.out.stays hbl.out)
      by_cases hlt : j < L
      · have hjl : j < (outIdx (es.map flip) u (es.map flip).length).length := by rw [← hL.out]; exact hlt
        obtain ⟨i, hi0, hi1', hi2'⟩ := outIdx_get (es.map flip) u j hjl
        have hi : i < es.length := by simpa using hi1'
        have hvi : es[i].v = (u : Int) := by simpa [flip] using hi2'
        obtain ⟨x, y, e1, e2, e3, e4, e5, e6, -⟩ := right_edge hR.out i hi
        have hyu : y = u := by omega
        subst hyu
        obtain ⟨gi, ge1, ge2⟩ := town'.out.blockI' (show 0 < L by omega)
        subst ge1
        have hrow : wr.cell? ⟨gi, j, none⟩ = some (.int .i64 (i : Int)) := by
          have h1 := town'.out.getI j hjl
          rw [hi0] at h1
          exact cu_below hbl.out h1 ge2.2
        obtain ⟨ge, hge, hge2⟩ : ∃ ge, ae = some ⟨ge, 0, none⟩ ∧ ge < wr.heap.size := by
          have h1 := hXr.out.eo
          rw [hev] at h1
          obtain ⟨g, h2, _, h3⟩ := h1.blockI' (by omega)
          exact ⟨g, h2, h3⟩
        subst hge
        have heo := hXr.out.eo
        rw [hev] at heo
        obtain ⟨k0, k1, k2⟩ := heo.getE i hi
        obtain ⟨ee, hee⟩ : ∃ ee, ee = es[i].c := ⟨_, rfl⟩
        rw [e1] at k0
        rw [e2] at k1
        rw [← hee] at k2 e5 e6
        have c1 := hXr.out.c1
        rw [hev] at c1
        have c6 := hXr.out.c6
        have d0 := hXr.out.cost.atI x e3
        have hcx := hcb.out x e3
        obtain ⟨cx, hcx2⟩ : ∃ cx, cx = c x := ⟨_, rfl⟩
        rw [← hcx2] at d0 hcx
        have hnext := hide (show mB c es y (j + 1) = min b (cx + ee) by rw [hb.out, hcx2, hee]; exact mb_succ hjl hi0 hi e2 e1)
        have hbb : 0 ≤ b ∧ b ≤ FAR := by rw [hb.out]; exact hmb.out j
        unfold FAR at hbb hcx
        have wk1 : IntKind.i64.wrap (cx + ee) = cx + ee := IntWalk.i64_in _ (by omega)
        have ii : (0 : Int) ≤ (i : Int) ∧ (i : Int) < (m : Int) := by omega
        have ij : (0 : Int) ≤ (j : Int) ∧ (j : Int) < (L : Int) := by omega
        have ix : (0 : Int) ≤ (x : Int) ∧ (x : Int) < (n : Int) := by omega
        have zi : gi < wr.heap.size := by have := hbl.out.size; omega
        have zb := cell_lt c1
        have zc := cell_lt d0
        simp only at zb zc
        replace hcx2 := hide hcx2
        replace hee := hide hee
        replace e1 := hide e1
        replace e2 := hide e2
        replace hvi := hide hvi
        replace hi0 := hide hi0
        replace hi1' := hide hi1'
        replace hi2' := hide hi2'
        replace hev := hide hev
        replace hm := hide hm
        clear heo hb hXr
        rcases Int.lt_or_le (cx + ee) b with hmn | hmn
        · have hn2 := hide (show cx + ee = mB c es y (j + 1) by rw [hnext.out]; omega)
          clear hnext
          go_wp2
          go_region
          go_wp2
          go_roundw
          case rel => exact ⟨j + 1, _, by omega, by go_num, rfl, hn2, hide (by have h0 := hbl.out; have h1 := hbl.out.size; exact (by repeat (first | with_reducible exact Below.refl _ _ | with_reducible assumption | with_reducible refine up_drewN ?_ | with_reducible refine up_drew ?_ | (with_reducible refine up_alloc ?_ ?_; rotate_left; (first | omega | (simp <;> omega) | simp)) | (with_reducible refine up_set ?_ ?_; rotate_left; (first | omega | (simp <;> omega) | simp)) | (with_reducible refine Below.trans ?_ (Below.mono (by with_reducible assumption) ?_); rotate_left; (first | omega | (simp <;> omega) | simp)))))⟩
          case measure => simp [intOf]; omega
        · have hn2 := hide (show b = mB c es y (j + 1) by rw [hnext.out]; omega)
          clear hnext
          go_wp2
          go_region
          go_wp2
          go_roundw
          case rel => exact ⟨j + 1, _, by omega, by go_num, rfl, hn2, hide (by have h0 := hbl.out; have h1 := hbl.out.size; exact (by repeat (first | with_reducible exact Below.refl _ _ | with_reducible assumption | with_reducible refine up_drewN ?_ | with_reducible refine up_drew ?_ | (with_reducible refine up_alloc ?_ ?_; rotate_left; (first | omega | (simp <;> omega) | simp)) | (with_reducible refine up_set ?_ ?_; rotate_left; (first | omega | (simp <;> omega) | simp)) | (with_reducible refine Below.trans ?_ (Below.mono (by with_reducible assumption) ?_); rotate_left; (first | omega | (simp <;> omega) | simp)))))⟩
          case measure => simp [intOf]; omega
      · obtain rfl : L = j := by omega
        have hbe : b = lookOf (nes es) c u := by rw [hb.out, hma.out]
        have c7 := hXr.out.c7
        have d1 := hXr.out.look.atI u hu
        obtain ⟨y, hy⟩ : ∃ y, y = l u := ⟨_, rfl⟩
        rw [← hy] at d1
        have zb := cell_lt c7
        have zl := cell_lt d1
        simp only at zb zl
        have hfl := hXr.out.look.free u
        by_cases he : b = y
        · have q1 : (b != y) = false := by simp [he]
          have hl1 : upz l u (lookOf (nes es) c u) = l := by rw [← hbe, he, hy]; exact upz_own l u
          have hP := hide (hPut.out wr l hXr.out)
          rw [← hl1] at hP
          replace hl1 := hide hl1
          replace he := hide he
          replace hy := hide hy
          replace hbe := hide hbe
          replace hb := hide hb
          clear hX hXr hPut
          go_wp2_with fail
          refine hP.out.mono ?_
          rintro e w5 ⟨rfl, a1, q1', k1, f1, hX5, hP5⟩
          replace hX5 := hide hX5
          replace hP5 := hide hP5
          clear hP
          go_wp2
          go_end0
          exact ⟨rfl, a1, q1', k1, f1, _, hX5.out, .inr ⟨hs.out, rfl, hP5.out⟩⟩
        · have q1 : (b != y) = true := by simp [he]
          have hP := hide (hPut.out _ _ (hXr.out.setL u hu b))
          rw [hbe] at hP
          rw [← hbe] at hP
          replace he := hide he
          replace hy := hide hy
          have hbe' := hide hbe
          clear hbe
          clear hX hXr hPut hb
          go_wp2_with fail
          refine hP.out.mono ?_
          rintro e w5 ⟨rfl, a1, q1', k1, f1, hX5, hP5⟩
          replace hX5 := hide hX5
          replace hP5 := hide hP5
          clear hP
          go_wp2
          go_end0
          exact ⟨rfl, a1, q1', k1, f1, _, hX5.out, .inr ⟨hs.out, by rw [hbe'.out], hP5.out⟩⟩
end
end Go.Proofs.Ytcehdpeeaogpiaa

/-! A plan (life): what fresh does. Conditions: the object reads as LX says. -/
namespace Go.Proofs.Ytcehdpeeaogpiaa
open Go.RowKit
set_option linter.unusedSimpArgs false
set_option linter.unusedVariables false
theorem lhas_drop {n s : Nat} {c l : Nat → Int} {X X' : List Ed} {p : Ed} {x : Nat} (hh : LHas n s c l (fun _ => False) X) (hp : (p :: X').Perm X) (hc : p.c = (x : Int)) (hd : c x = l x ∨ p ≠ spk c l x) : LHas n s c l (fun _ => False) X' := by
  refine ⟨fun q hq => hh.ent q (hp.mem_iff.1 (List.mem_cons_of_mem _ hq)), fun u hu hw hne => ?_⟩
  rcases List.mem_cons.1 (hp.mem_iff.2 (hh.has u hu hw hne)) with h1 | h1
  · exfalso
    have h2 : u = x := by
      have : ((u : Nat) : Int) = p.c := by rw [← h1]; rfl
      omega
    subst h2
    rcases hd with h3 | h3
    · exact hne h3
    · exact h3 h1.symm
  · exact h1
theorem lhas_none {n s : Nat} {c l : Nat → Int} {f : Nat → Ed} (hh : LHas n s c l (fun _ => False) (RW 0 f)) : ∀ v, v < n → c v = l v := fun v hv => by
  by_cases hw : c v = l v
  · exact hw
  · have := hh.has v hv (.inr id) hw; simp [RW] at this
section
variable [LFr]
variable {n pb gc gl gh cc cl I O : Nat} {ev : Value} {fr tg : Int} {es : List Ed} {a0 : Option Addr} {q qc : Nat} {f : Nat → Ed} {c l : Nat → Int} {wk : Nat} {wS w : World}
/-- what fresh leaves -/
def LFreshAns [LFr] (n pb gc gl gh cc cl I O : Nat) (ev : Value) (fr tg : Int) (es : List Ed) (s q : Nat) (c l : Nat → Int) (wk : Nat) (wS : World) (e : Ending) (w' : World) : Prop :=
  ∃ b a1 q1 k1 f1, e = .returned (.bool b) ∧ LX n pb gc gl gh cc cl I O ev fr tg es (.slice a1 q1 k1) q1 f1 c l wk wS w' ∧ q1 ≤ q ∧ HeapOK spLt q1 f1 ∧ LHas n s c l (fun _ => False) (RW q1 f1) ∧ (b = true → 0 < q1 ∧ ∃ v, v < n ∧ c v ≠ l v ∧ f1 0 = spk c l v) ∧ (b = false → q1 = 0)
set_option maxRecDepth 100000 in
set_option maxHeartbeats 4000000 in
theorem lfresh_any (s : Nat) (hX : LX n pb gc gl gh cc cl I O ev fr tg es (.slice a0 q qc) q f c l wk wS w) (hq : q ≤ 100000000000) (hok : HeapOK spLt q f) (hhs : LHas n s c l (fun _ => False) (RW q f)) :
    Calls Try.prog 185 #[.pointer (some ⟨pb, 0, none⟩)] w (LFreshAns n pb gc gl gh cc cl I O ev fr tg es s q c l wk wS) := by
  replace hX := hide hX
  replace hok := hide hok
  replace hhs := hide hhs
  go_enter Try.func185, Try.ntmps185
  go_wp2
  go_loopg [] (q + 1) (fun gk wr => ∃ (q1 : Nat) (a1 : Option Addr) (c1 : Nat) (f1 : Nat → Ed), Hid (LX n pb gc gl gh cc cl I O ev fr tg es (.slice a1 q1 c1) q1 f1 c l wk wS wr) ∧ Hid (HeapOK spLt q1 f1) ∧ Hid (LHas n s c l (fun _ => False) (RW q1 f1)) ∧ q1 < gk ∧ gk ≤ q + 1)
  case atStart => exact ⟨q, a0, qc, f, hX, hok, hhs, by omega, by omega⟩
  case round =>
    clear hX hok hhs
    obtain ⟨q1, a1, c1, f1, hX, hok, hhs, hqg, hgk⟩ := hrel
    have k8 := hX.out.c8
    have kh1 := hX.out.heap.c1
    by_cases hq0 : q1 = 0
    · subst hq0
      go_wp2_with fail
      refine (lenS_any _ _ _ _ _ kh1).mono ?_
      rintro e w5 ⟨rfl, rfl⟩
      go_wp2
      go_ret
      exact ⟨false, _, _, _, _, rfl, hX.out, Nat.zero_le _, hok.out, hhs.out, (fun e => by cases e), fun _ => rfl⟩
    · obtain ⟨q', rfl⟩ : ∃ q', q1 = q' + 1 := ⟨q1 - 1, by omega⟩
      obtain ⟨gs, rfl, hgs1, hgs2⟩ := hX.out.heap.own.blockI' (by omega)
      have hqp : (0 : Int) < ((q' + 1 : Nat) : Int) := by omega
      obtain ⟨x, hxn, hpc⟩ := hhs.out.ent (f1 0) (by rw [RW]; exact List.mem_map.2 ⟨0, by simp, rfl⟩)
      obtain ⟨pu, hpu⟩ : ∃ pu, pu = (f1 0).u := ⟨_, rfl⟩
      obtain ⟨pv, hpv⟩ : ∃ pv, pv = (f1 0).v := ⟨_, rfl⟩
      have hf0 : f1 0 = ⟨pu, pv, (x : Int)⟩ := by rw [hpu, hpv, ← hpc]
      have hTop := topS_any gh gh q' gs c1 f1 _ wr hX.out.heap
      rw [hf0] at hTop
      have hTop := hide hTop
      obtain ⟨p1, p2⟩ := pop_ok spLt_ord hok.out
      have p1 := hide p1
      have p2 := hide p2
      have hPop := hide (fun (w' : World) (hb : Below wr.heap.size wr w') => popS_any gh gh q' gs c1 f1 w' ((hX.out.stays hb).heap) (by omega))
      have hXk := hide (fun (wa : World) (hb : Below wr.heap.size wr wa) (w' : World) (f' : Nat → Ed) h1 h2 => (hX.out.stays hb).pop (w' := w') (gs := gs) (k := c1) (q' := q') (f' := f') rfl h1 h2)
      have hKy := hide (fun (w' : World) (hb : Below wr.heap.size wr w') => lkey_any x hxn (hX.out.stays hb))
      obtain ⟨kk, hkk⟩ : ∃ k, k = min (c x) (l x) := ⟨_, rfl⟩
      have hsk : spk c l x = ⟨kk, kk, (x : Int)⟩ := by rw [hkk]; rfl
      rw [hsk] at hKy
      have d0 := hX.out.cost.atI x hxn
      have d1 := hX.out.look.atI x hxn
      have c6 := hX.out.c6
      have c7 := hX.out.c7
      have zs := cell_lt c6
      have zc := cell_lt d0
      have zl := cell_lt d1
      simp only at zs zc zl
      have ix : (0 : Int) ≤ (x : Int) ∧ (x : Int) < (n : Int) := by omega
      have hhit := hide (fun (hl : c x ≠ l x) (e1 : pu = kk) (e2 : pv = kk) => (show x < n ∧ c x ≠ l x ∧ f1 0 = spk c l x from ⟨hxn, hl, by rw [hf0, hsk, e1, e2]⟩))
      have hdrop := hide (fun (hd : c x = l x ∨ ¬ (pu = kk ∧ pv = kk)) => lhas_drop (x := x) hhs.out p2.out hpc (hd.imp id (fun h e => h (by rw [hf0, hsk] at e; simp only [Ed.mk.injEq] at e; exact ⟨e.1, e.2.1⟩))))
      obtain ⟨cx, hcx⟩ : ∃ cx, cx = c x := ⟨_, rfl⟩
      obtain ⟨lx, hlx⟩ : ∃ lx, lx = l x := ⟨_, rfl⟩
      rw [← hcx] at d0
      rw [← hlx] at d1
      replace hkk := hide hkk
      replace hsk := hide hsk
      clear hpc hpu hpv
      go_wp2_with fail
      refine (lenS_any _ _ _ _ _ kh1).mono ?_
      rintro e w5 ⟨rfl, rfl⟩
      go_wp2_with fail
      refine hTop.out.mono ?_
      rintro e w6 ⟨rfl, hb6⟩
      have k8 := cu_below hb6 k8 zs
      have c6 := cu_below hb6 c6 zs
      have c7 := cu_below hb6 c7 zs
      have d0 := cu_below hb6 d0 zc
      have d1 := cu_below hb6 d1 zl
      have hz6 : wr.heap.size ≤ w6.heap.size := hb6.size
      clear kh1 hTop
      have hb7 := hide (up_alloc (o := .cells #[.int .i64 pu, .int .i64 pv, .int .i64 (x : Int)] 161) hb6 (by omega))
      obtain ⟨w7, hw7⟩ : ∃ w7, w7 = w6.alloc (.cells #[.int .i64 pu, .int .i64 pv, .int .i64 (x : Int)] 161) := ⟨_, rfl⟩
      have k8 : w7.cell? ⟨pb, 8, none⟩ = some (.pointer (some ⟨gh, 0, none⟩)) := by rw [hw7]; exact cu_alloc k8
      have c6 : w7.cell? ⟨pb, 6, none⟩ = some (.slice (some ⟨gc, 0, none⟩) n cc) := by rw [hw7]; exact cu_alloc c6
      have c7 : w7.cell? ⟨pb, 7, none⟩ = some (.slice (some ⟨gl, 0, none⟩) n cl) := by rw [hw7]; exact cu_alloc c7
      have d0 : w7.cell? ⟨gc, x, none⟩ = some (.int .i64 cx) := by rw [hw7]; exact cu_alloc d0
      have d1 : w7.cell? ⟨gl, x, none⟩ = some (.int .i64 lx) := by rw [hw7]; exact cu_alloc d1
      have m0 : w7.cell? ⟨w6.heap.size, 0, none⟩ = some (.int .i64 pu) := by rw [hw7]; simp [go_sem]
      have m1 : w7.cell? ⟨w6.heap.size, 1, none⟩ = some (.int .i64 pv) := by rw [hw7]; simp [go_sem]
      have m2 : w7.cell? ⟨w6.heap.size, 2, none⟩ = some (.int .i64 (x : Int)) := by rw [hw7]; simp [go_sem]
      have m7 : w6.heap.size < w7.heap.size := by rw [hw7]; simp
      rw [← hw7] at hb7
      have hz7 : wr.heap.size ≤ w7.heap.size := hb7.out.size
      by_cases he : cx = lx
      · have q1 : (cx != lx) = false := by simp [he]
        have hhs2 := hide (hdrop.out (.inl (by rw [← hcx, ← hlx]; exact he)))
        replace he := hide he
        replace hcx := hide hcx
        replace hlx := hide hlx
        clear hhit hdrop hhs hok hKy
        go_upto_region 3 with fail
        simp only [← hw7]
        replace hw7 := hide hw7
        go_quiet (fail)
        have hb8 := hide (up_drewN (n := nq) hb7.out)
        have k8 : (w7.drewN nq).cell? ⟨pb, 8, none⟩ = some (.pointer (some ⟨gh, 0, none⟩)) := cu_drewN k8
        generalize w7.drewN nq = w8 at hb8 k8 ⊢
        clear c6 c7 d0 d1 m0 m1 m2 hb6 hb7
        go_wp2_with fail
        refine (hPop.out w8 hb8.out).mono ?_
        rintro e w9 ⟨rfl, hA9, hK9⟩
        have hX9 := hide (hXk.out _ hb8.out _ _ hA9 hK9)
        clear hA9 hK9
        go_wp2
        go_roundg (gk - 1)
        case measure => omega
        case rel => exact ⟨q', _, _, _, hX9, p1, hhs2, by omega, by omega⟩
      · have q1 : (cx != lx) = true := by simp [he]
        have hne := hide (show c x ≠ l x by rw [← hcx, ← hlx]; exact he)
        have key0 := hide (show ∀ w', Below w7.heap.size w7 w' → (fun w' => Below w7.heap.size w7 w' ∧ w'.cell? ⟨pb, 6, none⟩ = some (.slice (some ⟨gc, 0, none⟩) n cc) ∧ w'.cell? ⟨pb, 7, none⟩ = some (.slice (some ⟨gl, 0, none⟩) n cl) ∧ w'.cell? ⟨pb, 8, none⟩ = some (.pointer (some ⟨gh, 0, none⟩)) ∧ w'.cell? ⟨gc, x, none⟩ = some (.int .i64 cx) ∧ w'.cell? ⟨gl, x, none⟩ = some (.int .i64 lx) ∧ w'.cell? ⟨w6.heap.size, 0, none⟩ = some (.int .i64 pu) ∧ w'.cell? ⟨w6.heap.size, 1, none⟩ = some (.int .i64 pv) ∧ w'.cell? ⟨w6.heap.size, 2, none⟩ = some (.int .i64 (x : Int))) w' from fun w' hb =>
          ⟨hb, cu_below hb c6 (cell_lt c6), cu_below hb c7 (cell_lt c7), cu_below hb k8 (cell_lt k8), cu_below hb d0 (cell_lt d0), cu_below hb d1 (cell_lt d1), cu_below hb m0 (cell_lt m0), cu_below hb m1 (cell_lt m1), cu_below hb m2 (cell_lt m2)⟩)
        replace he := hide he
        replace hcx := hide hcx
        replace hlx := hide hlx
        clear c6 c7 k8 d0 d1 m0 m1 m2
        go_upto_region 3 with fail
        simp only [← hw7]
        replace hw7 := hide hw7
        have e3 : ((x : Int) == (x : Int)) = true := by simp
        by_cases hpk : pu = kk ∧ pv = kk
        · have e1 : (pu == kk) = true := by simpa using hpk.1
          have e2 : (pv == kk) = true := by simpa using hpk.2
          have hpk2 := hide hpk
          clear hpk
          go_region_held3 (fun w' => Below w7.heap.size w7 w' ∧ w'.cell? ⟨pb, 6, none⟩ = some (.slice (some ⟨gc, 0, none⟩) n cc) ∧ w'.cell? ⟨pb, 7, none⟩ = some (.slice (some ⟨gl, 0, none⟩) n cl) ∧ w'.cell? ⟨pb, 8, none⟩ = some (.pointer (some ⟨gh, 0, none⟩)) ∧ w'.cell? ⟨gc, x, none⟩ = some (.int .i64 cx) ∧ w'.cell? ⟨gl, x, none⟩ = some (.int .i64 lx) ∧ w'.cell? ⟨w6.heap.size, 0, none⟩ = some (.int .i64 pu) ∧ w'.cell? ⟨w6.heap.size, 1, none⟩ = some (.int .i64 pv) ∧ w'.cell? ⟨w6.heap.size, 2, none⟩ = some (.int .i64 (x : Int)))
            (first | exact key0.out _ (below_drew _) | exact key0.out _ (by assumption))
            ((go_at_call 183; have hb8 := (‹Below w7.heap.size w7 _ ∧ _› : _ ∧ _).1; refine (hKy.out _ (hb7.out.trans (hb8.mono hz7))).mono ?_; rintro e w8 ⟨rfl, hb9⟩; have hb9 := below_step hb8 hb9))
          all_goals
            obtain ⟨h1, h2, h3⟩ := hhit.out hne.out hpk2.out.1 hpk2.out.2
            have hX9 := hide (hX.out.stays (hb7.out.trans ((‹Below w7.heap.size w7 w8 ∧ _› : _ ∧ _).1.mono hz7)))
            replace h1 := hide h1
            replace h2 := hide h2
            replace h3 := hide h3
            go_wp2
            go_ret
            exact ⟨true, _, _, _, _, rfl, hX9.out, by omega, hok.out, hhs.out, fun _ => ⟨by omega, x, h1.out, h2.out, h3.out⟩, fun e => by cases e⟩
        · have hhs2 := hide (hdrop.out (.inr hpk))
          obtain ⟨b1, e1⟩ : ∃ b, (pu == kk) = b := ⟨_, rfl⟩
          obtain ⟨b2, e2⟩ : ∃ b, (pv == kk) = b := ⟨_, rfl⟩
          have hb12 : ¬ (b1 = true ∧ b2 = true) := fun h => hpk ⟨by simpa [h.1] using e1, by simpa [h.2] using e2⟩
          clear hhit hdrop hhs hok hpk
          cases b1 <;> cases b2
          rotate_right
          · exact absurd ⟨rfl, rfl⟩ hb12
          all_goals
            clear hb12
            go_region_held3 (fun w' => Below w7.heap.size w7 w' ∧ w'.cell? ⟨pb, 6, none⟩ = some (.slice (some ⟨gc, 0, none⟩) n cc) ∧ w'.cell? ⟨pb, 7, none⟩ = some (.slice (some ⟨gl, 0, none⟩) n cl) ∧ w'.cell? ⟨pb, 8, none⟩ = some (.pointer (some ⟨gh, 0, none⟩)) ∧ w'.cell? ⟨gc, x, none⟩ = some (.int .i64 cx) ∧ w'.cell? ⟨gl, x, none⟩ = some (.int .i64 lx) ∧ w'.cell? ⟨w6.heap.size, 0, none⟩ = some (.int .i64 pu) ∧ w'.cell? ⟨w6.heap.size, 1, none⟩ = some (.int .i64 pv) ∧ w'.cell? ⟨w6.heap.size, 2, none⟩ = some (.int .i64 (x : Int)))
              (first | exact key0.out _ (below_drew _) | exact key0.out _ (by assumption))
              ((go_at_call 183; have hb8 := (‹Below w7.heap.size w7 _ ∧ _› : _ ∧ _).1; refine (hKy.out _ (hb7.out.trans (hb8.mono hz7))).mono ?_; rintro e w8 ⟨rfl, hb9⟩; have hb9 := below_step hb8 hb9))
            all_goals
              have k10 := (key0.out w8 (‹Below w7.heap.size w7 w8 ∧ _› : _ ∧ _).1).2.2.2.1
              have hb11 := hide (hb7.out.trans ((‹Below w7.heap.size w7 w8 ∧ _› : _ ∧ _).1.mono hz7))
              go_wp2_with fail
              refine (hPop.out w8 hb11.out).mono ?_
              rintro e w9 ⟨rfl, hA9, hK9⟩
              have hX9 := hide (hXk.out _ hb11.out _ _ hA9 hK9)
              clear hA9 hK9
              go_wp2
              go_roundg (gk - 1)
              case measure => omega
              case rel => exact ⟨q', _, _, _, hX9, p1, hhs2, by omega, by omega⟩
end
end Go.Proofs.Ytcehdpeeaogpiaa

/-! A plan (life): what settle does. Conditions: the object reads as LX says, the tables stand beside it. -/
namespace Go.Proofs.Ytcehdpeeaogpiaa
open Go.RowKit
set_option linter.unusedSimpArgs false
set_option linter.unusedVariables false
/-- what is left of a drawn region, where it only reads -/
theorem wpAny_quiet_tail2 {P : Program} {ops : Array Oper} {Q : Exit → Act → World → Prop} {a : Act} {w : World} {listed : Array Bool} (k m : Nat) (hm : (ops.toList.drop k).length = m) (hs : Region.noSelect ops = true) (hB : Region.lexFrom .any ops m k listed = true)
    (h : ∀ wq : (Act → Prop) → List Oper → Act → Prop,
      Hid (∀ (Q : Act → Prop) (o : Oper) (rest : List Oper) (a : Act), (∀ K : Act → Prop, Hid (∀ a, wq Q rest a → K a) → if Region.wanted o (yielded ops a.tmps) then o.quiet P a (fun w' => ∃ n, w' = w.drewN n) K else K (a.put o.dst undef)) → wq Q (o :: rest) a) →
      Hid (∀ (Q : Act → Prop) (a : Act), Q a → wq Q [] a) → wq (fun a' => ∀ w', (∃ n, w' = w.drewN n) → Q .normal a' w') (ops.toList.drop k) a) : wpAny P .any ops Q m listed a w := by
  have h2 : wpQuiet P ops (fun w' => ∃ n, w' = w.drewN n) (fun a' => ∀ w', (∃ n, w' = w.drewN n) → Q .normal a' w') (ops.toList.drop k) a := h (wpQuiet P ops (fun w' => ∃ n, w' = w.drewN n)) (hide fun _ _ _ _ hs => wpQuiet_step fun K hK => hs K (hide hK)) (hide fun _ _ h => h)
  subst hm
  exact wpAny_of_quiet (Q := fun a' => ∀ w', (∃ n, w' = w.drewN n) → Q .normal a' w') (fun _ w' hw' h => h w' hw') _ _ _ _ ⟨0, rfl⟩ (wpAnyQ_lex hs _ k listed a (fun j => by rw [List.getElem?_drop, Array.getElem?_toList]) hB h2)
/-- where the edges lead that are still to be gone through -/
def Dj (es : List Ed) (v j x : Nat) : Prop := ∃ e ∈ todoOf es v j, e.v = x
theorem dj_start {n : Nat} {es : List Ed} (hR : Right n es) (v x : Nat) (h : Tg (nes es) v x) : Dj es v 0 x := by
  obtain ⟨e, he, h1, h2⟩ := h
  exact ⟨e, todo_all hR v e he h1, h2⟩
theorem dj_next {es : List Ed} {v j i u : Nat} (h : j < (outIdx es v es.length).length) (hx : (outIdx es v es.length)[j] = (i : Int)) (hi : i < es.length) (hv : es[i].u = (v : Int)) (hu : es[i].v = (u : Int)) (x : Nat) (hd : Dj es v j x) : Dj es v (j + 1) x ∨ x = u := by
  obtain ⟨e, he, hex⟩ := hd
  rw [todo_step h hx hi hv hu] at he
  rcases List.mem_cons.1 he with h1 | h1
  · right; rw [← hex, h1]
  · exact .inl ⟨e, h1, hex⟩
theorem dj_end {es : List Ed} {v : Nat} (x : Nat) : ¬ Dj es v (outIdx es v es.length).length x := by
  rintro ⟨e, he, _⟩
  rw [todo_end] at he
  cases he
/-- the keys of all that wait are no less than the top's -/
theorem top_min {n s : Nat} {c l : Nat → Int} {q v : Nat} {f : Nat → Ed} (hok : HeapOK spLt q f) (hh : LHas n s c l (fun _ => False) (RW q f)) (hf : f 0 = spk c l v) {u : Nat} (hu : u < n) (hc : c u ≠ l u) : spLt (spk c l u) (spk c l v) = false := by
  obtain ⟨i, hi, hi2⟩ := List.mem_map.1 (hh.has u hu (.inr id) hc)
  rw [← hf, ← hi2]
  exact heap_top spLt_ord hok i (List.mem_range.1 hi)
theorem exit_none {n s t : Nat} {c l : Nat → Int} (ht : t < n) (h : ∀ v, v < n → c v = l v) : LExit n c l t := ⟨h t ht, fun v hv hc => absurd (h v hv) hc⟩
theorem exit_top {n s t : Nat} {c l : Nat → Int} {q v : Nat} {f : Nat → Ed} (hok : HeapOK spLt q f) (hh : LHas n s c l (fun _ => False) (RW q f)) (hf : f 0 = spk c l v) (hl : spLt (spk c l v) (spk c l t) = false) (he : c t = l t) : LExit n c l t :=
  ⟨he, fun u hu hc => spLt_ord.trans _ _ _ hl (top_min hok hh hf hu hc)⟩
/-- mended: what holds then -/
theorem mend_holds {n s : Nat} {es : List Ed} {c l l1 : Nat → Int} {D D' : Nat → Prop} {q q1 u : Nat} {f f1 : Nat → Ed} (hE : LEd n (nes es)) (hL : LOk n s (nes es) c l D) (hh : LHas n s c l D (RW q f)) (hok : HeapOK spLt q f) (hu : u < n) (hD : ∀ x, D x → D' x ∨ x = u)
    (hm : ((u : Int) = (s : Int) ∧ l1 = l ∧ q1 = q ∧ f1 = f) ∨ ((u : Int) ≠ (s : Int) ∧ l1 = upz l u (lookOf (nes es) c u) ∧ PutTo c l1 u q f q1 f1)) : LOk n s (nes es) c l1 D' ∧ LHas n s c l1 D' (RW q1 f1) ∧ HeapOK spLt q1 f1 ∧ q1 ≤ q + 1 := by
  rcases hm with ⟨h1, rfl, rfl, rfl⟩ | ⟨h1, rfl, h2, h3, h4, h5, h6⟩
  · have hus : u = s := by omega
    subst hus
    exact ⟨hL.mono hD, hh.mono hD, hok, Nat.le_succ _⟩
  · have hus : u ≠ s := fun e => h1 (by rw [e])
    refine ⟨lok_mend hL hE hu hus hD, lhas_mend hh hu hus hD h4 h5 (fun hc => h6 (by rw [upz_same]; exact hc)), h2, h3⟩
section
variable [LFr]
variable {n pb gc gl gh cc cl I O : Nat} {es : List Ed} {a0 : Option Addr} {q qc : Nat} {f : Nat → Ed} {c l : Nat → Int} {wk : Nat} {wS w : World}
/-- what settle leaves -/
def LSettleAns [LFr] (n pb gc gl gh cc cl I O : Nat) (ev : Value) (s t : Nat) (es : List Ed) (q : Nat) (c l : Nat → Int) (wS : World) (e : Ending) (w' : World) : Prop :=
  e = .returned (.tuple #[]) ∧ ∃ a1 q1 k1 f1 c1 l1 wk1, LX n pb gc gl gh cc cl I O ev (s : Int) (t : Int) es (.slice a1 q1 k1) q1 f1 c1 l1 wk1 wS w' ∧ LOk n s (nes es) c1 l1 (fun _ => False) ∧ LHas n s c1 l1 (fun _ => False) (RW q1 f1) ∧ HeapOK spLt q1 f1 ∧ LExit n c1 l1 t ∧ wk1 ≤ 2 * n ∧ q1 ≤ q + 601 * wk1 ∧ (LExit n c l t → wk1 = 0 ∧ c1 = c ∧ l1 = l)
set_option maxRecDepth 100000 in
set_option maxHeartbeats 8000000 in
theorem lsettle_any (lo1 hi1 lo2 hi2 s t m ec : Nat) (ae : Option Addr) (hs : s < n) (ht : t < n) (hm : es.length = m) (hX : LX n pb gc gl gh cc cl I O (.slice ae m ec) (s : Int) (t : Int) es (.slice a0 q qc) q f c l wk wS w) (hT : LTab wS lo1 hi1 lo2 hi2 n pb gc gl gh I O (.slice ae m ec) es) (hR : Right n es) (hp : ∀ e ∈ es, 1 ≤ e.c) (hm6 : m ≤ 600) (hn : n ≤ 64) (hq : q ≤ 99990000000) (hok : HeapOK spLt q f) (hL : LOk n s (nes es) c l (fun _ => False)) (hhs : LHas n s c l (fun _ => False) (RW q f)) :
    Calls Try.prog 121 #[.pointer (some ⟨pb, 0, none⟩)] w (LSettleAns n pb gc gl gh cc cl I O (.slice ae m ec) s t es q c l wS) := by
  have hE := hide (led_of hR hp)
  have hX0 := hide (hX.setW 0)
  have c9 := hX.c9
  have f9 := hX.fz 9
  have hW0 := hide (lw_start hL)
  have hMd := hide (fun (u : Nat) (hu : u < n) (a1 : Option Addr) (q1 k1 : Nat) (f1 : Nat → Ed) (c1 l1 : Nat → Int) (wk1 : Nat) (w' : World) (hX' : LX n pb gc gl gh cc cl I O (.slice ae m ec) (s : Int) (t : Int) es (.slice a1 q1 k1) q1 f1 c1 l1 wk1 wS w') hcb hq1 hok1 => lmend_any (w := w') lo1 hi1 lo2 hi2 u m ec ae hu rfl hm hX' hT hR hp hm6 hn hcb hq1 hok1)
  replace hm := hide hm
  replace hX := hide hX
  replace hT := hide hT
  replace hR := hide hR
  replace hp := hide hp
  replace hok := hide hok
  replace hL := hide hL
  replace hhs := hide hhs
  have zpb := cell_lt c9
  simp only at zpb
  go_enter Try.func121, Try.ntmps121
  go_wp2
  clear c9 f9 hX zpb
  go_loopg [] (2 * n + 1) (fun gk wr => ∃ (a1 : Option Addr) (q1 k1 : Nat) (f1 : Nat → Ed) (c1 l1 : Nat → Int) (wk1 : Nat) (K : Int) (S U : Nat → Bool), Hid (LX n pb gc gl gh cc cl I O (.slice ae m ec) (s : Int) (t : Int) es (.slice a1 q1 k1) q1 f1 c1 l1 wk1 wS wr) ∧ Hid (LOk n s (nes es) c1 l1 (fun _ => False)) ∧ Hid (LHas n s c1 l1 (fun _ => False) (RW q1 f1)) ∧ Hid (HeapOK spLt q1 f1) ∧ Hid (LW n c1 l1 K S U wk1) ∧ q1 ≤ q + 601 * wk1 ∧ Hid ((wk1 = 0 ∧ c1 = c ∧ l1 = l) ∨ ¬ LExit n c l t) ∧ gk + wk1 = 2 * n + 1)
  case atStart => exact ⟨a0, q, qc, f, c, l, 0, 0, _, _, hX0, hL, hhs, hok, hW0, by omega, hide (.inl ⟨rfl, rfl, rfl⟩), by omega⟩
  case round =>
    clear hX0 hL hhs hok hW0
    obtain ⟨a1, q1, k1, f1, c1, l1, wk1, K, S, U, hX, hL, hhs, hok, hW, hqb, hst, hgk⟩ := hrel
    have hwb := hW.out.bound
    have hq9 : q1 ≤ 100000000000 := by omega
    go_upto_region 1 with fail
    go_cut [46] (fun s46 wx => ∃ (b : Bool) (a3 : Option Addr) (q3 k3 : Nat) (f3 : Nat → Ed), s46 = .bool b ∧ Hid (LX n pb gc gl gh cc cl I O (.slice ae m ec) (s : Int) (t : Int) es (.slice a3 q3 k3) q3 f3 c1 l1 wk1 wS wx) ∧ Hid (HeapOK spLt q3 f3) ∧ Hid (LHas n s c1 l1 (fun _ => False) (RW q3 f3)) ∧ q3 ≤ q1 ∧ Hid (b = false → LExit n c1 l1 t) ∧ Hid (b = true → ¬ LExit n c1 l1 t ∧ 0 < q3 ∧ ∃ v, v < n ∧ c1 v ≠ l1 v ∧ f3 0 = spk c1 l1 v))
    case first =>
      clear hW hst hMd hL
      have hFr := hide (lfresh_any s (hX.out.stays (below_drew wr)) hq9 hok.out hhs.out)
      refine wp_region_any (by kernel_rfl) ?_
      change wpAny _ _ _ _ (38 + 1) _ _ _
      refine wpAny_ready (rs := [0]) (by kernel_rfl) (by simp) (AllReady.cons rfl (fun K hK => ?_) AllReady.nil)
      go_simp
      refine hK _ _ ?_
      clear hK K
      change wpAny _ _ _ _ (37 + 1) _ _ _
      refine wpAny_ready (rs := [1]) (by kernel_rfl) (by simp) (AllReady.cons rfl (fun K hK => ?_) AllReady.nil)
      go_simp
      go_at_call 185
      refine hFr.out.mono ?_
      rintro e w3 ⟨b, a3, q3, k3, f3, rfl, hX3, hq3, hok3, hh3, hbt, hbf⟩
      refine hK _ _ ?_
      clear hK K
      change wpAny _ _ _ _ (36 + 1) _ _ _
      refine wpAny_ready (rs := [2]) (by kernel_rfl) (by simp) (AllReady.cons rfl (fun K hK => ?_) AllReady.nil)
      go_simp
      refine hK _ _ ?_
      clear hK K
      clear hX hok hhs hFr
      cases b
      case' false =>
        have hX3 := hide hX3
        have q30 := hbf rfl
        subst q30
        have hex := hide (exit_none (s := s) ht (lhas_none hh3))
        have hX9 := hide (fun nq => hX3.out.stays (up_drewN (n := nq) (Below.refl _ _)))
        replace hok3 := hide hok3
        replace hh3 := hide hh3
        clear hbt hbf hX3
        refine wpAny_quiet_tail2 3 36 (by kernel_rfl) (by kernel_rfl) (by kernel_rfl) (fun wq hst2 hni => ?_)
        simp only [List.drop_succ_cons, List.drop_zero]
        repeat (refine hst2.out _ _ _ _ (fun K hK => ?_); go_simp; refine hK.out _ ?_; clear hK K)
        refine hni.out _ _ ?_
        clear hst2 hni wq
        intro _ hw'
        obtain ⟨nq, hw''⟩ := hw'
        subst hw''
        replace hX9 := hide (hX9.out nq)
        generalize w3.drewN nq = w9 at hX9 ⊢
        go_wp2
        go_meet
        case rel => exact ⟨false, a3, 0, k3, f3, rfl, hX9, hok3, hh3, Nat.zero_le _, hide (fun _ => hex.out), hide (fun h => by cases h)⟩
      case' true =>
        obtain ⟨hq0, v, hvn, hvc, hf0⟩ := hbt rfl
        obtain ⟨q', rfl⟩ : ∃ q', q3 = q' + 1 := ⟨q3 - 1, by omega⟩
        obtain ⟨gs, rfl, hgs1, hgs2⟩ := hX3.heap.own.blockI' (by omega)
        have d0 := hX3.cost.atI t ht
        have d1 := hX3.look.atI t ht
        have c5 := hX3.c5
        have c6 := hX3.c6
        have c7 := hX3.c7
        have c8 := hX3.c8
        have itt : (0 : Int) ≤ (t : Int) ∧ (t : Int) < (n : Int) := by omega
        obtain ⟨ct, hct⟩ : ∃ x, x = c1 t := ⟨_, rfl⟩
        obtain ⟨lt, hlt⟩ : ∃ x, x = l1 t := ⟨_, rfl⟩
        rw [← hct] at d0
        rw [← hlt] at d1
        have hTop := hide (fun (w' : World) (hb : Below w3.heap.size w3 w') => topS_any gh gh q' gs k3 f3 _ w' (hX3.stays hb).heap)
        have hKy := hide (fun (w' : World) (hb : Below w3.heap.size w3 w') => lkey_any t ht (hX3.stays hb))
        rw [hf0] at hTop
        obtain ⟨pv, hpv⟩ : ∃ p, p = spk c1 l1 v := ⟨_, rfl⟩
        obtain ⟨pt, hpt⟩ : ∃ p, p = spk c1 l1 t := ⟨_, rfl⟩
        rw [← hpv] at hTop
        rw [← hpt] at hKy
        have key0 := hide (show ∀ w', Below w3.heap.size w3 w' → (fun w' => Below w3.heap.size w3 w' ∧ w'.cell? ⟨pb, 5, none⟩ = some (.int .i64 (t : Int)) ∧ w'.cell? ⟨pb, 6, none⟩ = some (.slice (some ⟨gc, 0, none⟩) n cc) ∧ w'.cell? ⟨pb, 7, none⟩ = some (.slice (some ⟨gl, 0, none⟩) n cl) ∧ w'.cell? ⟨pb, 8, none⟩ = some (.pointer (some ⟨gh, 0, none⟩)) ∧ w'.cell? ⟨gc, t, none⟩ = some (.int .i64 ct) ∧ w'.cell? ⟨gl, t, none⟩ = some (.int .i64 lt)) w' from fun w' hb =>
          ⟨hb, cu_below hb c5 (cell_lt c5), cu_below hb c6 (cell_lt c6), cu_below hb c7 (cell_lt c7), cu_below hb c8 (cell_lt c8), cu_below hb d0 (cell_lt d0), cu_below hb d1 (cell_lt d1)⟩)
        have hext := hide (fun (h1 : spLt pv pt = false) (h2 : ct = lt) => exit_top (t := t) hok3 hh3 hf0 (by rw [← hpv, ← hpt]; exact h1) (by rw [← hct, ← hlt]; exact h2))
        have hnex := hide (fun (h1 : spLt pv pt = true ∨ ct ≠ lt) (h2 : LExit n c1 l1 t) => (by
          rcases h1 with h1 | h1
          · rw [hpv, hpt, h2.2 v hvn hvc] at h1; cases h1
          · exact h1 (by rw [hct, hlt]; exact h2.1) : False))
        have hX3 := hide hX3
        have hok3 := hide hok3
        have hh3 := hide hh3
        replace hct := hide hct
        replace hlt := hide hlt
        replace hpv := hide hpv
        replace hpt := hide hpt
        replace hf0 := hide hf0
        replace hvc := hide hvc
        clear hbt hbf c5 c6 c7 c8 d0 d1
        have e0 : pv.u = pv.u := rfl
        clear e0
        by_cases hle : spLt pv pt = true
        · have hnn := hnex.out (.inl hle)
          clear hext hnex
          refine wpAny_of_held (S := (fun w' => Below w3.heap.size w3 w' ∧ w'.cell? ⟨pb, 5, none⟩ = some (.int .i64 (t : Int)) ∧ w'.cell? ⟨pb, 6, none⟩ = some (.slice (some ⟨gc, 0, none⟩) n cc) ∧ w'.cell? ⟨pb, 7, none⟩ = some (.slice (some ⟨gl, 0, none⟩) n cl) ∧ w'.cell? ⟨pb, 8, none⟩ = some (.pointer (some ⟨gh, 0, none⟩)) ∧ w'.cell? ⟨gc, t, none⟩ = some (.int .i64 ct) ∧ w'.cell? ⟨gl, t, none⟩ = some (.int .i64 lt))) _ _ _ _ ?_
          have hHeld : ((fun w' => Below w3.heap.size w3 w' ∧ w'.cell? ⟨pb, 5, none⟩ = some (.int .i64 (t : Int)) ∧ w'.cell? ⟨pb, 6, none⟩ = some (.slice (some ⟨gc, 0, none⟩) n cc) ∧ w'.cell? ⟨pb, 7, none⟩ = some (.slice (some ⟨gl, 0, none⟩) n cl) ∧ w'.cell? ⟨pb, 8, none⟩ = some (.pointer (some ⟨gh, 0, none⟩)) ∧ w'.cell? ⟨gc, t, none⟩ = some (.int .i64 ct) ∧ w'.cell? ⟨gl, t, none⟩ = some (.int .i64 lt))) _ := key0.out _ (Below.refl _ _)
          (try dsimp only at hHeld)
          refine planH [3, 4, 5, 6, 8, 9, 10, 11, 12] ?_
          iterate 9
            refine PlanH.take (v := ?_) (List.getElem?_toArray.trans rfl) (by kernel_rfl) (fun _ _ _ h => h) (Or.inl ⟨by rfl, ?_⟩) hHeld ?_
            rotate_left
            · intro w hSw; (try dsimp only at hSw); go_simp; (try with_reducible rfl)
            try simp only [Act.put, List.setIfInBounds_toArray, List.set_cons_zero, List.set_cons_succ]
          refine wpAnyH_ready (rs := [7]) (by kernel_rfl) (by simp) (AllReadyH.cons (List.getElem?_toArray.trans rfl) (fun K hK => ?_) AllReadyH.nil)
          (go_simp; refine (hTop.out _ hHeld.1).mono ?_; rintro e w4 ⟨rfl, hb4⟩)
          have hHeld := key0.out _ (below_step hHeld.1 hb4)
          refine hK.out _ _ hHeld (fun _ => ?_)
          clear hK K; try simp only [Act.put, List.setIfInBounds_toArray, List.set_cons_zero, List.set_cons_succ]
          refine wpAnyH_ready (rs := [13]) (by kernel_rfl) (by simp) (AllReadyH.cons (List.getElem?_toArray.trans rfl) (fun K hK => ?_) AllReadyH.nil)
          (go_simp; refine (hKy.out _ hHeld.1).mono ?_; rintro e w5 ⟨rfl, hb5⟩)
          have hHeld := key0.out _ (below_step hHeld.1 hb5)
          refine hK.out _ _ hHeld (fun _ => ?_)
          clear hK K; try simp only [Act.put, List.setIfInBounds_toArray, List.set_cons_zero, List.set_cons_succ]
          refine wpAnyH_ready (rs := [14]) (by kernel_rfl) (by simp) (AllReadyH.cons (List.getElem?_toArray.trans rfl) (fun K hK => ?_) AllReadyH.nil)
          (go_simp; refine (lessS_any pv pt _).mono ?_; rintro e w6 ⟨rfl, hb6⟩; rw [hle])
          have hHeld := key0.out _ (below_step hHeld.1 hb6)
          refine hK.out _ _ hHeld (fun _ => ?_)
          clear hK K; try simp only [Act.put, List.setIfInBounds_toArray, List.set_cons_zero, List.set_cons_succ]
          refine planH [15] ?_
          iterate 1
            refine PlanH.take (v := ?_) (List.getElem?_toArray.trans rfl) (by kernel_rfl) (fun _ _ _ h => h) (Or.inl ⟨by rfl, ?_⟩) hHeld ?_
            rotate_left
            · intro w hSw; (try dsimp only at hSw); go_simp; (try with_reducible rfl)
            try simp only [Act.put, List.setIfInBounds_toArray, List.set_cons_zero, List.set_cons_succ]
          refine planH [16, 17, 18, 19, 20, 21, 22, 23, 24, 25, 26, 27, 28, 29, 30, 31, 32, 33, 34, 35, 36] ?_
          iterate 21
            refine PlanH.take (v := undef) (List.getElem?_toArray.trans rfl) (by kernel_rfl) (fun _ _ _ h => h) (Or.inr ⟨by rfl, rfl⟩) hHeld ?_; try simp only [Act.put, List.setIfInBounds_toArray, List.set_cons_zero, List.set_cons_succ]
          refine planH [37, 38] ?_
          iterate 2
            refine PlanH.take (v := ?_) (List.getElem?_toArray.trans rfl) (by kernel_rfl) (fun _ _ _ h => h) (Or.inl ⟨by rfl, ?_⟩) hHeld ?_
            rotate_left
            · intro w hSw; (try dsimp only at hSw); go_simp; (try with_reducible rfl)
            try simp only [Act.put, List.setIfInBounds_toArray, List.set_cons_zero, List.set_cons_succ]
          refine wpAnyH_done (by kernel_rfl) ?_ _
          have hX9 := hide (hX3.out.stays hHeld.1)
          clear hX3 key0 hTop hKy hHeld
          go_wp2
          go_meet
          case rel => exact ⟨true, some ⟨gs, 0, none⟩, q' + 1, k3, f3, rfl, hX9, hok3, hh3, hq3, hide (fun h => by cases h), hide (fun _ => ⟨hnn, Nat.succ_pos _, v, hvn, hvc.out, hf0.out⟩)⟩
        · have hle : spLt pv pt = false := by simpa using hle
          by_cases hce : ct = lt
          · have q5 : (ct != lt) = false := by simp [hce]
            have hxx := hide (hext.out hle hce)
            replace hce := hide hce
            clear hext hnex
            refine wpAny_of_held (S := (fun w' => Below w3.heap.size w3 w' ∧ w'.cell? ⟨pb, 5, none⟩ = some (.int .i64 (t : Int)) ∧ w'.cell? ⟨pb, 6, none⟩ = some (.slice (some ⟨gc, 0, none⟩) n cc) ∧ w'.cell? ⟨pb, 7, none⟩ = some (.slice (some ⟨gl, 0, none⟩) n cl) ∧ w'.cell? ⟨pb, 8, none⟩ = some (.pointer (some ⟨gh, 0, none⟩)) ∧ w'.cell? ⟨gc, t, none⟩ = some (.int .i64 ct) ∧ w'.cell? ⟨gl, t, none⟩ = some (.int .i64 lt))) _ _ _ _ ?_
            have hHeld : ((fun w' => Below w3.heap.size w3 w' ∧ w'.cell? ⟨pb, 5, none⟩ = some (.int .i64 (t : Int)) ∧ w'.cell? ⟨pb, 6, none⟩ = some (.slice (some ⟨gc, 0, none⟩) n cc) ∧ w'.cell? ⟨pb, 7, none⟩ = some (.slice (some ⟨gl, 0, none⟩) n cl) ∧ w'.cell? ⟨pb, 8, none⟩ = some (.pointer (some ⟨gh, 0, none⟩)) ∧ w'.cell? ⟨gc, t, none⟩ = some (.int .i64 ct) ∧ w'.cell? ⟨gl, t, none⟩ = some (.int .i64 lt))) _ := key0.out _ (Below.refl _ _)
            (try dsimp only at hHeld)
            refine planH [3, 4, 5, 6, 8, 9, 10, 11, 12] ?_
            iterate 9
              refine PlanH.take (v := ?_) (List.getElem?_toArray.trans rfl) (by kernel_rfl) (fun _ _ _ h => h) (Or.inl ⟨by rfl, ?_⟩) hHeld ?_
              rotate_left
              · intro w hSw; (try dsimp only at hSw); go_simp; (try with_reducible rfl)
              try simp only [Act.put, List.setIfInBounds_toArray, List.set_cons_zero, List.set_cons_succ]
            refine wpAnyH_ready (rs := [7]) (by kernel_rfl) (by simp) (AllReadyH.cons (List.getElem?_toArray.trans rfl) (fun K hK => ?_) AllReadyH.nil)
            (go_simp; refine (hTop.out _ hHeld.1).mono ?_; rintro e w4 ⟨rfl, hb4⟩)
            have hHeld := key0.out _ (below_step hHeld.1 hb4)
            refine hK.out _ _ hHeld (fun _ => ?_)
            clear hK K; try simp only [Act.put, List.setIfInBounds_toArray, List.set_cons_zero, List.set_cons_succ]
            refine wpAnyH_ready (rs := [13]) (by kernel_rfl) (by simp) (AllReadyH.cons (List.getElem?_toArray.trans rfl) (fun K hK => ?_) AllReadyH.nil)
            (go_simp; refine (hKy.out _ hHeld.1).mono ?_; rintro e w5 ⟨rfl, hb5⟩)
            have hHeld := key0.out _ (below_step hHeld.1 hb5)
            refine hK.out _ _ hHeld (fun _ => ?_)
            clear hK K; try simp only [Act.put, List.setIfInBounds_toArray, List.set_cons_zero, List.set_cons_succ]
            refine wpAnyH_ready (rs := [14]) (by kernel_rfl) (by simp) (AllReadyH.cons (List.getElem?_toArray.trans rfl) (fun K hK => ?_) AllReadyH.nil)
            (go_simp; refine (lessS_any pv pt _).mono ?_; rintro e w6 ⟨rfl, hb6⟩; rw [hle])
            have hHeld := key0.out _ (below_step hHeld.1 hb6)
            refine hK.out _ _ hHeld (fun _ => ?_)
            clear hK K; try simp only [Act.put, List.setIfInBounds_toArray, List.set_cons_zero, List.set_cons_succ]
            refine planH [15, 16, 17, 18, 19, 20, 21, 22, 23, 24, 25, 26, 27, 28, 29, 30, 31, 32, 33, 34, 35, 36, 37, 38] ?_
            iterate 24
              refine PlanH.take (v := ?_) (List.getElem?_toArray.trans rfl) (by kernel_rfl) (fun _ _ _ h => h) (Or.inl ⟨by rfl, ?_⟩) hHeld ?_
              rotate_left
              · intro w hSw; (try dsimp only at hSw); go_simp; (try with_reducible rfl)
              try simp only [Act.put, List.setIfInBounds_toArray, List.set_cons_zero, List.set_cons_succ]
            refine wpAnyH_done (by kernel_rfl) ?_ _
            have hX9 := hide (hX3.out.stays hHeld.1)
            clear hX3 key0 hTop hKy hHeld
            go_wp2
            go_meet
            case rel => exact ⟨false, some ⟨gs, 0, none⟩, q' + 1, k3, f3, rfl, hX9, hok3, hh3, hq3, hide (fun _ => hxx.out), hide (fun h => by cases h)⟩
          · have q5 : (ct != lt) = true := by simp [hce]
            have hnn := hnex.out (.inr hce)
            replace hce := hide hce
            clear hext hnex
            refine wpAny_of_held (S := (fun w' => Below w3.heap.size w3 w' ∧ w'.cell? ⟨pb, 5, none⟩ = some (.int .i64 (t : Int)) ∧ w'.cell? ⟨pb, 6, none⟩ = some (.slice (some ⟨gc, 0, none⟩) n cc) ∧ w'.cell? ⟨pb, 7, none⟩ = some (.slice (some ⟨gl, 0, none⟩) n cl) ∧ w'.cell? ⟨pb, 8, none⟩ = some (.pointer (some ⟨gh, 0, none⟩)) ∧ w'.cell? ⟨gc, t, none⟩ = some (.int .i64 ct) ∧ w'.cell? ⟨gl, t, none⟩ = some (.int .i64 lt))) _ _ _ _ ?_
            have hHeld : ((fun w' => Below w3.heap.size w3 w' ∧ w'.cell? ⟨pb, 5, none⟩ = some (.int .i64 (t : Int)) ∧ w'.cell? ⟨pb, 6, none⟩ = some (.slice (some ⟨gc, 0, none⟩) n cc) ∧ w'.cell? ⟨pb, 7, none⟩ = some (.slice (some ⟨gl, 0, none⟩) n cl) ∧ w'.cell? ⟨pb, 8, none⟩ = some (.pointer (some ⟨gh, 0, none⟩)) ∧ w'.cell? ⟨gc, t, none⟩ = some (.int .i64 ct) ∧ w'.cell? ⟨gl, t, none⟩ = some (.int .i64 lt))) _ := key0.out _ (Below.refl _ _)
            (try dsimp only at hHeld)
            refine planH [3, 4, 5, 6, 8, 9, 10, 11, 12] ?_
            iterate 9
              refine PlanH.take (v := ?_) (List.getElem?_toArray.trans rfl) (by kernel_rfl) (fun _ _ _ h => h) (Or.inl ⟨by rfl, ?_⟩) hHeld ?_
              rotate_left
              · intro w hSw; (try dsimp only at hSw); go_simp; (try with_reducible rfl)
              try simp only [Act.put, List.setIfInBounds_toArray, List.set_cons_zero, List.set_cons_succ]
            refine wpAnyH_ready (rs := [7]) (by kernel_rfl) (by simp) (AllReadyH.cons (List.getElem?_toArray.trans rfl) (fun K hK => ?_) AllReadyH.nil)
            (go_simp; refine (hTop.out _ hHeld.1).mono ?_; rintro e w4 ⟨rfl, hb4⟩)
            have hHeld := key0.out _ (below_step hHeld.1 hb4)
            refine hK.out _ _ hHeld (fun _ => ?_)
            clear hK K; try simp only [Act.put, List.setIfInBounds_toArray, List.set_cons_zero, List.set_cons_succ]
            refine wpAnyH_ready (rs := [13]) (by kernel_rfl) (by simp) (AllReadyH.cons (List.getElem?_toArray.trans rfl) (fun K hK => ?_) AllReadyH.nil)
            (go_simp; refine (hKy.out _ hHeld.1).mono ?_; rintro e w5 ⟨rfl, hb5⟩)
            have hHeld := key0.out _ (below_step hHeld.1 hb5)
            refine hK.out _ _ hHeld (fun _ => ?_)
            clear hK K; try simp only [Act.put, List.setIfInBounds_toArray, List.set_cons_zero, List.set_cons_succ]
            refine wpAnyH_ready (rs := [14]) (by kernel_rfl) (by simp) (AllReadyH.cons (List.getElem?_toArray.trans rfl) (fun K hK => ?_) AllReadyH.nil)
            (go_simp; refine (lessS_any pv pt _).mono ?_; rintro e w6 ⟨rfl, hb6⟩; rw [hle])
            have hHeld := key0.out _ (below_step hHeld.1 hb6)
            refine hK.out _ _ hHeld (fun _ => ?_)
            clear hK K; try simp only [Act.put, List.setIfInBounds_toArray, List.set_cons_zero, List.set_cons_succ]
            refine planH [15, 16, 17, 18, 19, 20, 21, 22, 23, 24, 25, 26, 27, 28, 29, 30, 31, 32, 33, 34, 35, 36, 37, 38] ?_
            iterate 24
              refine PlanH.take (v := ?_) (List.getElem?_toArray.trans rfl) (by kernel_rfl) (fun _ _ _ h => h) (Or.inl ⟨by rfl, ?_⟩) hHeld ?_
              rotate_left
              · intro w hSw; (try dsimp only at hSw); go_simp; (try with_reducible rfl)
              try simp only [Act.put, List.setIfInBounds_toArray, List.set_cons_zero, List.set_cons_succ]
            refine wpAnyH_done (by kernel_rfl) ?_ _
            have hX9 := hide (hX3.out.stays hHeld.1)
            clear hX3 key0 hTop hKy hHeld
            go_wp2
            go_meet
            case rel => exact ⟨true, some ⟨gs, 0, none⟩, q' + 1, k3, f3, rfl, hX9, hok3, hh3, hq3, hide (fun h => by cases h), hide (fun _ => ⟨hnn, Nat.succ_pos _, v, hvn, hvc.out, hf0.out⟩)⟩
    case rest =>
      obtain ⟨b, a3, q3, k3, f3, rfl, hX, hok, hhs, hq3, hx1, hx2⟩ := hcut
      cases b
      case' false =>
        have hex := hide (hx1.out rfl)
        go_wp2
        ((try simp only [Exit.inBlock, Exit.then]); refine bodyPost_ret (results_none rfl _ _ _) rfl ?_)
        exact ⟨rfl, a3, q3, k3, f3, c1, l1, wk1, hX.out, hL.out, hhs.out, hok.out, hex.out, hwb, by omega, fun h => hst.out.elim id (fun h2 => absurd h h2)⟩
      case' true =>
        obtain ⟨hne, hq0, v, hvn, hvc, hf0⟩ := hx2.out rfl
        obtain ⟨q', rfl⟩ : ∃ q', q3 = q' + 1 := ⟨q3 - 1, by omega⟩
        obtain ⟨gs, rfl, hgs1, hgs2⟩ := hX.out.heap.own.blockI' (by omega)
        have hst2 := hide (show ¬ LExit n c l t from fun h => by
          rcases hst.out with ⟨_, h2, h3⟩ | h2
          · rw [h2, h3] at hne; exact hne h
          · exact h2 h)
        obtain ⟨kk, hkk⟩ : ∃ k, k = min (c1 v) (l1 v) := ⟨_, rfl⟩
        have hsk : spk c1 l1 v = ⟨kk, kk, (v : Int)⟩ := by rw [hkk]; rfl
        have hmin := hide (show ∀ u, u < n → c1 u ≠ l1 u → kk ≤ c1 u ∧ kk ≤ l1 u from fun u hu hc => by
          have := splt_low (top_min hok.out hhs.out hf0 hu hc)
          omega)
        obtain ⟨p1, p2⟩ := pop_ok spLt_ord hok.out
        have hPop := hide (fun (w' : World) (hX' : LX n pb gc gl gh cc cl I O (.slice ae m ec) (s : Int) (t : Int) es (.slice (some ⟨gs, 0, none⟩) (q' + 1) k3) (q' + 1) f3 c1 l1 wk1 wS w') => popS_any gh gh q' gs k3 f3 w' hX'.heap (by omega))
        rw [hf0] at p2
        rw [hf0, hsk] at hPop
        obtain ⟨ff, hff⟩ : ∃ ff, ff = siftDown spLt q' (upz f3 0 (f3 q')) 0 := ⟨_, rfl⟩
        rw [← hff] at hPop p1 p2
        have hin := hide (show ∀ p ∈ RW (q' + 1) f3, p.c ≠ (v : Int) → p ∈ RW q' ff from fun p hp hc => by
          rcases List.mem_cons.1 (p2.mem_iff.2 hp) with h | h
          · exact absurd (by rw [h]; rfl) hc
          · exact h)
        have hin2 := hide (show ∀ p ∈ RW q' ff, p ∈ RW (q' + 1) f3 from fun p hp => p2.mem_iff.1 (List.mem_cons_of_mem _ hp))
        have p1 := hide p1
        have hfld := fun W : World => (show (Instr.field 161 (.agg #[.int .i64 kk, .int .i64 kk, .int .i64 (v : Int)]) 2).run Try.prog W = .ok (.int .i64 (v : Int)) W by kernel_rfl)
        have iv : (0 : Int) ≤ (v : Int) ∧ (v : Int) < (n : Int) := by omega
        have hww : IntKind.i64.wrap ((wk1 : Int) + 1) = (wk1 : Int) + 1 := IntWalk.i64_in _ (by omega)
        have k8 := hX.out.c8
        replace hff := hide hff
        replace hkk := hide hkk
        replace hsk := hide hsk
        replace hf0 := hide hf0
        replace hne := hide hne
        clear hst hx1 hx2 p2 hok hgs1 hgs2
        go_wp2_with fail
        refine (hPop.out _ hX.out).mono ?_
        rintro e w3 ⟨rfl, hA3, hK3⟩
        have hX3 := hide (hX.out.pop rfl hA3 hK3)
        clear hA3 hK3 hPop hX k8
        have c9 := hX3.out.c9
        have f9 := hX3.out.fz 9
        have hX4 := hide (hX3.out.setW (wk1 + 1))
        have zpb := cell_lt c9
        simp only at zpb
        clear hX3
        go_upto_region 4 with fail
        have ew : ((wk1 + 1 : Nat) : Int) = (wk1 : Int) + 1 := by omega
        rw [ew] at hX4
        generalize w3.setCell ⟨pb, 9, none⟩ (.int .i64 ((wk1 : Int) + 1)) = w4 at hX4 ⊢
        clear c9 f9 zpb hfld hww ew
        have c6 := hX4.out.c6
        have c7 := hX4.out.c7
        have d0 := hX4.out.cost.atI v hvn
        have d1 := hX4.out.look.atI v hvn
        have zb := cell_lt c6
        have zc := cell_lt d0
        have zl := cell_lt d1
        simp only at zb zc zl
        obtain ⟨cv, hcv⟩ : ∃ x, x = c1 v := ⟨_, rfl⟩
        obtain ⟨lv, hlv⟩ : ∃ x, x = l1 v := ⟨_, rfl⟩
        rw [← hcv] at d0
        rw [← hlv] at d1
        have hcl : cv ≠ lv := by rw [hcv, hlv]; exact hvc
        have hX5 := hide (fun k => hX4.out.stays (up_drewN (n := k) (Below.refl _ _)))
        clear hX4
        have iwk : (0 : Int) ≤ (wk1 : Int) := by omega
        have hqf : q' + 1 ≤ q + 601 * wk1 := by omega
        obtain ⟨gq, hgq⟩ : ∃ b : Bool, b = decide (cv > lv) := ⟨_, rfl⟩
        have hgq1 : cv > lv ∧ gq = true ∨ ¬ cv > lv ∧ gq = false := by
          by_cases h : cv > lv
          · exact .inl ⟨h, by rw [hgq]; simpa using h⟩
          · exact .inr ⟨h, by rw [hgq]; simpa using h⟩
        have hgq2 : decide (cv > lv) = gq := hgq.symm
        replace hgq := hide hgq
        replace hvc := hide hvc
        replace hcv := hide hcv
        replace hlv := hide hlv
        replace hcl := hide hcl
        replace hgq1 := hide hgq1
        go_quiet (fail)
        have hX5 := hide (hX5.out nq)
        have c6 : (w4.drewN nq).cell? ⟨pb, 6, none⟩ = _ := cu_drewN c6
        have c7 : (w4.drewN nq).cell? ⟨pb, 7, none⟩ = _ := cu_drewN c7
        have d0 : (w4.drewN nq).cell? ⟨gc, v, none⟩ = _ := cu_drewN d0
        have d1 : (w4.drewN nq).cell? ⟨gl, v, none⟩ = _ := cu_drewN d1
        have zb : pb < (w4.drewN nq).heap.size := zb
        have zc : gc < (w4.drewN nq).heap.size := zc
        have zl : gl < (w4.drewN nq).heap.size := zl
        generalize w4.drewN nq = w5 at hX5 c6 c7 d0 d1 zb zc zl ⊢
        go_upto_if 74 with fail
        go_cut [2] (fun s2 wx => s2 = .int .i64 (v : Int) ∧ ∃ (c2 l2 : Nat → Int) (a2 : Option Addr) (q2 k2 : Nat) (f2 : Nat → Ed), Hid (LX n pb gc gl gh cc cl I O (.slice ae m ec) (s : Int) (t : Int) es (.slice a2 q2 k2) q2 f2 c2 l2 (wk1 + 1) wS wx) ∧ Hid (LOk n s (nes es) c2 l2 (Dj es v 0)) ∧ Hid (LHas n s c2 l2 (Dj es v 0) (RW q2 f2)) ∧ Hid (HeapOK spLt q2 f2) ∧ q2 ≤ q' + 1 ∧ Hid (∀ l', LOk n s (nes es) c2 l' (fun _ => False) → ∃ K S U, LW n c2 l' K S U (wk1 + 1)))
        case first =>
          have fc := hX5.out.cost.free v
          have hvcn : c1 v ≠ l1 v := hvc.out
          rcases hgq1.out with ⟨hgt, rfl⟩ | ⟨hgt, rfl⟩
          · have hXn := hide ((hX5.out.stays (below_drew w5)).setC v hvn lv)
            have hlv1 : l1 v < c1 v := by rw [← hcv.out, ← hlv.out]; exact hgt
            have hLn := hide (show LOk n s (nes es) (upz c1 v lv) l1 (Dj es v 0) from lok_set hL.out (by rw [hlv.out]; exact hL.out.lb v hvn) (dj_start hR.out v))
            have hHn := hide (show LHas n s (upz c1 v lv) l1 (Dj es v 0) (RW q' ff) from lhas_set hhs.out (.inl hlv.out) hin.out hin2.out)
            have hWn := hide (show ∀ l', LOk n s (nes es) (upz c1 v lv) l' (fun _ => False) → ∃ K S U, LW n (upz c1 v lv) l' K S U (wk1 + 1) from fun l' hl' => by
              rw [hlv.out] at hl' ⊢
              exact ⟨_, _, _, lw_over hL.out hl' hE.out hW.out hvn hlv1 (fun u hu hc => by have h1 := hmin.out u hu hc; have h2 := hkk.out; omega)⟩)
            clear hX5 hMd hin hin2 hlv1 hvcn
            go_wp2
            go_region
            go_wp2
            go_meet
            case rel => exact ⟨rfl, _, _, _, _, _, _, hXn, hLn, hHn, p1, by omega, hWn⟩
          · have hlt1 : c1 v < l1 v := by
              have h1 := hcv.out
              have h2 := hlv.out
              omega
            have hvs : v ≠ s := fun e => by have := hL.out.ls; rw [← e] at this; have := (hL.out.cb v hvn).1; omega
            have hX6 := hX5.out.setC v hvn 1099511627776
            have hL6 := hide (show LOk n s (nes es) (upz c1 v 1099511627776) l1 (fun x => Dj es v 0 x ∨ x = v) from lok_set hL.out (by unfold FAR; omega) (fun y hy => .inl (dj_start hR.out v y hy)))
            have hH6 := hide (show LHas n s (upz c1 v 1099511627776) l1 (fun x => Dj es v 0 x ∨ x = v) (RW q' ff) from lhas_set hhs.out (.inr ⟨hvs, .inr rfl⟩) hin.out hin2.out)
            have hWn := hide (show ∀ l', LOk n s (nes es) (upz c1 v 1099511627776) l' (fun _ => False) → ∃ K S U, LW n (upz c1 v 1099511627776) l' K S U (wk1 + 1) from fun l' hl' => by
              exact ⟨_, _, _, lw_under hL.out hl' hE.out hW.out hvn hlt1 (fun u hu hc => by have h1 := hmin.out u hu hc; have h2 := hkk.out; omega)⟩)
            have hC := hide (hMd.out v hvn _ _ _ _ _ _ _ _ hX6 hL6.out.cb (by omega) p1.out)
            clear hX5 hX6 hMd hin hin2 hlt1 hvcn
            go_wp2_with fail
            refine hC.out.mono ?_
            rintro e w7 ⟨rfl, a7, q7, k7, f7, l7, hX7, hm7⟩
            obtain ⟨g1, g2, g3, g4⟩ := mend_holds (D' := Dj es v 0) hE.out hL6.out hH6.out p1.out hvn (fun x h => h) hm7
            replace hX7 := hide hX7
            replace g1 := hide g1
            replace g2 := hide g2
            replace g3 := hide g3
            clear hC hm7 hL6 hH6
            go_wp2
            go_meet
            case rel => exact ⟨rfl, _, _, _, _, _, _, hX7, g1, g2, g3, by omega, hWn⟩
        case rest =>
          obtain ⟨rfl, c2, l2, a2, q2, k2, f2, hX, hL2, hH2, hok, hq2, hWn⟩ := hcut
          clear hL hhs hW hX5 c6 c7 d0 d1 zb zc zl hcl hgq1 hgq2 hgq hmin hin hin2 p1 hvc hcv hlv hkk
          obtain ⟨av, cw, t0, t1, t2, t3, town, tblk⟩ := hT.out.outs.row v hvn
          have t0 := hX.out.keep.cu t0 (hT.out.ap O (.inr ⟨t1, t2⟩))
          have c3 := hX.out.c3
          have zO := cell_lt t0
          have zp := cell_lt c3
          simp only at zO zp
          obtain ⟨L, hLd⟩ : ∃ L, L = (outIdx es v es.length).length := ⟨_, rfl⟩
          have hL6 : L ≤ 600 := by rw [hLd]; have := outIdx_len es v es.length; have := hm.out; omega
          rw [← hLd] at t0 town tblk
          replace hLd := hide hLd
          obtain ⟨wo, hwo⟩ : ∃ wo : World, wo = w4 := ⟨_, rfl⟩
          clear hwo wo
          go_wp2
          go_loopw [105] (fun i wx => ∃ (j : Nat) (l2 : Nat → Int) (a2 : Option Addr) (q2 k2 : Nat) (f2 : Nat → Ed), j ≤ L ∧ i = .int .i64 (j : Int) ∧ Hid (LX n pb gc gl gh cc cl I O (.slice ae m ec) (s : Int) (t : Int) es (.slice a2 q2 k2) q2 f2 c2 l2 (wk1 + 1) wS wx) ∧ Hid (LOk n s (nes es) c2 l2 (Dj es v j)) ∧ Hid (LHas n s c2 l2 (Dj es v j) (RW q2 f2)) ∧ Hid (HeapOK spLt q2 f2) ∧ q2 ≤ q' + 1 + j) (fun i _ => L - (intOf i).toNat)
          case atStart => exact ⟨0, l2, a2, q2, k2, f2, Nat.zero_le _, rfl, hX, hL2, hH2, hok, by omega⟩
          case round =>
            clear hX hL2 hH2 hok t0 c3 zO zp
            obtain ⟨j, l2, a2, q2, k2, f2, hj, rfl, hX, hL2, hH2, hok, hq2⟩ := hrel
            by_cases hlt : j < L
            · have hjl : j < (outIdx es v es.length).length := by rw [← hLd.out]; exact hlt
              obtain ⟨i, hi0, hi, hui⟩ := outIdx_get es v j hjl
              obtain ⟨x, y, e1, e2, e3, e4, e5, e6, -⟩ := right_edge hR.out i hi
              have hxv : x = v := by omega
              subst hxv
              obtain ⟨gi, hgi, hg1⟩ := town.blockI' (show 0 < L by omega)
              subst hgi
              have hrow : wr.cell? ⟨gi, j, none⟩ = some (.int .i64 (i : Int)) := by
                have h1 := town.getI j hjl
                rw [hi0] at h1
                exact hX.out.keep.cu h1 (hT.out.ap gi (.inr (tblk gi rfl)))
              obtain ⟨ge, hge, hge2⟩ : ∃ ge, ae = some ⟨ge, 0, none⟩ ∧ ge < wr.heap.size := by
                obtain ⟨g, h2, _, h3⟩ := hX.out.eo.blockI' (by have := hm.out; omega)
                exact ⟨g, h2, h3⟩
              subst hge
              obtain ⟨k0, k1', k2'⟩ := hX.out.eo.getE i hi
              rw [e2] at k1'
              have c1' := hX.out.c1
              have ii : (0 : Int) ≤ (i : Int) ∧ (i : Int) < (m : Int) := by have := hm.out; omega
              have ij : (0 : Int) ≤ (j : Int) ∧ (j : Int) < (L : Int) := by omega
              have zi := cell_lt hrow
              have zb := cell_lt c1'
              simp only at zi zb
              have hC := hide (hMd.out y e4 _ _ _ _ _ _ _ _ hX.out hL2.out.cb (by omega) hok.out)
              have hDn := hide (dj_next hjl hi0 hi e1 e2)
              replace e1 := hide e1
              replace e2 := hide e2
              replace hui := hide hui
              replace hi0 := hide hi0
              clear k0 k2' town tblk hX
              go_wp2_with fail
              refine hC.out.mono ?_
              rintro e w7 ⟨rfl, a7, q7, k7, f7, l7, hX7, hm7⟩
              obtain ⟨g1, g2, g3, g4⟩ := mend_holds (D' := Dj es x (j + 1)) hE.out hL2.out hH2.out hok.out e4 hDn.out hm7
              replace hX7 := hide hX7
              replace g1 := hide g1
              replace g2 := hide g2
              replace g3 := hide g3
              clear hC hm7 hL2 hH2 hok hDn
              go_wp2
              go_roundw
              case rel => exact ⟨j + 1, l7, a7, q7, k7, f7, by omega, by go_num, hX7, g1, g2, g3, by omega⟩
              case measure => simp [intOf]; omega
            · obtain rfl : L = j := by omega
              have hL9 := hide (hL2.out.mono (D' := fun _ => False) (fun x hx => absurd hx (by rw [hLd.out]; exact dj_end x)))
              have hH9 := hide (hH2.out.mono (D' := fun _ => False) (fun x hx => absurd hx (by rw [hLd.out]; exact dj_end x)))
              obtain ⟨K9, S9, U9, hW9⟩ := hWn.out l2 hL9.out
              replace hW9 := hide hW9
              clear town tblk hL2 hH2 hWn
              go_wp2
              go_roundg (gk - 1)
              case measure => have := hW9.out.bound; omega
              case rel => exact ⟨a2, q2, k2, f2, c2, l2, wk1 + 1, K9, S9, U9, hX, hL9, hH9, hok, hW9, by omega, hide (.inr hst2.out), by have := hW9.out.bound; omega⟩
end
end Go.Proofs.Ytcehdpeeaogpiaa

/-! A plan (life): what settle does, and that it leaves all else alone. Conditions: the object reads as LX says, the tables stand beside it. -/
namespace Go.Proofs.Ytcehdpeeaogpiaa
open Go.RowKit
set_option linter.unusedSimpArgs false
set_option linter.unusedVariables false
/-- what settle leaves, and what it does not touch -/
def LSettleO [LFr] (n pb gc gl gh cc cl I O : Nat) (ev : Value) (s t : Nat) (es : List Ed) (v0 : Value) (q : Nat) (c l : Nat → Int) (wS w0 : World) (e : Ending) (w' : World) : Prop :=
  e = .returned (.tuple #[]) ∧ Keep (fun j => LXb pb gc gl gh ev j ∨ v0.ownBlock = some j) w0 w' ∧ ∃ a1 q1 k1 f1 c1 l1 wk1, LX n pb gc gl gh cc cl I O ev (s : Int) (t : Int) es (.slice a1 q1 k1) q1 f1 c1 l1 wk1 wS w' ∧ (∀ j, (Value.slice a1 q1 k1).ownBlock = some j → v0.ownBlock = some j ∨ w0.heap.size ≤ j) ∧ LOk n s (nes es) c1 l1 (fun _ => False) ∧ LHas n s c1 l1 (fun _ => False) (RW q1 f1) ∧ HeapOK spLt q1 f1 ∧ LExit n c1 l1 t ∧ wk1 ≤ 2 * n ∧ q1 ≤ q + 601 * wk1 ∧ (LExit n c l t → wk1 = 0 ∧ c1 = c ∧ l1 = l)
theorem lsettle_own {J : LFr} {n pb gc gl gh cc cl I O : Nat} {es : List Ed} {a0 : Option Addr} {q qc : Nat} {f : Nat → Ed} {c l : Nat → Int} {wk : Nat} {wS w : World} (lo1 hi1 lo2 hi2 s t m ec : Nat) (ae : Option Addr) (hs : s < n) (ht : t < n) (hm : es.length = m) (hX : @LX J n pb gc gl gh cc cl I O (.slice ae m ec) (s : Int) (t : Int) es (.slice a0 q qc) q f c l wk wS w) (hT : LTab wS lo1 hi1 lo2 hi2 n pb gc gl gh I O (.slice ae m ec) es) (hR : Right n es) (hp : ∀ e ∈ es, 1 ≤ e.c) (hm6 : m ≤ 600) (hn : n ≤ 64) (hq : q ≤ 99990000000) (hok : HeapOK spLt q f) (hL : LOk n s (nes es) c l (fun _ => False)) (hhs : LHas n s c l (fun _ => False) (RW q f)) :
    Calls Try.prog 121 #[.pointer (some ⟨pb, 0, none⟩)] w (@LSettleO J n pb gc gl gh cc cl I O (.slice ae m ec) s t es (.slice a0 q qc) q c l wS w) := by
  obtain ⟨A, hA⟩ : ∃ A : Nat → Prop, A = fun j => LXb pb gc gl gh (.slice ae m ec) j ∨ (Value.slice a0 q qc).ownBlock = some j := ⟨_, rfl⟩
  have hk := hX.keep
  have hnf := hX.nf
  have h2 := hX.rebase (I2 := LFr.from w A) (Keep.refl (fun _ => False) w) (fun _ _ e => e) rfl hk ⟨Keep.refl _ _, fun j hj => .inl (by rw [hA]; exact hj)⟩
  refine (@lsettle_any (LFr.from w A) n pb gc gl gh cc cl I O es a0 q qc f c l wk wS w lo1 hi1 lo2 hi2 s t m ec ae hs ht hm h2 hT hR hp hm6 hn hq hok hL hhs).mono ?_
  rintro e w' ⟨he, a1, q1, k1, f1, c1, l1, wk1, g1, g2⟩
  have hk1 := @LX.keep (LFr.from w A) _ _ _ _ _ _ _ _ _ _ _ _ _ _ _ _ _ _ _ _ _ g1
  have hn1 := @LX.nf (LFr.from w A) _ _ _ _ _ _ _ _ _ _ _ _ _ _ _ _ _ _ _ _ _ g1
  have hkA : Keep A w w' := hn1.1
  have hbl := @LX.hs (LFr.from w A) _ _ _ _ _ _ _ _ _ _ _ _ _ _ _ _ _ _ _ _ _ g1
  have hbg := hk.size
  have hlt := @LX.own_lt J _ _ _ _ _ _ _ _ _ _ _ _ _ _ _ _ _ _ _ _ _ hX
  refine ⟨he, by rw [hA] at hkA; exact hkA, a1, q1, k1, f1, c1, l1, wk1, g1.rebase (I2 := J) (Keep.refl (fun _ => False) w') (fun _ _ e => e) rfl hk1 ⟨hnf.1.trans2 hkA (fun j hj => hnf.2 j (by rw [hA] at hj; exact hj)), fun j hj => ?_⟩, fun j hj => ?_, g2⟩
  · rcases hn1.2 j hj with h | h
    · exact hnf.2 j (by have h' : A j := h; rw [hA] at h'; exact h')
    · exact .inr (Nat.le_trans hnf.1.size h)
  · rcases hn1.2 j (.inr hj) with h | h
    · have h' : A j := h
      rw [hA] at h'
      rcases h' with h' | h'
      · have := hlt h'; have := hbl j hj; omega
      · exact .inl h'
    · exact .inr h
end Go.Proofs.Ytcehdpeeaogpiaa
