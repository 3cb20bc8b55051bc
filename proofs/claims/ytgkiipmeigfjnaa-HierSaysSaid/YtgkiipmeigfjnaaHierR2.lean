/-
  The reference's Doors. Conditions: right ground, squares of 1 to 8 a side.
-/
import Derived.Test.YtgkiipmeigfjnaaHierR
namespace Go.Proofs.Ytgkiipmeigfjnaa
open Go.RowKit
set_option linter.unusedSimpArgs false
set_option linter.unusedVariables false
def qIdx (q : Ed → Bool) : List Ed → Nat → Int | [], _ => -1 | e :: r, k => if q e = true then (k : Int) else qIdx q r (k + 1)
theorem qIdx_hit {q : Ed → Bool} {es : List Ed} {k : Nat} (h : k < es.length) (hq : q es[k] = true) : qIdx q (es.drop k) k = (k : Int) := by
  rw [List.drop_eq_getElem_cons h, qIdx, if_pos hq]
theorem qIdx_miss {q : Ed → Bool} {es : List Ed} {k : Nat} (h : k < es.length) (hq : q es[k] = false) : qIdx q (es.drop k) k = qIdx q (es.drop (k + 1)) (k + 1) := by
  rw [List.drop_eq_getElem_cons h, qIdx, if_neg (by simp [hq])]
theorem qIdx_any {q : Ed → Bool} : ∀ (es : List Ed) (k : Nat), decide (0 ≤ qIdx q es k) = es.any q
  | [], k => by simp [qIdx]
  | e :: r, k => by
    rw [qIdx, List.any_cons]
    by_cases h : q e = true
    · rw [if_pos h, h]; simp
    · rw [if_neg h, qIdx_any r (k + 1)]
      have : q e = false := by simpa using h
      rw [this]; simp
set_option maxRecDepth 100000 in
set_option maxHeartbeats 2000000 in
theorem ixd_any (W H k : Int) (a : Option Addr) (l cap : Nat) (v : Nat) (bv bg bk : Nat) (an : Option Addr) (cn m : Nat) (es : List Ed) (hm : es.length = m) (w : World) (B : Nat) (hB : B ≤ w.heap.size) (hE : Row encE 3 w B an es) (hC : C3 w W H a l cap k (v : Int) bv bg bk) (hW : 1 ≤ W) (hW8 : W ≤ 8) (hk : 1 ≤ k) (hk8 : k ≤ 8) (hin : ∀ e ∈ es, 0 ≤ e.u ∧ e.u < 64 ∧ 0 ≤ e.v ∧ e.v < 64) (hel : m ≤ 512) :
    Calls Try.prog 135 #[.slice an m cn, .func (.func 86) #[] #[.pointer (some ⟨bv, 0, none⟩), .pointer (some ⟨bg, 0, none⟩), .pointer (some ⟨bk, 0, none⟩)]] w fun e w' => e = .returned (.int .i64 (qIdx (dq W k v) es 0)) ∧ Below w.heap.size w w' := by
  subst hm
  have hD := hide (fun (ed : Ed) w hC hu hv => rd1_any W H k a l cap v bv bg bk ed w hC hW hW8 hk hk8 hu hv)
  replace hE := hide hE
  replace hin := hide hin
  replace hC := hide hC
  go_enter Try.func135, Try.ntmps135
  go_wp2
  go_loopw [8] (fun i wr => ∃ j : Nat, j ≤ es.length ∧ i = .int .i64 j ∧ Hid (qIdx (dq W k v) es 0 = qIdx (dq W k v) (es.drop j) j) ∧ Hid (Below w.heap.size w wr)) (fun i _ => es.length - (intOf i).toNat)
  case atStart => exact ⟨0, Nat.zero_le _, rfl, rfl, Below.refl _ _⟩
  case round =>
    obtain ⟨j, hj, rfl, hrest, hb⟩ := hrel
    by_cases hlt : j < es.length
    · obtain ⟨h1, h2, h3, h4⟩ := hin.out es[j] (List.getElem_mem hlt)
      obtain ⟨b, o, rfl, hbB, c0, c1, c2⟩ := hE.out.ed j hlt
      have c0 := cu_below hb.out c0 (by simp; omega)
      have c1 := cu_below hb.out c1 (by simp; omega)
      have c2 := cu_below hb.out c2 (by simp; omega)
      have hz := hb.out.size
      have hbl : b < wr.heap.size := by omega
      obtain ⟨ed, hed⟩ : ∃ ed, ed = es[j] := ⟨_, rfl⟩
      have hG := hide (hD.out ed wr (hC.out.below hb.out) (by rw [hed]; exact ⟨h1, h2⟩) (by rw [hed]; exact ⟨h3, h4⟩))
      have hhit := hide (fun (h : dq W k v ed = true) => qIdx_hit (q := dq W k v) hlt (by rw [← hed]; exact h))
      have hmiss := hide (fun (h : dq W k v ed = false) => qIdx_miss (q := dq W k v) hlt (by rw [← hed]; exact h))
      rw [← hed] at c0 c1 c2
      replace hed := hide hed
      obtain ⟨t, ht⟩ : ∃ t, t = dq W k v ed := ⟨_, rfl⟩
      rw [← ht] at hG hhit hmiss
      replace ht := hide ht
      have ij : (0 : Int) ≤ (j : Int) ∧ (j : Int) < (es.length : Int) := by omega
      clear h1 h2 h3 h4
      cases t with
      | true =>
        have hq := hide (hhit.out rfl)
        clear hhit hmiss
        go_wp2_with fail
        refine hG.out.mono ?_
        rintro e w1 ⟨rfl, hb1⟩
        go_wp2
        go_ret
        exact ⟨ret_int (by rw [hrest.out, hq.out]), hb.out.trans (hb1.mono hz)⟩
      | false =>
        have hq := hide (hmiss.out rfl)
        clear hhit hmiss
        go_wp2_with fail
        refine hG.out.mono ?_
        rintro e w1 ⟨rfl, hb1⟩
        go_wp2
        go_roundw
        case rel => exact ⟨j + 1, by omega, by go_num, hide (by rw [hrest.out]; exact hq.out), hide (hb.out.trans (hb1.mono hz))⟩
        case measure => simp [intOf]; omega
    · go_wp2
      go_ret
      refine ⟨ret_int ?_, hb.out⟩
      rw [hrest.out, List.drop_eq_nil_of_le (by omega)]
      rfl
theorem ctd_any (W H k : Int) (a : Option Addr) (l cap : Nat) (v : Nat) (bv bg bk : Nat) (an : Option Addr) (cn m : Nat) (es : List Ed) (hm : es.length = m) (w : World) (B : Nat) (hB : B ≤ w.heap.size) (hE : Row encE 3 w B an es) (hC : C3 w W H a l cap k (v : Int) bv bg bk) (hW : 1 ≤ W) (hW8 : W ≤ 8) (hk : 1 ≤ k) (hk8 : k ≤ 8) (hin : ∀ e ∈ es, 0 ≤ e.u ∧ e.u < 64 ∧ 0 ≤ e.v ∧ e.v < 64) (hel : m ≤ 512) :
    Calls Try.prog 85 #[.slice an m cn, .func (.func 86) #[] #[.pointer (some ⟨bv, 0, none⟩), .pointer (some ⟨bg, 0, none⟩), .pointer (some ⟨bk, 0, none⟩)]] w fun e w' => e = .returned (.bool (es.any (dq W k v))) ∧ Below w.heap.size w w' := by
  have hG := hide (ixd_any W H k a l cap v bv bg bk an cn m es hm w B hB hE hC hW hW8 hk hk8 hin hel)
  have hl2 := hide (qIdx_any (q := dq W k v) es 0)
  clear hE hC hin
  go_enter Try.func85, Try.ntmps85
  go_wp2_with fail
  refine hG.out.mono ?_
  rintro e w1 ⟨rfl, hb1⟩
  go_wp2
  go_ret
  exact ⟨ret_bool hl2.out, hb1⟩
/-- a list of places handed back -/
def DoorBack1 (xs : List Int) (w : World) (e : Ending) (w' : World) : Prop := ∃ a c, e = .returned (.slice a xs.length c) ∧ Row encI 1 w' w'.heap.size a xs ∧ Below w.heap.size w w'
set_option maxRecDepth 100000 in
set_option maxHeartbeats 4000000 in
theorem rdoors_ok (W H k : Int) (a : Option Addr) (cap : Nat) (cs : List Int) (w : World) (B : Nat) (hB : B ≤ w.heap.size) (hE : Row encI 1 w B a cs) (h0 : hlErr W H cs k = 0) (es : List Ed) (hes : gridNet W H cs cs.length = es) (hin : ∀ e ∈ es, 0 ≤ e.u ∧ e.u < (cs.length : Int) ∧ 0 ≤ e.v ∧ e.v < (cs.length : Int)) :
    Calls Try.prog 32 #[.agg #[.int .i64 W, .int .i64 H, .slice a cs.length cap], .int .i64 k] w (DoorBack1 (doorL (dr (betE W k es)) cs.length) w) := by
  obtain ⟨g0, k1, k8⟩ := hl_ok h0
  have h64 := grid_64 g0
  have hbds := gridErr_ok g0
  have b1 := hbds.1
  have b2 := hbds.2.1
  have hcl := hide hbds.2.2.2.2.1
  have hel : es.length ≤ 512 := by have := gridNet_len W H cs cs.length; rw [hes] at this; omega
  have hO := hide (fun w B hB hE => by have := ofgrid_ok W H a cap cs w B hB hE g0; rw [hes, ← hcl.out] at this; exact this)
  obtain ⟨m, hm⟩ : ∃ m, m = es.length := ⟨_, rfl⟩
  have hCt := hide (fun (v : Nat) bv bg bk an cn w B hB hE hC => ctd_any W H k a cs.length cap v bv bg bk an cn m es hm.symm w B hB hE hC b1 b2 k1 k8 (fun e he => by have := hin e he; omega) (by omega))
  have hf := hide (show ∀ v, dr (betE W k es) v = es.any (dq W k v) from fun v => dr_bet W k es v)
  generalize dr (betE W k es) = f at *
  replace hE := hide hE
  replace hm := hide hm
  clear hbds h0 g0 hes hin
  go_enter Try.func32, Try.ntmps32
  go_wp2_with fail
  refine (hO.out _ B (by simp; omega) (hE.out.below ((by repeat (first | with_reducible exact Below.refl _ _ | with_reducible assumption | with_reducible refine up_drewN ?_ | with_reducible refine up_drew ?_ | (with_reducible refine up_alloc ?_ ?_; rotate_left; (first | omega | (simp <;> omega) | simp)) | (with_reducible refine up_set ?_ ?_; rotate_left; (first | omega | (simp <;> omega) | simp)) | (with_reducible refine Below.trans ?_ (Below.mono (by with_reducible assumption) ?_); rotate_left; (first | omega | (simp <;> omega) | simp)))) : Below w.heap.size w _) hB)).mono ?_
  rintro e w1 ⟨v, rfl, own, hb1⟩
  obtain ⟨an, cn, rfl⟩ := own.shape (n := m) hm.out.symm
  have hrow := hide own.rowE
  have hz1 := hb1.size
  simp at hz1
  have j0 : w1.cell? ⟨w.heap.size, 0, none⟩ = some (.int .i64 W) := cu_below hb1 (by simp [go_sem]) (by simp <;> omega)
  have j1 : w1.cell? ⟨w.heap.size, 1, none⟩ = some (.int .i64 H) := cu_below hb1 (by simp [go_sem]) (by simp <;> omega)
  have j2 : w1.cell? ⟨w.heap.size, 2, none⟩ = some (.slice a cs.length cap) := cu_below hb1 (by simp [go_sem]) (by simp <;> omega)
  have j3 : w1.cell? ⟨w.heap.size + 1, 0, none⟩ = some (.int .i64 k) := cu_below hb1 (by simp [go_sem]) (by simp <;> omega)
  have hbw := hide (show Below w.heap.size w w1 from (by repeat (first | with_reducible exact Below.refl _ _ | with_reducible assumption | with_reducible refine up_drewN ?_ | with_reducible refine up_drew ?_ | (with_reducible refine up_alloc ?_ ?_; rotate_left; (first | omega | (simp <;> omega) | simp)) | (with_reducible refine up_set ?_ ?_; rotate_left; (first | omega | (simp <;> omega) | simp)) | (with_reducible refine Below.trans ?_ (Below.mono (by with_reducible assumption) ?_); rotate_left; (first | omega | (simp <;> omega) | simp)))))
  clear hb1 own hO
  obtain ⟨w2, hw2⟩ : ∃ w2, w2 = w1.alloc (.cells #[.int .i64 (cs.length : Int), .slice an m cn] 24) := ⟨_, rfl⟩
  have hb12 : Below w1.heap.size w1 w2 := by rw [hw2]; exact (Below.refl _ _).alloc (Nat.le_refl _) _
  have n0 : w2.cell? ⟨w1.heap.size, 0, none⟩ = some (.int .i64 (cs.length : Int)) := by rw [hw2]; simp [go_sem]
  have n1 : w2.cell? ⟨w1.heap.size, 1, none⟩ = some (.slice an m cn) := by rw [hw2]; simp [go_sem]
  have hz2 : w1.heap.size < w2.heap.size := by have := cell_lt n0; simpa using this
  have i0 := cu_below hb12 j0 (by simp; omega)
  have i1 := cu_below hb12 j1 (by simp; omega)
  have i2 := cu_below hb12 j2 (by simp; omega)
  have i3 := cu_below hb12 j3 (by simp; omega)
  have hrow2 := hide (hrow.out.below hb12 (Nat.le_refl _))
  have hbw2 := hide (hbw.out.trans (hb12.mono (by omega)))
  replace hw2 := hide hw2
  clear hb12 hrow hbw
  go_wp2
  simp only [← hw2.out]
  clear j0 j1 j2 j3
  go_loopw [5, 7, 12] (fun s5 _ i wr => ∃ (j p : Nat) (av : Option Addr) (cv : Nat), j ≤ cs.length ∧ p ≤ j ∧ i = .int .i64 j ∧ s5 = .slice av p cv ∧ Hid ((doorL f j).length = p) ∧ Hid (Own encI 1 3 wr w2.heap.size (.slice av p cv) (doorL f j)) ∧ Hid (Below w2.heap.size w2 wr)) (fun _ _ i _ => cs.length - (intOf i).toNat)
  case atStart => exact ⟨0, 0, none, 0, Nat.zero_le _, Nat.le_refl _, rfl, rfl, hide rfl, hide (Own.nil _ _), hide (Below.refl _ _)⟩
  case round =>
    obtain ⟨j, p, av, cv, hj, hp, rfl, rfl, hlp, own, hb⟩ := hrel
    have hzr := hb.out.size
    by_cases hlt : j < cs.length
    · have hds := hide (doorL_succ f j)
      have y0 := cu_below hb.out i0 (by simp; omega)
      have y1 := cu_below hb.out i1 (by simp; omega)
      have y2 := cu_below hb.out i2 (by simp; omega)
      have y3 := cu_below hb.out i3 (by simp; omega)
      have y4 := cu_below hb.out n0 (by simp; omega)
      have y5 := cu_below hb.out n1 (by simp; omega)
      have hzx : w1.heap.size < wr.heap.size := by omega
      have hzw : w.heap.size < wr.heap.size := by omega
      have hzw1 : w.heap.size + 1 < wr.heap.size := by omega
      have ij : (0 : Int) ≤ (j : Int) ∧ (j : Int) < (cs.length : Int) := by omega
      have hR := hide (hrow2.out.below hb.out (by omega))
      have hCj := hide (hCt.out j wr.heap.size w.heap.size (w.heap.size + 1) an cn (wr.alloc (.cells #[.int .i64 (j : Int)] 3)) w1.heap.size (by simp; omega) (hR.out.below ((Below.refl _ _).alloc (Nat.le_refl _) _) (by omega)) ⟨by simp [go_sem], cu_alloc y0, cu_alloc y1, cu_alloc y2, cu_alloc y3⟩)
      rw [← hf.out] at hCj
      obtain ⟨fj, hfj⟩ : ∃ fj, fj = f j := ⟨_, rfl⟩
      rw [← hfj] at hCj hds
      replace hfj := hide hfj
      clear i0 i1 i2 i3 n0 n1
      go_wp2_with fail
      refine hCj.out.mono ?_
      rintro e w5 ⟨rfl, hb5⟩
      have z0 := cu_below hb5 (show (wr.alloc (.cells #[.int .i64 (j : Int)] 3)).cell? ⟨wr.heap.size, 0, none⟩ = some (.int .i64 (j : Int)) by simp [go_sem]) (by simp)
      have hz5 : wr.heap.size < w5.heap.size := by have := cell_lt z0; simpa using this
      have hb5' := hide (unalloc (hb5.mono (by simp)) (Nat.le_refl _) : Below wr.heap.size wr w5)
      have own5 := hide (own.out.stays hb5'.out)
      have hbw5 := hide (hb.out.trans (hb5'.out.mono hzr))
      clear hb5 y0 y1 y2 y3 y4 y5 hCj
      cases fj with
      | true =>
        simp only [if_true] at hds
        go_wp2_with (at_builtin; (refine wpList_push (e := 3) (enc := encI) (xs := doorL f j) (v := .slice av (p) cv) (base := w2.heap.size) rfl (.tmp 19) (.tmp 21) 34 rfl _ 8 Try.underlying34 info_int rfl ?d11 lenI oneI (p) ?d21 ?d31 ?d41 ⟨w5.heap.size, 0, none⟩ 1 (j : Int) ?d51 ?d61 ?d71 ?d81 ?d91 ?_); (case d11 => omega); (case d21 => exact hlp.out); (case d31 => rfl); (case d41 => exact (own5.out.alloc _)); (case d51 => rfl); (case d61 => exact newI _ _ _ _ rfl); (case d71 => omega); (case d81 => unfold maxLen; omega); (case d91 => first | omega | (simp; done) | (simp; omega)); intro g1 c1 w1 own1 hb1 hgr1 hg1 hgl1; have hB1 := hide (unalloc hb1 (by omega)); replace own1 := hide own1; replace hb1 := hide hb1; replace hgr1 := hide hgr1)
        go_roundw
        case rel => exact ⟨j + 1, p + 1, _, _, by omega, by omega, by go_num, rfl, hide (by rw [hds.out, List.length_append, hlp.out]; rfl), hide (by rw [hds.out]; exact own1.out), hide (hbw5.out.trans hB1.out)⟩
        case measure => simp [intOf]; omega
      | false =>
        simp only [Bool.false_eq_true, if_false] at hds
        go_wp2
        go_roundw
        case rel => exact ⟨j + 1, p, av, cv, by omega, by omega, by go_num, rfl, hide (by rw [hds.out]; exact hlp.out), hide (by rw [hds.out]; exact own5.out), hbw5⟩
        case measure => simp [intOf]; omega
    · obtain rfl : j = cs.length := by omega
      obtain ⟨a', c', hv', hrp, _⟩ := own.out.row lenI
      injection hv' with g1 g2 g3
      subst g1 g3
      clear g2
      replace hrp := hide hrp
      go_wp2
      go_ret
      exact ⟨av, cv, by rw [hlp.out]; rfl, hrp.out, hbw2.out.trans (hb.out.mono (by have := hbw2.out.size; omega))⟩
end Go.Proofs.Ytgkiipmeigfjnaa
