/-
  What comp.Order returns: the order of the components' least places. Conditions: that the net reads.
-/
import Derived.Test.YtcehdpeeaogpiaaHeapZC
import Derived.Test.YtcehdpeeaogpiaaCompQ
import Derived.Test.YtcehdpeeaogpiaaCompO
namespace Go.Proofs.Ytcehdpeeaogpiaa
open Go.RowKit
set_option linter.unusedSimpArgs false
set_option linter.unusedVariables false
/-- what holds while Order runs on: wH the world ahead of the heap, w5 ahead of the rows, w6 behind them -/
structure CG (w wH w5 w6 : World) (n gA : Nat) (A : Nat → Int) (v : Value) (k : Nat) (f : Nat → Int) (ov : Value) (out : List Int) (wr : World) : Prop where
  ah : Own encI 1 3 wr w.heap.size (.slice (some ⟨gA, 0, none⟩) n n) (LI n A)
  heap : HeapZ wr wH.heap.size wH.heap.size (.func (.func 97) #[] #[]) v k f
  outs : Own encI 1 3 wr w6.heap.size ov out
  keep : Keep (fun j => j = gA ∨ (wH.heap.size ≤ j ∧ j < w5.heap.size)) w6 wr
  sep : ∀ j, v.ownBlock = some j → (j < w5.heap.size ∨ w6.heap.size ≤ j) ∧ ov.ownBlock ≠ some j
  lowA : gA < wH.heap.size
  l5 : wH.heap.size < w5.heap.size
  l6 : w5.heap.size ≤ w6.heap.size
section
variable {w wH w5 w6 wr w' : World} {n gA k : Nat} {A : Nat → Int} {v ov : Value} {f : Nat → Int} {out : List Int}
theorem CG.stays (h : CG w wH w5 w6 n gA A v k f ov out wr) (b : Below wr.heap.size wr w') : CG w wH w5 w6 n gA A v k f ov out w' :=
  ⟨h.ah.stays b, h.heap.stays b, h.outs.stays b, h.keep.trans (Keep.new b), h.sep, h.lowA, h.l5, h.l6⟩
theorem CG.size (h : CG w wH w5 w6 n gA A v k f ov out wr) : w6.heap.size ≤ wr.heap.size := h.keep.size
theorem CG.setA (h : CG w wH w5 w6 n gA A v k f ov out wr) (u : Nat) (hu : u < n) (x : Int) : CG w wH w5 w6 n gA (upz A u x) v k f ov out (wr.setCell ⟨gA, u, none⟩ (.int .i64 x)) := by
  have kp := (Keep.refl (fun k => k = gA) wr).setCell (p := ⟨gA, u, none⟩) (.inl rfl) (.int .i64 x)
  have hl := h.lowA
  have h5 := h.l5
  have h6 := h.l6
  refine ⟨h.ah.setI u hu x, h.heap.keep kp (by omega) (fun j hj => ?_), kp.own h.outs (fun j hj => ?_), h.keep.setCell (.inl (.inl rfl)) _, h.sep, h.lowA, h.l5, h.l6⟩
  · have := (h.heap.own.block_lt j hj).1; omega
  · have := (h.outs.block_lt j hj).1; omega
theorem CG.push (h : CG w wH w5 w6 n gA A v k f ov out wr) {k' : Nat} {f' : Nat → Int} (hp : HeapedZ wr wH.heap.size wH.heap.size (.func (.func 97) #[] #[]) v k' f' w') : ∃ gs c, CG w wH w5 w6 n gA A (.slice (some ⟨gs, 0, none⟩) k' c) k' f' ov out w' := by
  obtain ⟨gs, c, h1, h2, h3⟩ := hp
  have hl := h.lowA
  have h5 := h.l5
  have h6 := h.l6
  refine ⟨gs, c, h2.own h.ah (fun j hj hT => ?_), h1, h2.own h.outs (fun j hj hT => ?_), h.keep.trans2 h2 (fun j hj => ?_), fun j hj => ?_, h.lowA, h.l5, h.l6⟩
  · rcases hT with hT | hT
    · simp [Value.ownBlock] at hj; omega
    · have := (h.heap.own.block_lt j hT).1; simp [Value.ownBlock] at hj; omega
  · rcases hT with hT | hT
    · have := (h.outs.block_lt j hj).1; omega
    · exact (h.sep j hT).2 hj
  · rcases hj with hj | hj
    · exact .inl (.inr ⟨by omega, by omega⟩)
    · rcases (h.sep j hj).1 with h7 | h7
      · exact .inl (.inr ⟨(h.heap.own.block_lt j hj).1, h7⟩)
      · exact .inr h7
  · simp [Value.ownBlock] at hj
    subst hj
    rcases h3 with h3 | h3
    · exact h.sep gs h3
    · exact ⟨.inr (by have := h.size; omega), fun e => by have := (h.outs.block_lt gs e).2; omega⟩
theorem CG.pop (h : CG w wH w5 w6 n gA A v k f ov out wr) {gs c k' : Nat} {f' : Nat → Int} (hv : v.ownBlock = some gs) (h1 : HeapZ w' wH.heap.size wH.heap.size (.func (.func 97) #[] #[]) (.slice (some ⟨gs, 0, none⟩) k' c) k' f') (h2 : Keep (fun k => k = wH.heap.size ∨ k = gs) wr w') : CG w wH w5 w6 n gA A (.slice (some ⟨gs, 0, none⟩) k' c) k' f' ov out w' := by
  have hl := h.lowA
  have h5 := h.l5
  have h6 := h.l6
  have hs := h.sep gs hv
  have hb := (h.heap.own.block_lt gs hv).1
  refine ⟨h2.own h.ah (fun j hj hT => ?_), h1, h2.own h.outs (fun j hj hT => ?_), h.keep.trans2 h2 (fun j hj => ?_), fun j hj => ?_, h.lowA, h.l5, h.l6⟩
  · simp [Value.ownBlock] at hj; omega
  · rcases hT with hT | hT
    · have := (h.outs.block_lt j hj).1; omega
    · rw [hT] at hj; exact hs.2 hj
  · rcases hj with hj | hj
    · exact .inl (.inr ⟨by omega, by omega⟩)
    · rcases hs.1 with h7 | h7
      · exact .inl (.inr ⟨by omega, by omega⟩)
      · exact .inr (by omega)
  · simp [Value.ownBlock] at hj
    subst hj
    exact hs
theorem CG.app (h : CG w wH w5 w6 n gA A v k f ov out wr) {o : Obj} {ov' : Value} {out' : List Int} (own : Own encI 1 3 w' w6.heap.size ov' out') (hg : (wr.alloc o).grownBy w' ov.ownBlock) (hat : ∀ j, ov'.ownBlock = some j → ov.ownBlock = some j ∨ wr.heap.size ≤ j) : CG w wH w5 w6 n gA A v k f ov' out' w' := by
  have hl := h.lowA
  have h5 := h.l5
  have h6 := h.l6
  have kp : Keep (fun j => ov.ownBlock = some j) wr w' := ((Keep.refl _ wr).alloc o).grown hg (fun j hj => .inl hj)
  refine ⟨kp.own h.ah (fun j hj hT => ?_), h.heap.keep kp (fun hT => ?_) (fun j hj hT => (h.sep j hj).2 hT), own, h.keep.trans2 kp (fun j hj => .inr (h.outs.block_lt j hj).1), fun j hj => ⟨(h.sep j hj).1, fun e => ?_⟩, h.lowA, h.l5, h.l6⟩
  · have := (h.outs.block_lt j hT).1; simp [Value.ownBlock] at hj; omega
  · have := (h.outs.block_lt _ hT).1; omega
  · rcases hat j e with h7 | h7
    · exact (h.sep j hj).2 h7
    · have := (h.heap.own.block_lt j hj).2; omega
end
def CompK (n : Nat) (es : List Ed) : Nat → Nat := (tall (nes es) n n).lst
def COrdAns (n : Nat) (es : List Ed) (w : World) (e : Ending) (w' : World) : Prop := Below w.heap.size w w' ∧ ∃ v, e = .returned (.tuple #[v, .int .i64 0]) ∧ Own encI 1 3 w' w.heap.size v (LN (kahnK n (nes es) (CompK n es)))
set_option maxRecDepth 100000 in
set_option maxHeartbeats 1000000 in
theorem corder_bad (N : Int) (an : Option Addr) (cap : Nat) (es : List Ed) (w : World) (B : Nat) (hB : B ≤ w.heap.size) (hE : Row encE 3 w B an es) (hl : es.length ≤ 9223372036854775807) (h0 : netErr N es ≠ 0) :
    Calls Try.prog 34 #[.agg #[.int .i64 N, .slice an es.length cap]] w fun e w' => e = .returned (.tuple #[.slice none 0 0, .int .i64 (netErr N es)]) ∧ Below w.heap.size w w' := by
  have q0 : (netErr N es != 0) = true := by simp [h0]
  have hC := hide (show ∀ w B, _ from fun w B hB hE => of_bad N an cap es w B hB hE hl h0)
  replace hE := hide hE
  clear h0
  go_enter Try.func34, Try.ntmps34
  go_wp2_with fail
  refine (hC.out _ B (by simp <;> omega) (hE.out.below ((by repeat (first | with_reducible exact Below.refl _ _ | with_reducible assumption | with_reducible refine up_drewN ?_ | with_reducible refine up_drew ?_ | (with_reducible refine up_alloc ?_ ?_; rotate_left; (first | omega | (simp <;> omega) | simp)) | (with_reducible refine up_set ?_ ?_; rotate_left; (first | omega | (simp <;> omega) | simp)) | (with_reducible refine Below.trans ?_ (Below.mono (by with_reducible assumption) ?_); rotate_left; (first | omega | (simp <;> omega) | simp)))) : Below w.heap.size w _) hB)).mono ?_
  rintro e w1 ⟨rfl, hb1⟩
  go_wp2
  go_ret2
  exact ⟨rfl, (by repeat (first | with_reducible exact Below.refl _ _ | with_reducible assumption | with_reducible refine up_drewN ?_ | with_reducible refine up_drew ?_ | (with_reducible refine up_alloc ?_ ?_; rotate_left; (first | omega | (simp <;> omega) | simp)) | (with_reducible refine up_set ?_ ?_; rotate_left; (first | omega | (simp <;> omega) | simp)) | (with_reducible refine Below.trans ?_ (Below.mono (by with_reducible assumption) ?_); rotate_left; (first | omega | (simp <;> omega) | simp))))⟩
set_option maxRecDepth 100000 in
set_option maxHeartbeats 4000000 in
theorem corder_ok (n : Nat) (an : Option Addr) (cap : Nat) (es : List Ed) (w : World) (B : Nat) (hB : B ≤ w.heap.size) (hE : Row encE 3 w B an es) (hl : es.length ≤ 9223372036854775807) (h0 : netErr (n : Int) es = 0) :
    Calls Try.prog 34 #[.agg #[.int .i64 (n : Int), .slice an es.length cap]] w (COrdAns n es w) := by
  obtain ⟨n1, n2, n3, n4⟩ := netErr_ok h0
  have hes : Right n es := n4
  have hC := hide (show ∀ w B, _ from fun w B hB hE => of_ok n an cap es w B hB hE hl h0)
  have hn : n ≤ 64 := by omega
  have hEr := hide (nes_right hes)
  obtain ⟨K, hKe⟩ : ∃ K, K = CompK n es := ⟨_, rfl⟩
  have hKo := hide (show KOk n K by rw [hKe]; exact kok_tall (nes_right hes))
  have hAns := hide (show ∀ v e w', Below w.heap.size w w' → e = .returned (.tuple #[v, .int .i64 0]) → Own encI 1 3 w' w.heap.size v (LN (kahnK n (nes es) K)) → COrdAns n es w e w' from fun v e w' a b c => ⟨a, v, b, by rw [← hKe]; exact c⟩)
  have hKe' : (tall (nes es) n n).lst = K := hKe.symm
  replace hE := hide hE
  replace hes := hide hes
  clear h0 n4
  generalize COrdAns n es w = P at hAns
  go_enter Try.func34, Try.ntmps34
  go_wp2_with fail
  refine (hC.out _ B (by simp <;> omega) (hE.out.below ((by repeat (first | with_reducible exact Below.refl _ _ | with_reducible assumption | with_reducible refine up_drewN ?_ | with_reducible refine up_drew ?_ | (with_reducible refine up_alloc ?_ ?_; rotate_left; (first | omega | (simp <;> omega) | simp)) | (with_reducible refine up_set ?_ ?_; rotate_left; (first | omega | (simp <;> omega) | simp)) | (with_reducible refine Below.trans ?_ (Below.mono (by with_reducible assumption) ?_); rotate_left; (first | omega | (simp <;> omega) | simp)))) : Below w.heap.size w _) hB)).mono ?_
  rintro e w1 ⟨gL, rfl, ownL, hb1⟩
  rw [hKe'] at ownL
  replace hKe := hide hKe
  clear hKe'
  have k0 : w1.cell? ⟨w.heap.size, 0, none⟩ = some (.int .i64 (n : Int)) := cu_below hb1 (by simp [go_sem]) (by simp <;> omega)
  have k1 : w1.cell? ⟨w.heap.size, 1, none⟩ = some (.slice an es.length cap) := cu_below hb1 (by simp [go_sem]) (by simp <;> omega)
  have hz1 : w.heap.size < w1.heap.size := cell_lt k0
  have hLb := ownL.at_base
  have hLw : w.heap.size < gL ∧ gL < w1.heap.size := by have := hLb.1; simp at this; exact ⟨by omega, hLb.2⟩
  replace ownL := hide (ownL.base_le (base' := w.heap.size) (by simp <;> omega))
  have hbw1 := hide (show Below w.heap.size w w1 from (by repeat (first | with_reducible exact Below.refl _ _ | with_reducible assumption | with_reducible refine up_drewN ?_ | with_reducible refine up_drew ?_ | (with_reducible refine up_alloc ?_ ?_; rotate_left; (first | omega | (simp <;> omega) | simp)) | (with_reducible refine up_set ?_ ?_; rotate_left; (first | omega | (simp <;> omega) | simp)) | (with_reducible refine Below.trans ?_ (Below.mono (by with_reducible assumption) ?_); rotate_left; (first | omega | (simp <;> omega) | simp)))))
  clear hb1 hC hLb
  go_wp2_with (at_make; (refine wpList_mk (e := 3) (enc := encI) rfl (.tmp 26) 29 rfl (.int .i64 0) 8 (0 : Int) Try.underlying29 info_int rfl rfl (n) ?e12 ?e22 ?e32 (w.heap.size) ?e42 ?_); (case e12 => rfl); (case e22 => omega); (case e32 => unfold maxLen; omega); (case e42 => first | omega | (simp; done) | (simp; omega)); intro w2 own2 hb2 hsz2; replace own2 := hide own2; have c0 := cu_below hb2 k0 hz1; have c1 := cu_below hb2 k1 hz1; have hb2' := hide (hbw1.out.trans (hb2.mono (by omega))); have hL2 := hide (ownL.out.stays hb2); clear hb2 k0 k1)
  obtain ⟨gA, hgA⟩ : ∃ gA, gA = w1.heap.size := ⟨_, rfl⟩
  rw [← hgA] at own2 hsz2
  simp only [← hgA]
  have hgw : w.heap.size < gA := by omega
  have hLA : gL < gA := by omega
  replace hgA := hide hgA
  have hA0 := hide (show Own encI 1 3 w2 w.heap.size (.slice (some ⟨gA, 0, none⟩) n n) (LI n (headK K es 0)) by rw [← headK_zero]; exact own2.out)
  clear own2 ownL
  have hz2 : w.heap.size < w2.heap.size := cell_lt c0
  go_wp2
  go_loopw [8, 31] (fun _ i wr => ∃ k : Nat, k ≤ es.length ∧ i = .int .i64 k ∧ Hid (Own encI 1 3 wr w.heap.size (.slice (some ⟨gA, 0, none⟩) n n) (LI n (headK K es k))) ∧ Hid (Keep (fun j => j = gA) w2 wr)) (fun _ i _ => es.length - (intOf i).toNat)
  case atStart => exact ⟨0, Nat.zero_le _, rfl, hA0, hide (Keep.refl _ _)⟩
  case round =>
    clear hA0
    obtain ⟨k, hk, rfl, hA, hK⟩ := hrel
    have hzr := hK.out.size
    have d0 := hK.out.cu c0 (by simp; omega)
    have d1 := hK.out.cu c1 (by simp; omega)
    have hbr := hide (hb2'.out.trans (hK.out.toBelow (B := w.heap.size) (fun j hj => by omega) (by omega)))
    have hwr : w.heap.size < wr.heap.size := by omega
    by_cases hlt : k < es.length
    · obtain ⟨b, o, rfl, hbB, e0, e1, e2⟩ := hE.out.ed k hlt
      have e0 := cu_below hbr.out e0 (by simp; omega)
      have e1 := cu_below hbr.out e1 (by simp; omega)
      have e2 := cu_below hbr.out e2 (by simp; omega)
      have hbl := cell_lt e0
      obtain ⟨u, v, u1, v1, u2, v2, -, -, hnt⟩ := right_edge hes.out k hlt
      rw [u1] at e0
      rw [v1] at e1
      obtain ⟨ec, hec⟩ : ∃ ec, ec = es[k].c := ⟨_, rfl⟩
      rw [← hec] at e2 hnt
      have hLr := hK.out.own hL2.out (fun j hj => by simp [Value.ownBlock] at hj; omega)
      have lU := hLr.atI u u2
      have lV := hLr.atI v v2
      have lL := hLr.at_base.2
      have zu : ZI K u = (K u : Int) := rfl
      have zv : ZI K v = (K v : Int) := rfl
      rw [zu] at lU
      rw [zv] at lV
      have hkv := hKo.out.lt v v2
      have iu : (0 : Int) ≤ (u : Int) ∧ (u : Int) < (n : Int) := by omega
      have iv : (0 : Int) ≤ (v : Int) ∧ (v : Int) < (n : Int) := by omega
      have ik : (0 : Int) ≤ (k : Int) ∧ (k : Int) < (es.length : Int) := by omega
      replace u1 := hide u1
      replace v1 := hide v1
      replace hec := hide hec
      clear hLr zu zv
      by_cases hne : K u = K v
      · have hst := hide (headK_same (K := K) hnt hne)
        have q1 : ((K u : Int) != (K v : Int)) = false := by simp [hne]
        have hA3 := hide (hA.out.alloc (.cells #[.int .i64 (u : Int), .int .i64 (v : Int), .int .i64 ec] 34))
        have hK3 := hide (hK.out.alloc (.cells #[.int .i64 (u : Int), .int .i64 (v : Int), .int .i64 ec] 34))
        rw [← hst.out] at hA3
        generalize (K u : Int) = ku at lU q1
        generalize (K v : Int) = kv at lV q1
        replace hnt := hide hnt
        clear hne hst
        go_wp2
        go_quiet (fail)
        go_wp2
        go_roundw
        case rel => exact ⟨k + 1, by omega, by go_num, hide (hA3.out.drewN _), hide (hK3.out.drewN _)⟩
        case measure => simp [intOf]; omega
      · have hst := hide (headK_step (K := K) hnt hne)
        have q1 : ((K u : Int) != (K v : Int)) = true := by simp; omega
        have hx := headK_le K es k (K v)
        have hA3 := hide (fun nq : Nat => ((hA.out.alloc (.cells #[.int .i64 (u : Int), .int .i64 (v : Int), .int .i64 ec] 34)).drewN nq).setI (K v) hkv (headK K es k (K v) + 1))
        have hK3 := hide (fun nq : Nat => ((hK.out.alloc (.cells #[.int .i64 (u : Int), .int .i64 (v : Int), .int .i64 ec] 34)).drewN nq).setCell (p := ⟨gA, K v, none⟩) (.inl rfl) (.int .i64 (headK K es k (K v) + 1)))
        rw [hst.out] at hA3
        have cA := hA.out.atI (K v) hkv
        have fA := hA.out.free (K v)
        have lA := hA.out.at_base.2
        obtain ⟨x, hxe⟩ : ∃ x, x = headK K es k (K v) := ⟨_, rfl⟩
        rw [← hxe] at cA hx hA3 hK3
        replace hxe := hide hxe
        obtain ⟨ku, hku⟩ : ∃ x, x = K u := ⟨_, rfl⟩
        obtain ⟨kv, hkv2⟩ : ∃ x, x = K v := ⟨_, rfl⟩
        rw [← hku, ← hkv2] at q1
        rw [← hku] at lU
        rw [← hkv2] at lV cA hA3 hK3 fA hkv
        replace hku := hide hku
        replace hkv2 := hide hkv2
        have ikv : (0 : Int) ≤ (kv : Int) ∧ (kv : Int) < (n : Int) := by omega
        replace hnt := hide hnt
        clear hne hst
        go_wp2
        go_quiet (fail)
        go_wp2
        go_roundw
        case rel => exact ⟨k + 1, by omega, by go_num, hide (hA3.out _), hide (hK3.out _)⟩
        case measure => simp [intOf]; omega
    · obtain rfl : k = es.length := by omega
      have hcn := hide (headK_cnt hEr.out hKo.out)
      obtain ⟨A, hAe⟩ : ∃ A, A = headK K es es.length := ⟨_, rfl⟩
      rw [← hAe] at hA
      have hAc := hide (show ∀ v, v < n → A v = (cnt (EK (nes es) K) (repsK n K) v : Int) from fun v _ => by rw [hAe]; exact hcn.out v)
      have hAb := hide (show ∀ v, 0 ≤ A v ∧ A v ≤ 600 from fun v => by rw [hAe]; have := headK_le K es es.length v; omega)
      replace hAe := hide hAe
      have hLr := hide (hK.out.own hL2.out (fun j hj => by simp [Value.ownBlock] at hj; omega))
      obtain ⟨wH, rfl⟩ : ∃ wH : World, wH = wr := ⟨_, rfl⟩
      have lA := hA.out.at_base.2
      clear c0 c1 hcn hK hk hL2
      go_wp2_with fail
      refine (newZ_any 97 wH).mono ?_
      rintro e w3 ⟨rfl, hw3⟩
      have hH0 := HeapZ.fresh wH (.func (.func 97) #[] #[]) (fun _ => 0) 215
      rw [← hw3] at hH0
      have hb3 : Below wH.heap.size wH w3 := by rw [hw3]; exact (Below.refl _ _).alloc (Nat.le_refl _) _
      replace hH0 := hide hH0
      replace hb3 := hide hb3
      clear hw3
      go_wp2
      go_loopw [10, 11, 60] (fun _ _ i wr => ∃ (k q c0 : Nat) (a0 : Option Addr) (f : Nat → Int), k ≤ n ∧ q ≤ k ∧ i = .int .i64 k ∧ Hid (HeapZ wr wH.heap.size wH.heap.size (.func (.func 97) #[] #[]) (.slice a0 q c0) q f) ∧ Hid (HeapOK numLt q f) ∧ Hid ((RW q f).Perm (LN (freeL A (repsK k K)))) ∧ Hid (Below wH.heap.size wH wr)) (fun _ _ i _ => n - (intOf i).toNat)
      case atStart => exact ⟨0, 0, 0, none, _, Nat.zero_le _, Nat.le_refl _, rfl, hH0, fun i h1 h2 => by omega, by simp [RW, Hid, freeL, LN, repsK], hb3⟩
      case round =>
        clear hH0 hb3
        obtain ⟨k, q, c0, a0, f, hk, hqk, rfl, hH, hok, hpm, hb⟩ := hrel
        have hz := hb.out.size
        have hAr := hide (hA.out.stays hb.out)
        have hLq := hide (hLr.out.stays hb.out)
        by_cases hlt : k < n
        · have cA := hAr.out.atI k hlt
          have cL := hLq.out.atI k hlt
          have zk : ZI K k = (K k : Int) := rfl
          rw [zk] at cL
          have lA2 : gA < wr.heap.size := by omega
          have lL2 : gL < wr.heap.size := by omega
          have hx := hAb.out k
          obtain ⟨x, hxe⟩ : ∃ x, x = A k := ⟨_, rfl⟩
          rw [← hxe] at cA hx
          have hfr := freeK_step A K k
          have ik : (0 : Int) ≤ (k : Int) ∧ (k : Int) < (n : Int) := by omega
          by_cases hkk : k = K k
          · have q0 : ((k : Int) == (K k : Int)) = true := by simp; omega
            by_cases hx0 : x = 0
            · have q1 : (x == 0) = true := by simp [hx0]
              have hfr2 := hide (show LN (freeL A (repsK (k + 1) K)) = LN (freeL A (repsK k K)) ++ [(k : Int)] by rw [hfr, if_pos ⟨hkk, by rw [← hxe]; exact hx0⟩]; simp [LN])
              have hPush := hide (pushC_any wH.heap.size wH.heap.size q a0 c0 f (k : Int) wr hH.out (by omega))
              obtain ⟨p1, p2⟩ := push_ok numLt_ord hok.out (k : Int)
              have p3 := hide (p2.trans (hpm.out.append_right [(k : Int)]))
              rw [← hfr2.out] at p3
              replace p1 := hide p1
              generalize siftUp numLt (upz f q (k : Int)) q = f3 at hPush p1 p3
              have hblk := hide hH.out.own.block_lt
              replace hxe := hide hxe
              replace hfr := hide hfr
              generalize (K k : Int) = kz at cL q0
              replace hkk := hide hkk
              clear hx0 p2 zk
              go_wp2_with fail
              refine hPush.out.mono ?_
              rintro e w4 ⟨rfl, gs, c, hA4, hK4, _⟩
              have hb4 := hide (hb.out.trans (hK4.toBelow (B := wH.heap.size) (fun j hj => by
                rcases hj with rfl | hj
                · exact Nat.le_refl _
                · exact (hblk.out j hj).1) (by omega)))
              replace hA4 := hide hA4
              clear hK4 hPush
              go_wp2
              go_roundw
              case rel => exact ⟨k + 1, q + 1, c, _, f3, by omega, by omega, by go_num, hA4, p1, p3, hb4⟩
              case measure => simp [intOf]; omega
            · have q1 : (x == 0) = false := by simp [hx0]
              have hpm2 := hide (show (RW q f).Perm (LN (freeL A (repsK (k + 1) K))) by rw [hfr, if_neg (fun h => hx0 (by rw [hxe]; exact h.2)), List.append_nil]; exact hpm.out)
              replace hxe := hide hxe
              replace hfr := hide hfr
              generalize (K k : Int) = kz at cL q0
              replace hkk := hide hkk
              clear hx0 zk
              go_wp2
              go_roundw
              case rel => exact ⟨k + 1, q, c0, a0, f, by omega, by omega, by go_num, hH, hok, hpm2, hb⟩
              case measure => simp [intOf]; omega
          · have q0 : ((k : Int) == (K k : Int)) = false := by simp; omega
            have hpm2 := hide (show (RW q f).Perm (LN (freeL A (repsK (k + 1) K))) by rw [hfr, if_neg (fun h => hkk h.1), List.append_nil]; exact hpm.out)
            replace hxe := hide hxe
            replace hfr := hide hfr
            generalize (K k : Int) = kz at cL q0
            replace hkk := hide hkk
            clear zk
            go_wp2
            go_roundw
            case rel => exact ⟨k + 1, q, c0, a0, f, by omega, by omega, by go_num, hH, hok, hpm2, hb⟩
            case measure => simp [intOf]; omega
        · obtain rfl : n = k := by omega
          obtain ⟨w5, rfl⟩ : ∃ w5 : World, w5 = wr := ⟨_, rfl⟩
          have hlw : w.heap.size < wH.heap.size := hwr
          have m0 := cu_below hb.out d0 hwr
          have m1 := cu_below hb.out d1 hwr
          have hbw6 := hide (hbr.out.trans (hb.out.mono (by omega)))
          have hHl := hH.out.lt
          clear d0 d1
          have hD0 := hide (show CG w wH w5 w5 n gA A (.slice a0 q c0) q f (.slice none 0 0) [] w5 from ⟨hAr.out, hH.out, Own.nil _ _, Keep.refl _ _, fun j hj => ⟨.inl (hH.out.own.block_lt j hj).2, by simp [Value.ownBlock]⟩, lA, hHl, Nat.le_refl _⟩)
          have hKi := hide (kk_start hEr.out hKo.out)
          obtain ⟨E, hEe⟩ : ∃ E, E = EK (nes es) K := ⟨_, rfl⟩
          obtain ⟨R, hR⟩ : ∃ R, R = (repsK n K).length := ⟨_, rfl⟩
          have hkk := hide (show ([] : List Nat) ++ kahnG (ldE (EK (nes es) K)) R (repsK n K) = kahnK n (nes es) K by rw [hR]; rfl)
          have hrl0 := hide (show (repsK n K).length = R from hR.symm)
          have hRn : R ≤ n := by rw [hR]; unfold repsK; exact Nat.le_trans (List.length_filter_le _ _) (by simp)
          clear hqk hk hHl hz hb hAr hR hEe E
          go_wp2
          go_loopg [12] R (fun gk s12 wr => ∃ (rem out : List Nat) (A : Nat → Int) (p q c0 cv : Nat) (a0 av : Option Addr) (f : Nat → Int), s12 = .slice av p cv ∧ p + gk = R ∧ Hid (rem.length = gk) ∧ Hid (out.length = p) ∧ Hid (CG w wH w5 w5 n gA A (.slice a0 q c0) q f (.slice av p cv) (LN out) wr) ∧ Hid (KInv (EK (nes es) K) n rem) ∧ Hid (∀ v, v < n → A v = (cnt (EK (nes es) K) rem v : Int)) ∧ Hid (HeapOK numLt q f) ∧ Hid ((RW q f).Perm (LN (freeL A rem))) ∧ Hid (out ++ kahnG (ldE (EK (nes es) K)) gk rem = kahnK n (nes es) K))
          case atStart => exact ⟨repsK n K, [], A, 0, q, c0, 0, a0, none, f, rfl, by omega, hrl0, hide rfl, hD0, hKi, hAc, hok, hpm, hkk⟩
          case round =>
            clear hD0 hKi hok hpm hkk hrl0 hAc hAb hA
            obtain ⟨rem, out, A, p, q, c0, cv, a0, av, f, rfl, hpg, hrl, hol, hD, hKi, hA, hok, hpm, hkk⟩ := hrel
            have hc1 := hD.out.heap.c1
            have hzr := hD.out.size
            have n0 := hD.out.keep.cu m0 (by simp; omega)
            have n1 := hD.out.keep.cu m1 (by simp; omega)
            have nl := cell_lt n0
            have hz9 := hbw6.out.size
            have hbr6 := hide (hbw6.out.trans (hD.out.keep.toBelow (B := w.heap.size) (fun j hj => by omega) (by omega)))
            have hqg : q ≤ gk := by
              have h1 := hpm.out.length_eq
              rw [rw_len, ln_len] at h1
              have h2 : (freeL A rem).length ≤ rem.length := List.length_filter_le _ _
              have h3 := hrl.out
              omega
            rcases Nat.eq_zero_or_pos q with hq0 | hq0
            · subst hq0
              have h0 : freeL A rem = [] := by
                have h1 := hpm.out.length_eq
                rw [rw_len, ln_len] at h1
                exact List.eq_nil_of_length_eq_zero h1.symm
              have hfin := hide (show kahnK n (nes es) K = out by rw [← hkk.out, k_none hKi.out hA.out h0, List.append_nil])
              have hO := hide (hD.out.outs.base_le (base' := w.heap.size) (by have := hbw6.out.size; omega))
              clear h0
              go_wp2_with fail
              refine (lenZ_any _ _ _ _ _ hc1).mono ?_
              rintro e w7 ⟨rfl, rfl⟩
              go_wp2
              exact hAns.out (.slice av p cv) _ _ hbr6.out rfl (by rw [hfin.out]; exact hO.out)
            · obtain ⟨q', rfl⟩ : ∃ q', q = q' + 1 := ⟨q - 1, by omega⟩
              obtain ⟨gk', rfl⟩ : ∃ gk', gk = gk' + 1 := ⟨gk - 1, by omega⟩
              obtain ⟨gs, rfl, hgs1, hgs2⟩ := hD.out.heap.own.blockI' (by omega)
              obtain ⟨m, hmf, hm0⟩ := ln_mem.1 (hpm.out.mem_iff.1 (List.mem_map.2 ⟨0, by simp, rfl⟩ : f 0 ∈ RW (q' + 1) f))
              have hleast : ∀ x ∈ freeL A rem, m ≤ x := fun x hx => by
                obtain ⟨i, hi, hix⟩ := List.mem_map.1 (hpm.out.mem_iff.2 (ln_mem.2 ⟨x, hx, rfl⟩))
                have h1 := heap_top numLt_ord hok.out i (List.mem_range.1 hi)
                rw [hix, hm0] at h1
                simp only [numLt, decide_eq_false_iff_not] at h1
                omega
              obtain ⟨hkf, hcm⟩ := k_find (f := gk') hKi.out hA.out hmf hleast
              have hmr := (freeL_mem.1 hmf).1
              have hmn := hKi.out.lt m hmr
              obtain ⟨hKi2, hto⟩ := k_pop hKi.out (fun e he => (reps_mem.1 (ek_reps hEr.out hKo.out he).2).1) hmr hcm
              obtain ⟨p1, p2⟩ := pop_ok numLt_ord hok.out
              have hPop := popC_any wH.heap.size wH.heap.size q' gs c0 f wr hD.out.heap (by omega)
              have hDp := hide (fun w' f' h1 h2 => hD.out.pop (w' := w') (gs := gs) (c := c0) (k' := q') (f' := f') rfl h1 h2)
              rw [hm0] at hPop p2
              have hpm2 := hide (h_pop hKi.out.nodup hmf (p2.trans hpm.out))
              have hkk2 := hide (show (out ++ [m]) ++ kahnG (ldE (EK (nes es) K)) gk' (rem.erase m) = kahnK n (nes es) K by rw [← hkk.out, hkf]; simp)
              have hrl2 := hide (show (rem.erase m).length = gk' by rw [List.length_erase_of_mem hmr]; have := hrl.out; omega)
              have hcnt := hide (show ∀ v, v < n → A v = (cnt (EK (nes es) K) (rem.erase m) v : Int) + (tK K m es 0 v : Nat) from fun v hv => by
                rw [hA.out v hv, cnt_erase hKi.out.nodup hmr v, tK_start]
                omega)
              replace hPop := hide hPop
              replace p1 := hide p1
              replace hKi2 := hide hKi2
              replace hto := hide hto
              generalize siftDown numLt q' (upz f 0 (f q')) 0 = f2 at hPop p1 hpm2
              replace hm0 := hide hm0
              clear hleast hkf hcm p2 hmf hqg
              have hq9 : (0 : Int) < ((q' + 1 : Nat) : Int) := by omega
              go_wp2_with fail
              refine (lenZ_any _ _ _ _ _ hc1).mono ?_
              rintro e w7 ⟨rfl, rfl⟩
              go_wp2_with fail
              refine hPop.out.mono ?_
              rintro e w7 ⟨rfl, hA7, hK7⟩
              have hD7 := hide (hDp.out _ _ hA7 hK7)
              clear hPop hDp hA7 hK7 hc1 hq9 hD n0 n1 nl hzr hbr6 hgs1 hgs2
              have hz7 := hD7.out.size
              have im : (0 : Int) ≤ (m : Int) ∧ (m : Int) < (n : Int) := by omega
              have hlo := hide (show (LN out).length = p by rw [ln_len]; exact hol.out)
              go_wp2_with (at_builtin; (refine wpList_pushL (e := 3) (enc := encI) (xs := (LN out)) (v := .slice av (p) cv) (base := w5.heap.size) rfl (.tmp 84) (.tmp 86) 29 rfl _ 8 Try.underlying29 info_int rfl ?d13 lenI oneI (p) ?d23 ?d33 ?d43 ⟨w7.heap.size, 0, none⟩ 1 (m : Int) ?d53 ?d63 ?d73 ?d83 ?d93 ?_); (case d13 => omega); (case d23 => exact hlo.out); (case d33 => rfl); (case d43 => exact (hD7.out.outs.alloc _)); (case d53 => rfl); (case d63 => exact newI _ _ _ _ rfl); (case d73 => omega); (case d83 => unfold maxLen; omega); (case d93 => first | omega | (simp; done) | (simp; omega)); intro g3 c3 w3 own3 hb3 hgr3 hat3 hgl3; have hD8 := hide (hD7.out.app own3 hgr3 (fun j hj => by simp [Value.ownBlock] at hj; subst hj; rcases hat3 with e | e; exact .inl e; right; rw [e]; simp)); have m0' := hD8.out.keep.cu m0 (by simp; have := hD8.out.lowA; omega); have m1' := hD8.out.keep.cu m1 (by simp; have := hD8.out.lowA; omega); have hOl := cell_lt m0'; replace own3 := hide own3; replace hb3 := hide hb3; replace hgr3 := hide hgr3; replace hat3 := hide hat3)
              obtain ⟨w8, rfl⟩ : ∃ w8, w8 = w3 := ⟨_, rfl⟩
              clear own3 hb3 hgr3 hat3 hD7 m0' m1' hOl
              go_loopw [15, 16, 91] (fun _ _ i wr => ∃ (j : Nat) (A : Nat → Int) (q c0 : Nat) (a0 : Option Addr) (f : Nat → Int), j ≤ es.length ∧ i = .int .i64 j ∧ Hid (CG w wH w5 w5 n gA A (.slice a0 q c0) q f (.slice (some ⟨g3, 0, none⟩) (p + 1) c3) (LN out ++ [(m : Int)]) wr) ∧ Hid (∀ v, v < n → A v = (cnt (EK (nes es) K) (rem.erase m) v : Int) + (tK K m es j v : Nat)) ∧ Hid (HeapOK numLt q f) ∧ Hid ((RW q f).Perm (LN (freeL A (rem.erase m))))) (fun _ _ i _ => es.length - (intOf i).toNat)
              case atStart => exact ⟨0, A, q', c0, _, f2, Nat.zero_le _, rfl, hD8, hcnt, p1, hpm2⟩
              case round =>
                clear hD8 hcnt p1 hpm2 hA hok hpm
                obtain ⟨j, A, q, c0, a0, f, hj, rfl, hD, hA, hok, hpm⟩ := hrel
                have hzr := hD.out.size
                have hqg : q ≤ gk' := by
                  have h1 := hpm.out.length_eq
                  rw [rw_len, ln_len] at h1
                  have h2 : (freeL A (rem.erase m)).length ≤ (rem.erase m).length := List.length_filter_le _ _
                  have h3 := hrl2.out
                  omega
                by_cases hlt : j < es.length
                · obtain ⟨u, vv, e1, e2, e3, e4, -, -, -⟩ := right_edge hes.out j hlt
                  have hla := hD.out.lowA
                  have hz9 := hbw6.out.size
                  have hbw := hide (hbw6.out.trans (hD.out.keep.toBelow (B := w.heap.size) (fun j hj => by omega) (by omega)))
                  have hLz := hD.out.keep.own hLq.out (fun j hj => by simp [Value.ownBlock] at hj; omega)
                  have lU := hLz.atI u e3
                  have lV := hLz.atI vv e4
                  have lL := hLz.at_base.2
                  have zu : ZI K u = (K u : Int) := rfl
                  have zv : ZI K vv = (K vv : Int) := rfl
                  rw [zu] at lU
                  rw [zv] at lV
                  obtain ⟨b, o, rfl, hbB, x1, x2, x3⟩ := hE.out.ed j hlt
                  have x1 := cu_below hbw.out x1 (by simp; omega)
                  have x2 := cu_below hbw.out x2 (by simp; omega)
                  have x3 := cu_below hbw.out x3 (by simp; omega)
                  have htk := tK_step (K := K) (m := m) hlt e1 e2
                  rw [e1] at x1
                  rw [e2] at x2
                  obtain ⟨ec, hec⟩ : ∃ ec, ec = es[j].c := ⟨_, rfl⟩
                  have hekm := hide (show K u = m → K vv ≠ m → K vv ∈ rem.erase m from fun h1 h2 => hto.out ⟨m, K vv, es[j].c⟩ (ek_mem.2 ⟨⟨u, vv, es[j].c⟩, List.mem_map.2 ⟨es[j], List.getElem_mem hlt, by rw [e1, e2]; rfl⟩, fun h3 => h2 (h3 ▸ h1), by simp [h1]⟩) rfl)
                  rw [← hec] at x3
                  have hbl : b < wr.heap.size := cell_lt x1
                  have ij : (0 : Int) ≤ (j : Int) ∧ (j : Int) < (es.length : Int) := by omega
                  have iu : (0 : Int) ≤ (u : Int) ∧ (u : Int) < (n : Int) := by omega
                  have iv : (0 : Int) ≤ (vv : Int) ∧ (vv : Int) < (n : Int) := by omega
                  have hkv := hKo.out.lt vv e4
                  have hDa := hide (hD.out.stays ((Below.refl wr.heap.size wr).alloc (Nat.le_refl _) (.cells #[.int .i64 (u : Int), .int .i64 (vv : Int), .int .i64 ec] 34)))
                  replace hec := hide hec
                  replace e1 := hide e1
                  replace e2 := hide e2
                  clear hLz zu zv
                  by_cases hum : K u = m
                  · have q1 : ((K u : Int) == (m : Int)) = true := by simp; omega
                    by_cases hvm : K vv = m
                    · have q2 : ((K vv : Int) != (m : Int)) = false := by simp; omega
                      have hAs := hide (show ∀ v, v < n → A v = (cnt (EK (nes es) K) (rem.erase m) v : Int) + (tK K m es (j + 1) v : Nat) from fun v hv => by
                        have h9 := htk v
                        rw [if_neg (fun h => h.2.1 hvm), Nat.zero_add] at h9
                        rw [hA.out v hv, h9])
                      generalize (K u : Int) = ku at lU q1
                      generalize (K vv : Int) = kv at lV q2
                      replace htk := hide htk
                      replace hum := hide hum
                      replace hvm := hide hvm
                      go_wp2
                      go_roundw
                      case rel => exact ⟨j + 1, _, q, c0, a0, f, by omega, by go_num, hDa, hAs, hok, hpm⟩
                      case measure => simp [intOf]; omega
                    · have q2 : ((K vv : Int) != (m : Int)) = true := by simp; omega
                      have hvr := hekm.out hum hvm
                      have hAv := hA.out (K vv) hkv
                      have h9 := htk (K vv)
                      rw [if_pos ⟨hum, hvm, rfl⟩] at h9
                      have hcb := cnt_bd (EK (nes es) K) (rem.erase m) (K vv)
                      have hcl := ek_len (nes es) K
                      have htb := tK_le K m es (j + 1) (K vv)
                      have hnl : (nes es).length = es.length := by simp [nes]
                      have hAs := hide (show ∀ v, v < n → upz A (K vv) (A (K vv) - 1) v = (cnt (EK (nes es) K) (rem.erase m) v : Int) + (tK K m es (j + 1) v : Nat) from fun v hv => by
                        by_cases hvz : v = K vv
                        · subst hvz; rw [upz_same]; omega
                        · have h8 := htk v
                          rw [if_neg (fun h => hvz h.2.2.symm), Nat.zero_add] at h8
                          rw [upz_other _ _ hvz, hA.out v hv, h8])
                      have cA := hDa.out.ah.atI (K vv) hkv
                      have fA := hDa.out.ah.free (K vv)
                      have cA0 := hD.out.ah.atI (K vv) hkv
                      have fA0 := hD.out.ah.free (K vv)
                      have lA := hD.out.ah.at_base.2
                      have hD9 := hide ((hD.out.setA (K vv) hkv (A (K vv) - 1)).stays ((Below.refl _ _).alloc (Nat.le_refl _) (.cells #[.int .i64 (u : Int), .int .i64 (vv : Int), .int .i64 ec] 34)))
                      have hkeep := hide (show A (K vv) - 1 ≠ 0 → freeL (upz A (K vv) (A (K vv) - 1)) (rem.erase m) = freeL A (rem.erase m) from fun h => h_keep (by omega) h)
                      have hpush := hide (show A (K vv) - 1 = 0 → ((RW q f) ++ [((K vv : Nat) : Int)]).Perm (LN (freeL (upz A (K vv) (A (K vv) - 1)) (rem.erase m))) from fun h => by rw [h]; exact h_push hKi2.out.nodup hvr (by omega) hpm.out)
                      have hxb : 1 ≤ A (K vv) ∧ A (K vv) ≤ 2000 := by omega
                      obtain ⟨x, hx⟩ : ∃ x, x = A (K vv) := ⟨_, rfl⟩
                      rw [← hx] at cA cA0 hD9 hkeep hpush hxb hAs
                      replace hx := hide hx
                      replace htk := hide htk
                      replace hum := hide hum
                      replace hvm := hide hvm
                      replace hvr := hide hvr
                      replace hekm := hide hekm
                      generalize (K u : Int) = ku at lU q1
                      generalize K vv = kv at lV q2 cA cA0 fA fA0 hD9 hkeep hpush hAs hkv
                      have ikv : (0 : Int) ≤ (kv : Int) ∧ (kv : Int) < (n : Int) := by omega
                      clear hAv h9 hcb hcl htb hnl
                      by_cases hx1 : x - 1 = 0
                      · have g1 : (x - 1 == 0) = true := by simp [hx1]
                        have hpp := hide (hpush.out hx1)
                        have hPush := hide (pushC_any wH.heap.size wH.heap.size q a0 c0 f (kv : Int) _ hD9.out.heap (by omega))
                        obtain ⟨p1, p2⟩ := push_ok numLt_ord hok.out (kv : Int)
                        have p3 := hide (p2.trans hpp.out)
                        replace p1 := hide p1
                        generalize siftUp numLt (upz f q (kv : Int)) q = f3 at hPush p1 p3
                        replace hx1 := hide hx1
                        clear p2 hpp hkeep hpush
                        go_wp2_with fail
                        refine hPush.out.mono ?_
                        rintro e w9 ⟨rfl, hH9⟩
                        obtain ⟨gs9, c9, hD10⟩ := hD9.out.push hH9
                        replace hD10 := hide hD10
                        clear hH9 hPush
                        go_wp2
                        go_roundw
                        case rel => exact ⟨j + 1, _, q + 1, c9, _, f3, by omega, by go_num, hD10, hAs, p1, p3⟩
                        case measure => simp [intOf]; omega
                      · have g1 : (x - 1 == 0) = false := by simp [hx1]
                        have hpk := hide (show (RW q f).Perm (LN (freeL (upz A kv (x - 1)) (rem.erase m))) by rw [hkeep.out hx1]; exact hpm.out)
                        clear hkeep hpush hx1
                        go_wp2
                        go_roundw
                        case rel => exact ⟨j + 1, _, q, c0, a0, f, by omega, by go_num, hD9, hAs, hok, hpk⟩
                        case measure => simp [intOf]; omega
                  · have q1 : ((K u : Int) == (m : Int)) = false := by simp; omega
                    have hAs := hide (show ∀ v, v < n → A v = (cnt (EK (nes es) K) (rem.erase m) v : Int) + (tK K m es (j + 1) v : Nat) from fun v hv => by
                      have h9 := htk v
                      rw [if_neg (fun h => hum h.1), Nat.zero_add] at h9
                      rw [hA.out v hv, h9])
                    generalize (K u : Int) = ku at lU q1
                    generalize (K vv : Int) = kv at lV
                    replace htk := hide htk
                    replace hum := hide hum
                    go_wp2
                    go_roundw
                    case rel => exact ⟨j + 1, _, q, c0, a0, f, by omega, by go_num, hDa, hAs, hok, hpm⟩
                    case measure => simp [intOf]; omega
                · obtain rfl : j = es.length := by omega
                  have hAf := hide (show ∀ v, v < n → A v = (cnt (EK (nes es) K) (rem.erase m) v : Int) from fun v hv => by
                    rw [hA.out v hv, tK_end]
                    simp)
                  have hLn := hide (show LN (out ++ [m]) = LN out ++ [(m : Int)] by simp [LN])
                  have hol2 := hide (show (out ++ [m]).length = p + 1 by rw [List.length_append, hol.out]; rfl)
                  go_wp2
                  go_roundg gk'
                  case measure => omega
                  case rel => exact ⟨rem.erase m, out ++ [m], A, p + 1, q, c0, c3, a0, _, f, rfl, by omega, hrl2, hol2, hide (by rw [hLn.out]; exact hD.out), hKi2, hAf, hok, hpm, hkk2⟩
end Go.Proofs.Ytcehdpeeaogpiaa
