/-
  What hier.within returns: the moves within squares, and those between. Conditions: right ground, squares of 1 to 8 a side.
-/
import Derived.Test.YtgkiipmeigfjnaaHier2
import Derived.Test.YtgkiipmeigfjnaaNetOf2
import Derived.Test.YtgkiipmeigfjnaaROut
import Derived.Deep.RegionHeld3
import Derived.BigRegion
namespace Go.Proofs.Ytgkiipmeigfjnaa
open Go.RowKit
set_option linter.unusedSimpArgs false
set_option linter.unusedVariables false
def sameSq (W k : Int) (e : Ed) : Bool := decide (sqN W k e.u = sqN W k e.v)
def insE (W k : Int) (es : List Ed) : List Ed := es.filter (sameSq W k)
def betE (W k : Int) (es : List Ed) : List Ed := es.filter fun e => !sameSq W k e
theorem ins_take {W k : Int} {es : List Ed} {j : Nat} (h : j < es.length) : insE W k (es.take (j + 1)) = if sameSq W k es[j] = true then insE W k (es.take j) ++ [es[j]] else insE W k (es.take j) := by
  unfold insE
  rw [List.take_succ_eq_append_getElem h, List.filter_append]
  by_cases q : sameSq W k es[j] = true
  · rw [if_pos q, List.filter_cons, if_pos q]; rfl
  · rw [if_neg q, List.filter_cons, if_neg q]; simp
theorem bet_take {W k : Int} {es : List Ed} {j : Nat} (h : j < es.length) : betE W k (es.take (j + 1)) = if sameSq W k es[j] = true then betE W k (es.take j) else betE W k (es.take j) ++ [es[j]] := by
  unfold betE
  rw [List.take_succ_eq_append_getElem h, List.filter_append]
  by_cases q : sameSq W k es[j] = true
  · rw [if_pos q, List.filter_cons, if_neg (by simp [q])]; simp
  · rw [if_neg q, List.filter_cons, if_pos (by simp [q])]; rfl
theorem ins_len (W k : Int) (es : List Ed) : (insE W k es).length ≤ es.length := List.length_filter_le ..
theorem bet_len (W k : Int) (es : List Ed) : (betE W k es).length ≤ es.length := List.length_filter_le ..
/-- two nets that grow: their blocks p and q, w2 the world at the start -/
structure Wi (eo : TypeId) (p q : Nat) (n : Int) (w2 : World) (v1 v2 : Value) (xs1 xs2 : List Ed) (wr : World) : Prop where
  c0 : wr.cell? ⟨p, 0, none⟩ = some (.int .i64 n)
  c1 : wr.cell? ⟨p, 1, none⟩ = some v1
  d0 : wr.cell? ⟨q, 0, none⟩ = some (.int .i64 n)
  d1 : wr.cell? ⟨q, 1, none⟩ = some v2
  f0 : ∀ o, wr.frozen? ⟨p, o, none⟩ = false
  f1 : ∀ o, wr.frozen? ⟨q, o, none⟩ = false
  o1 : Own encE 3 eo wr w2.heap.size v1 xs1
  o2 : Own encE 3 eo wr w2.heap.size v2 xs2
  sep : ∀ k, v1.ownBlock = some k → v2.ownBlock ≠ some k
  kp : Keep (fun j => j = p ∨ j = q) w2 wr
  lp : p < w2.heap.size
  lq : q < w2.heap.size
  ne : p ≠ q
section
variable {eo : TypeId} {p q : Nat} {n : Int} {w2 wr w' : World} {v1 v2 v' : Value} {xs1 xs2 : List Ed} {y : Ed}
theorem Wi.size (h : Wi eo p q n w2 v1 v2 xs1 xs2 wr) : w2.heap.size ≤ wr.heap.size := h.kp.size
theorem Wi.stays (h : Wi eo p q n w2 v1 v2 xs1 xs2 wr) (b : Below wr.heap.size wr w') : Wi eo p q n w2 v1 v2 xs1 xs2 w' :=
  have a1 := cell_lt h.c0
  have a2 := cell_lt h.d0
  ⟨cu_below b h.c0 a1, cu_below b h.c1 a1, cu_below b h.d0 a2, cu_below b h.d1 a2, fun o => fu_below b (h.f0 o) a1, fun o => fu_below b (h.f1 o) a2, h.o1.stays b, h.o2.stays b, h.sep, h.kp.trans (Keep.new b), h.lp, h.lq, h.ne⟩
theorem Wi.push1 (h : Wi eo p q n w2 v1 v2 xs1 xs2 wr) {o : Obj} (own : Own encE 3 eo w' w2.heap.size v' (xs1 ++ [y])) (hg : (wr.alloc o).grownBy w' v1.ownBlock) (hat : ∀ k, v'.ownBlock = some k → v1.ownBlock = some k ∨ wr.heap.size ≤ k) :
    Wi eo p q n w2 v' v2 (xs1 ++ [y]) xs2 (w'.setCell ⟨p, 1, none⟩ v') := by
  have hk : Keep (fun j => v1.ownBlock = some j) wr w' := ((Keep.refl _ wr).alloc o).grown hg (fun k hk => .inl hk)
  have b1 := h.o1.block_lt
  have b2 := h.o2.block_lt
  have a1 := h.lp
  have a2 := h.lq
  have a3 := h.ne
  have n1 : v1.ownBlock ≠ some p := fun e => by have := (b1 p e).1; omega
  have n2 : v1.ownBlock ≠ some q := fun e => by have := (b1 q e).1; omega
  have z1 : p < wr.heap.size := cell_lt h.c0
  have z2 : q < wr.heap.size := cell_lt h.d0
  have c1' := hk.cu h.c1 n1
  refine ⟨cu_set_off (hk.cu h.c0 n1) (by omega), World.cell?_setCell_same _ _ _ c1', cu_set (hk.cu h.d0 n2) (by simp; omega), cu_set (hk.cu h.d1 n2) (by simp; omega), fun o => fu_set ((hk.frozen z1 n1).trans (h.f0 o)), fun o => fu_set ((hk.frozen z2 n2).trans (h.f1 o)), own.elsewhere (fun e => by have := (own.block_lt _ e).1; simp at this; omega) _, (hk.own h.o2 (fun k e e2 => h.sep k e2 e)).elsewhere (fun e => by have := (b2 _ e).1; simp at this; omega) _, ?_, ?_, a1, a2, a3⟩
  · intro k e1 e2
    rcases hat k e1 with e3 | e3
    · exact h.sep k e3 e2
    · have := (b2 k e2).2; omega
  · have := (h.kp.alloc o).grown (S := fun j => j = p ∨ j = q) hg (fun k hk => .inr (b1 k hk).1)
    exact this.setCell (.inl (.inl rfl)) _
theorem Wi.push2 (h : Wi eo p q n w2 v1 v2 xs1 xs2 wr) {o : Obj} (own : Own encE 3 eo w' w2.heap.size v' (xs2 ++ [y])) (hg : (wr.alloc o).grownBy w' v2.ownBlock) (hat : ∀ k, v'.ownBlock = some k → v2.ownBlock = some k ∨ wr.heap.size ≤ k) :
    Wi eo p q n w2 v1 v' xs1 (xs2 ++ [y]) (w'.setCell ⟨q, 1, none⟩ v') := by
  have hk : Keep (fun j => v2.ownBlock = some j) wr w' := ((Keep.refl _ wr).alloc o).grown hg (fun k hk => .inl hk)
  have b1 := h.o1.block_lt
  have b2 := h.o2.block_lt
  have a1 := h.lp
  have a2 := h.lq
  have a3 := h.ne
  have n1 : v2.ownBlock ≠ some p := fun e => by have := (b2 p e).1; omega
  have n2 : v2.ownBlock ≠ some q := fun e => by have := (b2 q e).1; omega
  have z1 : p < wr.heap.size := cell_lt h.c0
  have z2 : q < wr.heap.size := cell_lt h.d0
  have d1' := hk.cu h.d1 n2
  refine ⟨cu_set (hk.cu h.c0 n1) (by simp; omega), cu_set (hk.cu h.c1 n1) (by simp; omega), cu_set_off (hk.cu h.d0 n2) (by omega), World.cell?_setCell_same _ _ _ d1', fun o => fu_set ((hk.frozen z1 n1).trans (h.f0 o)), fun o => fu_set ((hk.frozen z2 n2).trans (h.f1 o)), (hk.own h.o1 (fun k e e2 => h.sep k e e2)).elsewhere (fun e => by have := (b1 _ e).1; simp at this; omega) _, own.elsewhere (fun e => by have := (own.block_lt _ e).1; simp at this; omega) _, ?_, ?_, a1, a2, a3⟩
  · intro k e1 e2
    rcases hat k e2 with e3 | e3
    · exact h.sep k e1 e3
    · have := (b1 k e1).2; omega
  · have := (h.kp.alloc o).grown (S := fun j => j = p ∨ j = q) hg (fun k hk => .inr (b2 k hk).1)
    exact this.setCell (.inl (.inr rfl)) _
end
/-- two nets handed back -/
def TwoNets (n : Int) (xs1 xs2 : List Ed) (w : World) (e : Ending) (w' : World) : Prop := ∃ a1 c1 a2 c2, e = .returned (.tuple #[.agg #[.int .i64 n, .slice a1 xs1.length c1], .agg #[.int .i64 n, .slice a2 xs2.length c2]]) ∧ Row encE 3 w' w'.heap.size a1 xs1 ∧ Row encE 3 w' w'.heap.size a2 xs2 ∧ Below w.heap.size w w'
theorem Own.rowE {w : World} {base n c : Nat} {e : TypeId} {a : Option Addr} {xs : List Ed} (h : Own encE 3 e w base (.slice a n c) xs) : Row encE 3 w w.heap.size a xs := by
  obtain ⟨a', c', hv, hr, _⟩ := h.row lenE
  injection hv with g1 g2 g3
  subst g1
  exact hr
set_option maxRecDepth 100000 in
set_option maxHeartbeats 4000000 in
theorem within_any (W H k : Int) (a : Option Addr) (cap : Nat) (cs : List Int) (w : World) (B : Nat) (hB : B ≤ w.heap.size) (hE : Row encI 1 w B a cs) (h0 : gridErr W H cs = 0) (hk : 1 ≤ k) (hk8 : k ≤ 8) (es : List Ed) (hes : gridNet W H cs cs.length = es) (hin : ∀ e ∈ es, 0 ≤ e.u ∧ e.u < 64 ∧ 0 ≤ e.v ∧ e.v < 64) (hel : es.length ≤ 512) :
    Calls Try.prog 83 #[.agg #[.int .i64 W, .int .i64 H, .slice a cs.length cap], .int .i64 k] w (TwoNets (cs.length : Int) (insE W k es) (betE W k es) w) := by
  have hbds := gridErr_ok h0
  have b1 := hbds.1
  have b2 := hbds.2.1
  clear hbds
  have hO := hide (fun w B hB hE => by have := netof_ok W H a cap cs w B hB hE h0; rw [hes] at this; exact this)
  have hS := hide (fun (p : Int) (h : 0 ≤ p ∧ p < 64) w => hsq_any W H k p (.slice a cs.length cap) w b1 b2 hk hk8 h.1 h.2 ⟨_, _, _, rfl⟩)
  replace hE := hide hE
  replace hin := hide hin
  clear h0 hes
  go_enter Try.func83, Try.ntmps83
  go_wp2_with fail
  refine (hO.out _ B (by simp; omega) (hE.out.below ((by repeat (first | with_reducible exact Below.refl _ _ | with_reducible assumption | with_reducible refine up_drewN ?_ | with_reducible refine up_drew ?_ | (with_reducible refine up_alloc ?_ ?_; rotate_left; (first | omega | (simp <;> omega) | simp)) | (with_reducible refine up_set ?_ ?_; rotate_left; (first | omega | (simp <;> omega) | simp)) | (with_reducible refine Below.trans ?_ (Below.mono (by with_reducible assumption) ?_); rotate_left; (first | omega | (simp <;> omega) | simp)))) : Below w.heap.size w _) hB)).mono ?_
  rintro e w1 ⟨v, rfl, own, hb1⟩
  obtain ⟨av, cv, rfl⟩ := own.shape (n := es.length) rfl
  have hrow := hide own.rowE
  have hlow := hide (show ∀ b, (Value.slice av es.length cv).ownBlock = some b → w.heap.size + 1 + 1 < b from fun b hb => by have := (own.block_lt b hb).1; simp at this; omega)
  have hz1 := hb1.size
  simp at hz1
  have g0 : w1.cell? ⟨w.heap.size, 0, none⟩ = some (.int .i64 W) := cu_below hb1 (by simp [go_sem]) (by simp <;> omega)
  have g1 : w1.cell? ⟨w.heap.size, 1, none⟩ = some (.int .i64 H) := cu_below hb1 (by simp [go_sem]) (by simp <;> omega)
  have g2 : w1.cell? ⟨w.heap.size, 2, none⟩ = some (.slice a cs.length cap) := cu_below hb1 (by simp [go_sem]) (by simp <;> omega)
  have i0 : w1.cell? ⟨w.heap.size + 1, 0, none⟩ = some (.int .i64 0) := cu_below hb1 (by simp [go_sem]) (by simp <;> omega)
  have i1 : w1.cell? ⟨w.heap.size + 1, 1, none⟩ = some (.slice none 0 0) := cu_below hb1 (by simp [go_sem]) (by simp <;> omega)
  have j0 : w1.cell? ⟨w.heap.size + 1 + 1, 0, none⟩ = some (.int .i64 0) := cu_below hb1 (by simp [go_sem]) (by simp <;> omega)
  have j1 : w1.cell? ⟨w.heap.size + 1 + 1, 1, none⟩ = some (.slice none 0 0) := cu_below hb1 (by simp [go_sem]) (by simp <;> omega)
  have fi : ∀ o, w1.frozen? ⟨w.heap.size + 1, o, none⟩ = false := fun o => fu_below hb1 (by simp [go_sem]) (by simp <;> omega)
  have fj : ∀ o, w1.frozen? ⟨w.heap.size + 1 + 1, o, none⟩ = false := fun o => fu_below hb1 (by simp [go_sem]) (by simp <;> omega)
  have fi0 := fi 0
  have fj0 := fj 0
  have hl1 : w.heap.size < w1.heap.size := by omega
  have hl2 : w.heap.size + 1 < w1.heap.size := by omega
  have hl3 : w.heap.size + 1 + 1 < w1.heap.size := by omega
  have hbw := hide (show Below w.heap.size w w1 from (by repeat (first | with_reducible exact Below.refl _ _ | with_reducible assumption | with_reducible refine up_drewN ?_ | with_reducible refine up_drew ?_ | (with_reducible refine up_alloc ?_ ?_; rotate_left; (first | omega | (simp <;> omega) | simp)) | (with_reducible refine up_set ?_ ?_; rotate_left; (first | omega | (simp <;> omega) | simp)) | (with_reducible refine Below.trans ?_ (Below.mono (by with_reducible assumption) ?_); rotate_left; (first | omega | (simp <;> omega) | simp)))))
  replace own := hide own
  clear hb1 hO
  go_wp2
  go_region
  obtain ⟨w2, hw2⟩ : ∃ w2, w2 = (((w1.setCell ⟨w.heap.size + 1, 0, none⟩ (.int .i64 (cs.length : Int))).setCell ⟨w.heap.size + 1 + 1, 0, none⟩ (.int .i64 (cs.length : Int))).alloc (.cells #[.int .i64 (cs.length : Int), .slice av es.length cv] 24)).drew := ⟨_, rfl⟩
  have hs2 : w2.heap.size = w1.heap.size + 1 := by rw [hw2]; simp
  have hB12 : Below w.heap.size w1 w2 := by rw [hw2]; exact (by repeat (first | with_reducible exact Below.refl _ _ | with_reducible assumption | with_reducible refine up_drewN ?_ | with_reducible refine up_drew ?_ | (with_reducible refine up_alloc ?_ ?_; rotate_left; (first | omega | (simp <;> omega) | simp)) | (with_reducible refine up_set ?_ ?_; rotate_left; (first | omega | (simp <;> omega) | simp)) | (with_reducible refine Below.trans ?_ (Below.mono (by with_reducible assumption) ?_); rotate_left; (first | omega | (simp <;> omega) | simp))))
  have hK12 : Keep (fun j => j = w.heap.size + 1 ∨ j = w.heap.size + 1 + 1) w1 w2 := by
    rw [hw2]
    exact (((((Keep.refl (fun j => j = w.heap.size + 1 ∨ j = w.heap.size + 1 + 1) w1).setCell (.inl (.inl rfl)) _).setCell (.inl (.inr rfl)) _).alloc _).drew)
  have G0 := hK12.cu g0 (by simp; omega)
  have G1 := hK12.cu g1 (by simp; omega)
  have G2 := hK12.cu g2 (by simp; omega)
  have A1 : w2.cell? ⟨w1.heap.size, 1, none⟩ = some (.slice av es.length cv) := by rw [hw2]; simp [go_sem]
  have hWi0 : Wi 26 (w.heap.size + 1) (w.heap.size + 1 + 1) (cs.length : Int) w2 (.slice none 0 0) (.slice none 0 0) [] [] w2 := by
    refine ⟨?_, ?_, ?_, ?_, ?_, ?_, Own.nil _ _, Own.nil _ _, (fun k h => by simp [Value.ownBlock] at h), Keep.refl _ _, by omega, by omega, by omega⟩
    · rw [hw2]; exact cu_drew (cu_alloc (cu_set (World.cell?_setCell_same _ _ _ i0) (by simp)))
    · rw [hw2]; exact cu_drew (cu_alloc (cu_set (cu_set_off i1 (by omega)) (by simp)))
    · rw [hw2]; exact cu_drew (cu_alloc (World.cell?_setCell_same _ _ _ (cu_set j0 (by simp))))
    · rw [hw2]; exact cu_drew (cu_alloc (cu_set_off (cu_set j1 (by simp)) (by omega)))
    · intro o; rw [hw2]; exact fu_drew (fu_alloc (fu_set (fu_set (fi o))))
    · intro o; rw [hw2]; exact fu_drew (fu_alloc (fu_set (fu_set (fj o))))
  have hrow2 : Row encE 3 w2 w2.heap.size av es := by
    have h := hK12.own own.out (fun k hk e => by
      have := (own.out.block_lt k hk).1
      simp at this
      rcases e with e | e <;> omega)
    exact h.rowE
  have hbw2 := hide (hbw.out.trans hB12)
  simp only [← hw2]
  replace hw2 := hide hw2
  replace hWi0 := hide hWi0
  replace hrow2 := hide hrow2
  clear g0 g1 g2 i0 i1 j0 j1 fi fj fi0 fj0 hB12 hK12 own hrow hbw
  go_wp2
  go_loopw [9, 24] (fun _ i wr => ∃ (j p1 p2 : Nat) (x1 x2 : Option Addr) (d1 d2 : Nat), j ≤ es.length ∧ p1 ≤ j ∧ p2 ≤ j ∧ i = .int .i64 j ∧ Hid ((insE W k (es.take j)).length = p1) ∧ Hid ((betE W k (es.take j)).length = p2) ∧ Hid (Wi 26 (w.heap.size + 1) (w.heap.size + 1 + 1) (cs.length : Int) w2 (.slice x1 p1 d1) (.slice x2 p2 d2) (insE W k (es.take j)) (betE W k (es.take j)) wr)) (fun _ i _ => es.length - (intOf i).toNat)
  case atStart => exact ⟨0, 0, 0, none, none, 0, 0, Nat.zero_le _, Nat.le_refl _, Nat.le_refl _, rfl, hide rfl, hide rfl, hWi0⟩
  case round =>
    clear hWi0
    obtain ⟨j, p1, p2, x1, x2, d1, d2, hj, hp1, hp2, rfl, hl1', hl2', hWi⟩ := hrel
    have hzr := hWi.out.size
    have k0 := hWi.out.kp.cu G0 (by simp; omega)
    have k1 := hWi.out.kp.cu G1 (by simp; omega)
    have k2 := hWi.out.kp.cu G2 (by simp; omega)
    have hzs : w.heap.size < wr.heap.size := by omega
    have hzp : w.heap.size + 1 < wr.heap.size := by omega
    have hzq : w.heap.size + 1 + 1 < wr.heap.size := by omega
    by_cases hlt : j < es.length
    · obtain ⟨eb, eo, rfl, heb, q0, q1, q2⟩ := hrow2.out.ed j hlt
      obtain ⟨hu0, hu1, hv0, hv1⟩ := hin.out es[j] (List.getElem_mem hlt)
      have t1 := hide (ins_take (W := W) (k := k) hlt)
      have t2 := hide (bet_take (W := W) (k := k) hlt)
      have hlo := hlow.out eb rfl
      have q0 := hWi.out.kp.cu q0 (by simp; omega)
      have q1 := hWi.out.kp.cu q1 (by simp; omega)
      have q2 := hWi.out.kp.cu q2 (by simp; omega)
      have hebx : eb < wr.heap.size := by omega
      obtain ⟨ed, hed⟩ : ∃ ed, ed = es[j] := ⟨_, rfl⟩
      rw [← hed] at q0 q1 q2 t1 t2 hu0 hu1 hv0 hv1
      have hu : 0 ≤ ed.u ∧ ed.u < 64 := ⟨hu0, hu1⟩
      have hv : 0 ≤ ed.v ∧ ed.v < 64 := ⟨hv0, hv1⟩
      replace hed := hide hed
      have hsb : (sqN W k ed.u == sqN W k ed.v) = sameSq W k ed := by unfold sameSq; rfl
      obtain ⟨sb, hsb2⟩ : ∃ sb, sb = sameSq W k ed := ⟨_, rfl⟩
      rw [← hsb2] at hsb t1 t2
      replace hsb2 := hide hsb2
      have ij : (0 : Int) ≤ (j : Int) ∧ (j : Int) < (es.length : Int) := by omega
      have key := hide (show ∀ w', Below (wr.heap.size + 1) (wr.alloc (.cells #[.int .i64 ed.u, .int .i64 ed.v, .int .i64 ed.c] 26)) w' → (Below (wr.heap.size + 1) (wr.alloc (.cells #[.int .i64 ed.u, .int .i64 ed.v, .int .i64 ed.c] 26)) w' ∧ w'.cell? ⟨w.heap.size, 0, none⟩ = some (.int .i64 W) ∧ w'.cell? ⟨w.heap.size, 1, none⟩ = some (.int .i64 H) ∧ w'.cell? ⟨w.heap.size, 2, none⟩ = some (.slice a cs.length cap) ∧ w'.cell? ⟨wr.heap.size, 0, none⟩ = some (.int .i64 ed.u) ∧ w'.cell? ⟨wr.heap.size, 1, none⟩ = some (.int .i64 ed.v)) from fun w' h =>
        ⟨h, cu_below h (cu_alloc k0) (by simp; omega), cu_below h (cu_alloc k1) (by simp; omega), cu_below h (cu_alloc k2) (by simp; omega), cu_below h (by simp [go_sem]) (by simp), cu_below h (by simp [go_sem]) (by simp)⟩)
      clear hu0 hu1 hv0 hv1
      cases sb with
      | true =>
        simp only [if_true] at t1 t2
        go_wp2
        go_region_held3 (fun w' => Below (wr.heap.size + 1) (wr.alloc (.cells #[.int .i64 ed.u, .int .i64 ed.v, .int .i64 ed.c] 26)) w' ∧ w'.cell? ⟨w.heap.size, 0, none⟩ = some (.int .i64 W) ∧ w'.cell? ⟨w.heap.size, 1, none⟩ = some (.int .i64 H) ∧ w'.cell? ⟨w.heap.size, 2, none⟩ = some (.slice a cs.length cap) ∧ w'.cell? ⟨wr.heap.size, 0, none⟩ = some (.int .i64 ed.u) ∧ w'.cell? ⟨wr.heap.size, 1, none⟩ = some (.int .i64 ed.v))
          (first | exact key.out _ (up_drew (Below.refl _ _)) | exact key.out _ (by assumption))
          (first | (go_at_call 81; have hb4 := (‹Below (wr.heap.size + 1) _ _ ∧ _› : _ ∧ _).1; refine (hS.out _ (by assumption) _).mono ?_; rintro e w5 ⟨rfl, hb5⟩; have hb6 := hb4.trans (hb5.mono (Nat.le_trans (by simp) hb4.size))))
        all_goals
          have hb7 := (‹Below (wr.heap.size + 1) _ w5 ∧ _› : _ ∧ _)
          have hW5 := hide (hWi.out.stays (unalloc (hb7.1.mono (by omega)) (Nat.le_refl _)))
          have y0 := cu_below hb7.1 (show (wr.alloc (.cells #[.int .i64 ed.u, .int .i64 ed.v, .int .i64 ed.c] 26)).cell? ⟨wr.heap.size, 0, none⟩ = some (.int .i64 ed.u) by simp [go_sem]) (by simp)
          have y1 := cu_below hb7.1 (show (wr.alloc (.cells #[.int .i64 ed.u, .int .i64 ed.v, .int .i64 ed.c] 26)).cell? ⟨wr.heap.size, 1, none⟩ = some (.int .i64 ed.v) by simp [go_sem]) (by simp)
          have y2 := cu_below hb7.1 (show (wr.alloc (.cells #[.int .i64 ed.u, .int .i64 ed.v, .int .i64 ed.c] 26)).cell? ⟨wr.heap.size, 2, none⟩ = some (.int .i64 ed.c) by simp [go_sem]) (by simp)
          have hz5 : wr.heap.size < w5.heap.size := cell_lt y0
          have z1 := hW5.out.c1
          have z2 := hW5.out.f0 1
          have hap := hide (show (Value.slice x1 p1 d1).ownBlock ≠ some (w.heap.size + 1) from fun e => by have := (hWi.out.o1.block_lt _ e).1; omega)
          have hzp5 : w.heap.size + 1 < w5.heap.size := by omega
          clear hb7 q0 q1 q2 k0 k1 k2
          go_wp2_with (at_builtin; (refine wpList_pushL (e := 26) (enc := encE) (xs := insE W k (es.take j)) (v := .slice x1 (p1) d1) (base := w2.heap.size) rfl (.tmp 40) (.tmp 42) 22 rfl _ 24 Try.underlying22 info_ed rfl ?d11 lenE oneE (p1) ?d21 ?d31 ?d41 ⟨w5.heap.size, 0, none⟩ 1 ed ?d51 ?d61 ?d71 ?d81 ?d91 ?_); (case d11 => omega); (case d21 => exact hl1'.out); (case d31 => rfl); (case d41 => exact (hW5.out.o1.alloc _)); (case d51 => rfl); (case d61 => exact newE _ _ _ _ rfl); (case d71 => omega); (case d81 => unfold maxLen; omega); (case d91 => first | omega | (simp; done) | (simp; omega)); intro g1 c1 w1 own1 hb1 hgr1 hat1 hgl1; have hk9 := hgr1.cell (a := ⟨w.heap.size + 1, 1, none⟩) (v := .slice x1 p1 d1) (cu_alloc z1) (fun e => hap.out e.symm); have hf9 := (hgr1.frozen_far ⟨w.heap.size + 1, 1, none⟩ (by simp; omega) (fun e => hap.out e.symm)).trans (fu_alloc z2); replace own1 := hide own1; replace hb1 := hide hb1; replace hgr1 := hide hgr1; replace hat1 := hide hat1)
          have hW9 := hide (hW5.out.push1 own1.out hgr1.out (fun b hb => by simp only [Value.ownBlock, Option.some.injEq] at hb; subst hb; rcases hat1.out with h | h; exact .inl h; right; rw [h]; simp))
          go_roundw
          case rel => exact ⟨j + 1, p1 + 1, p2, _, x2, _, d2, by omega, by omega, by omega, by go_num, hide (by rw [t1.out, List.length_append, hl1'.out]; rfl), hide (by rw [t2.out]; exact hl2'.out), hide (by rw [t1.out, t2.out]; exact hW9.out)⟩
          case measure => simp [intOf]; omega
      | false =>
        simp only [Bool.false_eq_true, if_false] at t1 t2
        go_wp2
        go_region_held3 (fun w' => Below (wr.heap.size + 1) (wr.alloc (.cells #[.int .i64 ed.u, .int .i64 ed.v, .int .i64 ed.c] 26)) w' ∧ w'.cell? ⟨w.heap.size, 0, none⟩ = some (.int .i64 W) ∧ w'.cell? ⟨w.heap.size, 1, none⟩ = some (.int .i64 H) ∧ w'.cell? ⟨w.heap.size, 2, none⟩ = some (.slice a cs.length cap) ∧ w'.cell? ⟨wr.heap.size, 0, none⟩ = some (.int .i64 ed.u) ∧ w'.cell? ⟨wr.heap.size, 1, none⟩ = some (.int .i64 ed.v))
          (first | exact key.out _ (up_drew (Below.refl _ _)) | exact key.out _ (by assumption))
          (first | (go_at_call 81; have hb4 := (‹Below (wr.heap.size + 1) _ _ ∧ _› : _ ∧ _).1; refine (hS.out _ (by assumption) _).mono ?_; rintro e w5 ⟨rfl, hb5⟩; have hb6 := hb4.trans (hb5.mono (Nat.le_trans (by simp) hb4.size))))
        all_goals
          have hb7 := (‹Below (wr.heap.size + 1) _ w5 ∧ _› : _ ∧ _)
          have hW5 := hide (hWi.out.stays (unalloc (hb7.1.mono (by omega)) (Nat.le_refl _)))
          have y0 := cu_below hb7.1 (show (wr.alloc (.cells #[.int .i64 ed.u, .int .i64 ed.v, .int .i64 ed.c] 26)).cell? ⟨wr.heap.size, 0, none⟩ = some (.int .i64 ed.u) by simp [go_sem]) (by simp)
          have y1 := cu_below hb7.1 (show (wr.alloc (.cells #[.int .i64 ed.u, .int .i64 ed.v, .int .i64 ed.c] 26)).cell? ⟨wr.heap.size, 1, none⟩ = some (.int .i64 ed.v) by simp [go_sem]) (by simp)
          have y2 := cu_below hb7.1 (show (wr.alloc (.cells #[.int .i64 ed.u, .int .i64 ed.v, .int .i64 ed.c] 26)).cell? ⟨wr.heap.size, 2, none⟩ = some (.int .i64 ed.c) by simp [go_sem]) (by simp)
          have hz5 : wr.heap.size < w5.heap.size := cell_lt y0
          have z1 := hW5.out.d1
          have z2 := hW5.out.f1 1
          have hap := hide (show (Value.slice x2 p2 d2).ownBlock ≠ some (w.heap.size + 1 + 1) from fun e => by have := (hWi.out.o2.block_lt _ e).1; omega)
          have hzp5 : w.heap.size + 1 + 1 < w5.heap.size := by omega
          clear hb7 q0 q1 q2 k0 k1 k2
          go_wp2_with (at_builtin; (refine wpList_pushL (e := 26) (enc := encE) (xs := betE W k (es.take j)) (v := .slice x2 (p2) d2) (base := w2.heap.size) rfl (.tmp 46) (.tmp 48) 22 rfl _ 24 Try.underlying22 info_ed rfl ?d11 lenE oneE (p2) ?d21 ?d31 ?d41 ⟨w5.heap.size, 0, none⟩ 1 ed ?d51 ?d61 ?d71 ?d81 ?d91 ?_); (case d11 => omega); (case d21 => exact hl2'.out); (case d31 => rfl); (case d41 => exact (hW5.out.o2.alloc _)); (case d51 => rfl); (case d61 => exact newE _ _ _ _ rfl); (case d71 => omega); (case d81 => unfold maxLen; omega); (case d91 => first | omega | (simp; done) | (simp; omega)); intro g1 c1 w1 own1 hb1 hgr1 hat1 hgl1; have hk9 := hgr1.cell (a := ⟨w.heap.size + 1 + 1, 1, none⟩) (v := .slice x2 p2 d2) (cu_alloc z1) (fun e => hap.out e.symm); have hf9 := (hgr1.frozen_far ⟨w.heap.size + 1 + 1, 1, none⟩ (by simp; omega) (fun e => hap.out e.symm)).trans (fu_alloc z2); replace own1 := hide own1; replace hb1 := hide hb1; replace hgr1 := hide hgr1; replace hat1 := hide hat1)
          have hW9 := hide (hW5.out.push2 own1.out hgr1.out (fun b hb => by simp only [Value.ownBlock, Option.some.injEq] at hb; subst hb; rcases hat1.out with h | h; exact .inl h; right; rw [h]; simp))
          go_roundw
          case rel => exact ⟨j + 1, p1, p2 + 1, x1, _, d1, _, by omega, by omega, by omega, by go_num, hide (by rw [t1.out]; exact hl1'.out), hide (by rw [t2.out, List.length_append, hl2'.out]; rfl), hide (by rw [t1.out, t2.out]; exact hW9.out)⟩
          case measure => simp [intOf]; omega
    · obtain rfl : j = es.length := by omega
      obtain ⟨c0, c1, d0, d1', f0, f1, o1, o2, _, kp, _, _, _⟩ := hWi.out
      have f00 := f0 0
      have f01 := f0 1
      have f10 := f1 0
      have f11 := f1 1
      rw [List.take_length] at hl1' hl2' o1 o2
      have hfin := hide (show ∀ w', Keep (fun j => j = w.heap.size + 1 ∨ j = w.heap.size + 1 + 1) wr w' → Row encE 3 w' w'.heap.size x1 (insE W k es) ∧ Row encE 3 w' w'.heap.size x2 (betE W k es) ∧ Below w.heap.size w w' from fun w' hk =>
        ⟨(hk.own o1 (fun k hk e => by have := (o1.block_lt k hk).1; omega)).rowE, (hk.own o2 (fun k hk e => by have := (o2.block_lt k hk).1; omega)).rowE, hbw2.out.trans ((kp.trans hk).toBelow (fun k e => by omega) (by omega))⟩)
      replace o1 := hide o1
      replace o2 := hide o2
      replace kp := hide kp
      go_wp2
      go_region
      go_wp2
      refine bodyPost_ret (v := .tuple #[.agg #[.int .i64 (cs.length : Int), .slice x1 p1 d1], .agg #[.int .i64 (cs.length : Int), .slice x2 p2 d2]]) (by simp [results, Try.results83, go_sem, c0, c1, d0, d1']) rfl ?_
      have hh := hfin.out _ ((((((Keep.refl (fun j => j = w.heap.size + 1 ∨ j = w.heap.size + 1 + 1) wr).setCell (p := ⟨w.heap.size + 1, 0, none⟩) (.inl (.inl rfl)) (.int .i64 (cs.length : Int))).setCell (p := ⟨w.heap.size + 1, 1, none⟩) (.inl (.inl rfl)) (.slice x1 p1 d1)).setCell (p := ⟨w.heap.size + 1 + 1, 0, none⟩) (.inl (.inr rfl)) (.int .i64 (cs.length : Int))).setCell (p := ⟨w.heap.size + 1 + 1, 1, none⟩) (.inl (.inr rfl)) (.slice x2 p2 d2)).drew)
      exact ⟨x1, d1, x2, d2, by rw [hl1'.out, hl2'.out], hh.1, hh.2.1, hh.2.2⟩
end Go.Proofs.Ytgkiipmeigfjnaa
