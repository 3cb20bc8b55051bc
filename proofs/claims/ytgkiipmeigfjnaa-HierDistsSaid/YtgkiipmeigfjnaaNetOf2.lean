/-
  What net.Of and the reference's OfGrid return on right ground. Conditions: that the slice reads.
-/
import Derived.Test.YtgkiipmeigfjnaaNetOf
import Derived.Test.YtgkiipmeigfjnaaPushAll
import Derived.Deep.RegionLaw
namespace Go.Proofs.Ytgkiipmeigfjnaa
open Go.RowKit
set_option linter.unusedSimpArgs false
set_option linter.unusedVariables false
/-- what holds while the net of a grid is made: the grid boxed, the result's place, the net so far at D -/
structure NOf (w : World) (D : Nat) (W H : Int) (a : Option Addr) (n cap : Nat) (N : Int) (v : Value) (es : List Ed) (wr : World) : Prop where
  b0 : wr.cell? ⟨w.heap.size, 0, none⟩ = some (.int .i64 W)
  b1 : wr.cell? ⟨w.heap.size, 1, none⟩ = some (.int .i64 H)
  b2 : wr.cell? ⟨w.heap.size, 2, none⟩ = some (.slice a n cap)
  r0 : wr.cell? ⟨w.heap.size + 1, 0, none⟩ = some (.int .i64 0)
  r1 : wr.cell? ⟨w.heap.size + 1, 1, none⟩ = some (.slice none 0 0)
  f0 : wr.frozen? ⟨w.heap.size + 1, 0, none⟩ = false
  f1 : wr.frozen? ⟨w.heap.size + 1, 1, none⟩ = false
  o0 : wr.cell? ⟨D, 0, none⟩ = some (.int .i64 N)
  o1 : wr.cell? ⟨D, 1, none⟩ = some v
  fo : wr.frozen? ⟨D, 1, none⟩ = false
  own : Own encE 3 26 wr (D + 1) v es
  bel : Below w.heap.size w wr
  low : w.heap.size + 1 < D
section
variable {w wr w' : World} {D n cap : Nat} {W H N : Int} {a : Option Addr} {v : Value} {es : List Ed}
theorem NOf.lt (h : NOf w D W H a n cap N v es wr) : D < wr.heap.size := cell_lt h.o0
theorem NOf.stays (h : NOf w D W H a n cap N v es wr) (b : Below wr.heap.size wr w') : NOf w D W H a n cap N v es w' :=
  have hl := h.lt
  have hlow := h.low
  ⟨cu_below b h.b0 (cell_lt h.b0), cu_below b h.b1 (cell_lt h.b1), cu_below b h.b2 (cell_lt h.b2), cu_below b h.r0 (cell_lt h.r0), cu_below b h.r1 (cell_lt h.r1), fu_below b h.f0 (cell_lt h.r0), fu_below b h.f1 (cell_lt h.r1), cu_below b h.o0 hl, cu_below b h.o1 hl, fu_below b h.fo hl, h.own.stays b, h.bel.trans (b.mono h.bel.size), h.low⟩
theorem NOf.ap (h : NOf w D W H a n cap N v es wr) {b : Nat} (hb : b ≤ D) : v.ownBlock ≠ some b := fun e => by
  have := (h.own.block_lt b e).1
  omega
/-- behind an append and its store -/
theorem NOf.grew (h : NOf w D W H a n cap N v es wr) {v' : Value} {es' : List Ed} (own' : Own encE 3 26 w' (D + 1) v' es') (hg : wr.grownBy w' v.ownBlock) : NOf w D W H a n cap N v' es' (w'.setCell ⟨D, 1, none⟩ v') := by
  have hl := h.lt
  have hlow := h.low
  have kc : ∀ {b o : Nat} {u : Value}, b ≤ D → wr.cell? ⟨b, o, none⟩ = some u → w'.cell? ⟨b, o, none⟩ = some u := fun hb hc => hg.cell hc (fun e => h.ap hb e.symm)
  have kf : ∀ {b o : Nat}, b ≤ D → wr.frozen? ⟨b, o, none⟩ = false → w'.frozen? ⟨b, o, none⟩ = false := fun {b o} hb hf => (hg.frozen_far ⟨b, o, none⟩ (by simp; omega) (fun e => h.ap hb e.symm)).trans hf
  have hne : ∀ {b o : Nat} {u : Value}, b < D → w'.cell? ⟨b, o, none⟩ = some u → (w'.setCell ⟨D, 1, none⟩ v').cell? ⟨b, o, none⟩ = some u := fun hb hc => cu_set hc (by simp; omega)
  refine ⟨hne (by omega) (kc (by omega) h.b0), hne (by omega) (kc (by omega) h.b1), hne (by omega) (kc (by omega) h.b2), hne (by omega) (kc (by omega) h.r0), hne (by omega) (kc (by omega) h.r1), fu_set (kf (by omega) h.f0), fu_set (kf (by omega) h.f1), cu_set_off (kc (Nat.le_refl _) h.o0) (by omega), World.cell?_setCell_same _ _ _ (kc (Nat.le_refl _) h.o1), fu_set (kf (Nat.le_refl _) h.fo), own'.elsewhere (fun e => by have := (own'.block_lt D e).1; omega) _, ?_, h.low⟩
  refine Below.setCell (h.bel.grown hg h.bel.size (fun k hk => by have := (h.own.block_lt k hk).1; omega)) ?_ _
  simp; omega
/-- the result stored -/
theorem NOf.done (h : NOf w D W H a n cap N v es wr) : Own encE 3 26 ((wr.setCell ⟨w.heap.size + 1, 0, none⟩ (.int .i64 N)).setCell ⟨w.heap.size + 1, 1, none⟩ v) w.heap.size v es ∧ Below w.heap.size w ((wr.setCell ⟨w.heap.size + 1, 0, none⟩ (.int .i64 N)).setCell ⟨w.heap.size + 1, 1, none⟩ v) := by
  have hlow := h.low
  have h1 : ∀ {b : Nat}, b ≤ D → v.ownBlock ≠ some b := fun hb => h.ap hb
  exact ⟨((h.own.elsewhere (p := ⟨w.heap.size + 1, 0, none⟩) (h1 (by simp; omega)) _).elsewhere (p := ⟨w.heap.size + 1, 1, none⟩) (h1 (by simp; omega)) _).base_le (by omega), (h.bel.setCell (by simp) _).setCell (by simp) _⟩
end
set_option maxRecDepth 100000 in
set_option maxHeartbeats 2000000 in
theorem netof_ok (W H : Int) (a : Option Addr) (cap : Nat) (cs : List Int) (w : World) (B : Nat) (hB : B ≤ w.heap.size) (hE : Row encI 1 w B a cs) (h0 : gridErr W H cs = 0) :
    Calls Try.prog 134 #[.agg #[.int .i64 W, .int .i64 H, .slice a cs.length cap]] w (NetBack 26 (cs.length : Int) (gridNet W H cs cs.length) 0 w) := by
  obtain ⟨b1, b2, b3, b4, hcl, hcs⟩ := gridErr_ok h0
  have hn : cs.length ≤ 64 := by
    have := Int.mul_le_mul b2 b4 (by omega) (by omega)
    omega
  have hC := hide (fun w hB hE => by have := gcheck_any W H a cap cs w B hB hE (by omega); rw [h0] at this; exact this)
  have hM := hide (fun (k : Nat) (hk : k < cs.length) w hB hE => moves_anyZ W H (k : Int) a cap cs w B hB hE (by omega) (gridMoves W H cs (k : Int)) 0 (.inr (.inr ⟨h0, by omega, by omega, rfl, rfl⟩)))
  replace hE := hide hE
  clear h0 hcs hcl
  go_enter Try.func134, Try.ntmps134
  go_wp2_with fail
  refine (hC.out _ (by simp; omega) (hE.out.below ((by repeat (first | with_reducible exact Below.refl _ _ | with_reducible assumption | with_reducible refine up_drewN ?_ | with_reducible refine up_drew ?_ | (with_reducible refine up_alloc ?_ ?_; rotate_left; (first | omega | (simp <;> omega) | simp)) | (with_reducible refine up_set ?_ ?_; rotate_left; (first | omega | (simp <;> omega) | simp)) | (with_reducible refine Below.trans ?_ (Below.mono (by with_reducible assumption) ?_); rotate_left; (first | omega | (simp <;> omega) | simp)))) : Below w.heap.size w _) hB)).mono ?_
  rintro e w1 ⟨rfl, hb1⟩
  obtain ⟨hc1, hf1⟩ := bcell hb1
  have hz1 : w.heap.size + 1 < w1.heap.size := by have := hb1.size; simp at this; omega
  have hz0 : w.heap.size < w1.heap.size := by omega
  have hI0 : NOf w w1.heap.size W H a cs.length cap (cs.length : Int) (.slice none 0 0) [] (w1.alloc (.cells #[.int .i64 (cs.length : Int), .slice none 0 0] 24)) := by
    have hb : Below w1.heap.size w1 (w1.alloc (.cells #[.int .i64 (cs.length : Int), .slice none 0 0] 24)) := (Below.refl _ _).alloc (Nat.le_refl _) _
    refine ⟨cu_below hb (by simp [hc1, go_sem]) (by simp <;> omega), cu_below hb (by simp [hc1, go_sem]) (by simp <;> omega), cu_below hb (by simp [hc1, go_sem]) (by simp <;> omega), cu_below hb (by simp [hc1, go_sem]) (by simp <;> omega), cu_below hb (by simp [hc1, go_sem]) (by simp <;> omega), fu_below hb (by simp [hf1, go_sem]) (by simp <;> omega), fu_below hb (by simp [hf1, go_sem]) (by simp <;> omega), by simp [go_sem], by simp [go_sem], by simp [go_sem], Own.nil _ _, (by repeat (first | with_reducible exact Below.refl _ _ | with_reducible assumption | with_reducible refine up_drewN ?_ | with_reducible refine up_drew ?_ | (with_reducible refine up_alloc ?_ ?_; rotate_left; (first | omega | (simp <;> omega) | simp)) | (with_reducible refine up_set ?_ ?_; rotate_left; (first | omega | (simp <;> omega) | simp)) | (with_reducible refine Below.trans ?_ (Below.mono (by with_reducible assumption) ?_); rotate_left; (first | omega | (simp <;> omega) | simp)))), by omega⟩
  replace hI0 := hide hI0
  go_wp2
  generalize (w1.alloc (.cells #[.int .i64 (cs.length : Int), .slice none 0 0] 24)) = w2 at hI0 ⊢
  clear hb1 hc1 hf1 hC
  go_loopw [22] (fun i wr => ∃ (k : Nat) (a0 : Option Addr) (n0 c0 : Nat), k ≤ cs.length ∧ i = .int .i64 k ∧ n0 = (gridNet W H cs k).length ∧ Hid (NOf w w1.heap.size W H a cs.length cap (cs.length : Int) (.slice a0 n0 c0) (gridNet W H cs k) wr)) (fun i _ => cs.length - (intOf i).toNat)
  case atStart => exact ⟨0, none, 0, 0, Nat.zero_le _, rfl, rfl, hI0⟩
  case round =>
    obtain ⟨k, a0, n0, c0, hk, rfl, hn0, hI⟩ := hrel
    clear hI0
    have hl8 := gridNet_len W H cs k
    rw [← hn0] at hl8
    replace hn0 := hide hn0
    have kb0 := hI.out.b0
    have kb1 := hI.out.b1
    have kb2 := hI.out.b2
    have kl := hI.out.lt
    have klow := hI.out.low
    by_cases hlt : k < cs.length
    · have ik : (0 : Int) ≤ (k : Int) ∧ (k : Int) < (cs.length : Int) := by omega
      have hMk := hide (hM.out k hlt wr (Nat.le_trans hB hI.out.bel.size) (hE.out.below hI.out.bel hB))
      obtain ⟨m, hm⟩ : ∃ m, m = (gridMoves W H cs (k : Int)).length := ⟨_, rfl⟩
      have hm8 : m ≤ 8 := by rw [hm]; exact mlist_len ..
      have hg := hide (gridNet_succ W H cs k)
      generalize gridMoves W H cs (k : Int) = ms at hMk hm hg
      replace hm := hide hm
      go_wp2_with fail
      refine hMk.out.mono ?_
      rintro e w3 ⟨av, cv, rfl, hr3, hb3, _⟩
      rw [← hm.out]
      have hI3 := hide (hI.out.stays hb3)
      replace hr3 := hide hr3
      have k3 := hI3.out.o1
      have f3 := hI3.out.fo
      have kl3 := hI3.out.lt
      clear kb0 kb1 kb2 hb3
      go_wp2_with (at_builtin; (refine wpList_all rfl (.tmp 32) (.tmp 33) 22 rfl _ 24 Try.underlying22 info_ed rfl ?d1 lenE oneE n0 ?d2 rfl hI3.out.own w3.heap.size av m cv ms ?d3 rfl hr3.out ?d4 ?d5 ?d6 ?_); (case d1 => omega); (case d2 => exact hn0.out.symm); (case d3 => exact hm.out.symm); (case d4 => omega); (case d5 => unfold maxLen; omega); (case d6 => omega); intro a4 c4 w4 own4 hb4 hg4; have hgr4 := hI3.out.grew own4 hg4; replace own4 := hide own4; have k4 := hg4.cell k3 (fun e => hI3.out.ap (Nat.le_refl _) e.symm); have f4 := (hg4.frozen_far ⟨w1.heap.size, 1, none⟩ (by simp; omega) (fun e => hI3.out.ap (Nat.le_refl _) e.symm)).trans f3; replace hb4 := hide hb4; replace hg4 := hide hg4; replace hgr4 := hide hgr4; clear k3 f3)
      go_roundw
      case rel => exact ⟨k + 1, a4, n0 + m, c4, by omega, by go_num, by rw [hg.out, List.length_append, hn0.out, hm.out], hide (by rw [hg.out]; exact hgr4.out)⟩
      case measure => simp [intOf]; omega
    · obtain rfl : k = cs.length := by omega
      have k0 := hI.out.o0
      have k1 := hI.out.o1
      have r0 := hI.out.r0
      have r1 := hI.out.r1
      have f0 := hI.out.f0
      have f1 := hI.out.f1
      have hD := hide hI.out.done
      go_wp2
      refine bodyPost_ret (v := .tuple #[.agg #[.int .i64 (cs.length : Int), .slice a0 n0 c0], .int .i64 0]) (by simp [results, Try.results134, go_sem, r0, r1, kl, klow]) rfl ⟨_, rfl, hD.out.1, hD.out.2⟩
theorem NOf.drew {w wr : World} {D n cap : Nat} {W H N : Int} {a : Option Addr} {v : Value} {es : List Ed} (h : NOf w D W H a n cap N v es wr) : NOf w D W H a n cap N v es wr.drew := h.stays (below_drew _)
/-- a net handed back, its edges new -/
def NetBack1 (e0 : TypeId) (N : Int) (es : List Ed) (w : World) (e : Ending) (w' : World) : Prop := ∃ v, e = .returned (.agg #[.int .i64 N, v]) ∧ Own encE 3 e0 w' w.heap.size v es ∧ Below w.heap.size w w'
set_option maxRecDepth 100000 in
set_option maxHeartbeats 2000000 in
theorem ofgrid_ok (W H : Int) (a : Option Addr) (cap : Nat) (cs : List Int) (w : World) (B : Nat) (hB : B ≤ w.heap.size) (hE : Row encI 1 w B a cs) (h0 : gridErr W H cs = 0) :
    Calls Try.prog 60 #[.agg #[.int .i64 W, .int .i64 H, .slice a cs.length cap]] w (NetBack1 26 (W * H) (gridNet W H cs cs.length) w) := by
  obtain ⟨b1, b2, b3, b4, hcl, hcs⟩ := gridErr_ok h0
  have hn2 : W * H ≤ 64 := by
    have := Int.mul_le_mul b2 b4 (by omega) (by omega)
    omega
  have hn : cs.length ≤ 64 := by omega
  have hn3 : 0 ≤ W * H := by omega
  have hM := hide (fun (k : Nat) (hk : k < cs.length) w hB hE => rmoves_anyZ W H (k : Int) a cap cs w B hB hE h0 (by omega) (by omega))
  replace hE := hide hE
  clear h0 hcs hcl
  go_enter Try.func60, Try.ntmps60
  have hI0 : NOf w (w.heap.size + 1 + 1) W H a cs.length cap (W * H) (.slice none 0 0) [] (((w.alloc (.cells #[.int .i64 W, .int .i64 H, .slice a cs.length cap] 47)).alloc (.cells #[.int .i64 0, .slice none 0 0] 24)).alloc (.cells #[.int .i64 (W * H), .slice none 0 0] 24)) := by
    refine ⟨by simp [go_sem], by simp [go_sem], by simp [go_sem], by simp [go_sem], by simp [go_sem], by simp [go_sem], by simp [go_sem], by simp [go_sem], by simp [go_sem], by simp [go_sem], Own.nil _ _, (by repeat (first | with_reducible exact Below.refl _ _ | with_reducible assumption | with_reducible refine up_drewN ?_ | with_reducible refine up_drew ?_ | (with_reducible refine up_alloc ?_ ?_; rotate_left; (first | omega | (simp <;> omega) | simp)) | (with_reducible refine up_set ?_ ?_; rotate_left; (first | omega | (simp <;> omega) | simp)) | (with_reducible refine Below.trans ?_ (Below.mono (by with_reducible assumption) ?_); rotate_left; (first | omega | (simp <;> omega) | simp)))), by omega⟩
  replace hI0 := hide hI0
  go_wp2
  generalize (((w.alloc (.cells #[.int .i64 W, .int .i64 H, .slice a cs.length cap] 47)).alloc (.cells #[.int .i64 0, .slice none 0 0] 24)).alloc (.cells #[.int .i64 (W * H), .slice none 0 0] 24)) = w2 at hI0 ⊢
  go_loopw [14] (fun i wr => ∃ (k : Nat) (a0 : Option Addr) (n0 c0 : Nat), k ≤ cs.length ∧ i = .int .i64 k ∧ n0 = (gridNet W H cs k).length ∧ Hid (NOf w (w.heap.size + 1 + 1) W H a cs.length cap (W * H) (.slice a0 n0 c0) (gridNet W H cs k) wr)) (fun i _ => cs.length - (intOf i).toNat)
  case atStart => exact ⟨0, none, 0, 0, Nat.zero_le _, rfl, rfl, hI0⟩
  case round =>
    obtain ⟨k, a0, n0, c0, hk, rfl, hn0, hI⟩ := hrel
    clear hI0
    have hl8 := gridNet_len W H cs k
    rw [← hn0] at hl8
    replace hn0 := hide hn0
    have kb0 := hI.out.b0
    have kb1 := hI.out.b1
    have kb2 := hI.out.b2
    have ko1 := hI.out.o1
    have kl := hI.out.lt
    by_cases hlt : k < cs.length
    · have ik : (0 : Int) ≤ (k : Int) ∧ (k : Int) < (cs.length : Int) := by omega
      have hMk := hide (fun w' (hb : Below wr.heap.size wr w') => hM.out k hlt w' (Nat.le_trans (Nat.le_trans hB hI.out.bel.size) hb.size) (hE.out.below (hI.out.bel.trans (hb.mono hI.out.bel.size)) hB))
      obtain ⟨m, hm⟩ : ∃ m, m = (gridMoves W H cs (k : Int)).length := ⟨_, rfl⟩
      have hm8 : m ≤ 8 := by rw [hm]; exact mlist_len ..
      have hg := hide (gridNet_succ W H cs k)
      generalize gridMoves W H cs (k : Int) = ms at hMk hm hg
      replace hm := hide hm
      go_wp2
      go_region_law (first
        | (go_simp; go_at_call 127; refine (hMk.out _ (by first | exact below_drew _ | exact Below.refl _ _)).mono ?_; rintro e w3 ⟨av, cv, rfl, hr3, hb3, _⟩; rw [← hm.out]; have hI3 := hide (hI.out.stays (below_step (by first | exact below_drew _ | exact Below.refl _ _) hb3)); replace hr3 := hide hr3; have k3 := hI3.out.o1; have f3 := hI3.out.fo; have kl3 := hI3.out.lt)
        | (refine step_pushAll (base := w.heap.size + 1 + 1 + 1) (xs := gridNet W H cs k) (v := .slice a0 n0 c0) rfl (.tmp 18) (.tmp 21) 22 rfl _ 24 Try.underlying22 info_ed rfl (by omega) lenE oneE n0 hn0.out.symm rfl ?_ w3.heap.size av m cv ms hm.out.symm rfl ?_ (by omega) (by unfold maxLen; omega) ?_ ?_; (next => first | exact hI3.out.own | exact hI3.out.own.drew); (next => first | exact hr3.out | exact hr3.out.below (below_drew _) (Nat.le_refl _)); (next => first | omega | (simp; omega)); intro a4 c4 w4 own4 hb4 hg4; have hgr4 := (by first | exact hI3.out.grew own4 hg4 | exact hI3.out.drew.grew own4 hg4 : NOf w (w.heap.size + 1 + 1) W H a cs.length cap (W * H) (.slice a4 (n0 + m) c4) (gridNet W H cs k ++ ms) (w4.setCell ⟨w.heap.size + 1 + 1, 1, none⟩ (.slice a4 (n0 + m) c4))); have hap4 := hI3.out.ap (Nat.le_refl _); have k4 := hg4.cell (a := ⟨w.heap.size + 1 + 1, 1, none⟩) (v := .slice a0 n0 c0) k3 (fun e => hap4 e.symm); have f4 := (hg4.frozen_far ⟨w.heap.size + 1 + 1, 1, none⟩ (by simp; omega) (fun e => hap4 e.symm)).trans f3))
      all_goals
        replace own4 := hide own4
        replace hg4 := hide hg4
        replace hb4 := hide hb4
        replace hgr4 := hide hgr4
        clear hap4 k4 f4 k3 f3
        go_wp2
        go_roundw
        case rel => exact ⟨k + 1, a4, n0 + m, c4, by omega, by go_num, by rw [hg.out, List.length_append, hn0.out, hm.out], hide (by rw [hg.out]; exact hgr4.out)⟩
        case measure => simp [intOf]; omega
    · obtain rfl : k = cs.length := by omega
      have k0 := hI.out.o0
      have k1 := hI.out.o1
      have r0 := hI.out.r0
      have r1 := hI.out.r1
      have f0 := hI.out.f0
      have f1 := hI.out.f1
      have hD := hide hI.out.done
      go_wp2
      refine bodyPost_ret (v := .agg #[.int .i64 (W * H), .slice a0 n0 c0]) (by simp [results, Try.results60, go_sem, r0, r1, kl]) rfl ⟨_, rfl, hD.out.1, hD.out.2⟩
end Go.Proofs.Ytgkiipmeigfjnaa
