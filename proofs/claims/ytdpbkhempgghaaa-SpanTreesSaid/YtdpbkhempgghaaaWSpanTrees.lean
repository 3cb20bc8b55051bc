/-
  The walk of felllaw.SpanTrees: it returns true. Conditions: the argument reads as data.
-/
import Derived.Test.YtdpbkhempgghaaaRTree
import Derived.Test.YtdpbkhempgghaaaEqL
import Derived.Test.YtdpbkhempgghaaaOpen
namespace Go.Proofs.Ytdpbkhempgghaaa
open Go.RowKit
set_option linter.unusedSimpArgs false
set_option linter.unusedVariables false
set_option maxRecDepth 100000 in
set_option maxHeartbeats 1000000 in
theorem stree_bad (N : Int) (an : Option Addr) (cap : Nat) (es : List Ed) (w : World) (B : Nat) (hB : B ≤ w.heap.size) (hE : Row encE 3 w B an es) (hl : es.length ≤ 9223372036854775807) (h0 : netErr N es ≠ 0) :
    Calls Try.prog 56 #[.agg #[.int .i64 N, .slice an es.length cap]] w fun e w' => e = .returned (.tuple #[.slice none 0 0, .int .i64 (netErr N es)]) ∧ Below w.heap.size w w' := by
  have q0 : (netErr N es != 0) = true := by simp [h0]
  replace hE := hide hE
  clear h0
  go_enter Try.func56, Try.ntmps56
  go_wp2_with fail
  refine (check_any N an cap es _ B (by simp <;> omega) (hE.out.below ((by repeat (first | with_reducible exact Below.refl _ _ | with_reducible assumption | with_reducible refine up_drewN ?_ | with_reducible refine up_drew ?_ | (with_reducible refine up_alloc ?_ ?_; rotate_left; (first | omega | (simp <;> omega) | simp)) | (with_reducible refine up_set ?_ ?_; rotate_left; (first | omega | (simp <;> omega) | simp)) | (with_reducible refine Below.trans ?_ (Below.mono (by with_reducible assumption) ?_); rotate_left; (first | omega | (simp <;> omega) | simp)))) : Below w.heap.size w _) hB) hl).mono ?_
  rintro e w1 ⟨rfl, hb1⟩
  go_wp2
  go_ret2
  exact ⟨rfl, (by repeat (first | with_reducible exact Below.refl _ _ | with_reducible assumption | with_reducible refine up_drewN ?_ | with_reducible refine up_drew ?_ | (with_reducible refine up_alloc ?_ ?_; rotate_left; (first | omega | (simp <;> omega) | simp)) | (with_reducible refine up_set ?_ ?_; rotate_left; (first | omega | (simp <;> omega) | simp)) | (with_reducible refine Below.trans ?_ (Below.mono (by with_reducible assumption) ?_); rotate_left; (first | omega | (simp <;> omega) | simp))))⟩
def TreeBoth (es : List Ed) (w : World) (e : Ending) (w' : World) : Prop := ∃ v T, e = .returned (.tuple #[v, .int .i64 0]) ∧ Taken es es.length T ∧ Own encI 1 3 w' w.heap.size v T ∧ Below w.heap.size w w'
set_option maxRecDepth 100000 in
set_option maxHeartbeats 1000000 in
theorem stree_ok (n : Nat) (an : Option Addr) (cap : Nat) (es : List Ed) (w : World) (B : Nat) (hB : B ≤ w.heap.size) (hE : Row encE 3 w B an es) (hl : es.length ≤ 9223372036854775807) (h0 : netErr (n : Int) es = 0) :
    Calls Try.prog 56 #[.agg #[.int .i64 (n : Int), .slice an es.length cap]] w (TreeBoth es w) := by
  obtain ⟨n1, n2, n3, n4⟩ := netErr_ok h0
  have hes : Right n es := n4
  have hC := hide (show ∀ w B, _ from fun w B hB hE => by have := check_any (n : Int) an cap es w B hB hE hl; rwa [h0] at this)
  have hT := hide (fun w B hB hE => tree_all n an cap es w B hB hE (by omega) (by omega) n3 hes)
  replace hE := hide hE
  clear h0 n4 hes
  go_enter Try.func56, Try.ntmps56
  go_wp2_with fail
  refine (hC.out _ B (by simp <;> omega) (hE.out.below ((by repeat (first | with_reducible exact Below.refl _ _ | with_reducible assumption | with_reducible refine up_drewN ?_ | with_reducible refine up_drew ?_ | (with_reducible refine up_alloc ?_ ?_; rotate_left; (first | omega | (simp <;> omega) | simp)) | (with_reducible refine up_set ?_ ?_; rotate_left; (first | omega | (simp <;> omega) | simp)) | (with_reducible refine Below.trans ?_ (Below.mono (by with_reducible assumption) ?_); rotate_left; (first | omega | (simp <;> omega) | simp)))) : Below w.heap.size w _) hB)).mono ?_
  rintro e w1 ⟨rfl, hb1⟩
  have k0 : w1.cell? ⟨w.heap.size, 0, none⟩ = some (.int .i64 (n : Int)) := cu_below hb1 (by simp [go_sem]) (by simp <;> omega)
  have k1 : w1.cell? ⟨w.heap.size, 1, none⟩ = some (.slice an es.length cap) := cu_below hb1 (by simp [go_sem]) (by simp <;> omega)
  have hz3 : w.heap.size < w1.heap.size := cell_lt k0
  have hbw := hide (show Below w.heap.size w w1 from (by repeat (first | with_reducible exact Below.refl _ _ | with_reducible assumption | with_reducible refine up_drewN ?_ | with_reducible refine up_drew ?_ | (with_reducible refine up_alloc ?_ ?_; rotate_left; (first | omega | (simp <;> omega) | simp)) | (with_reducible refine up_set ?_ ?_; rotate_left; (first | omega | (simp <;> omega) | simp)) | (with_reducible refine Below.trans ?_ (Below.mono (by with_reducible assumption) ?_); rotate_left; (first | omega | (simp <;> omega) | simp)))))
  clear hb1
  go_wp2_with fail
  refine (hT.out _ B (by omega) (hE.out.below hbw.out hB)).mono ?_
  rintro e w2 ⟨v, T, rfl, hTk, own, hb2⟩
  have own2 := hide (own.base_le (base' := w.heap.size) (by omega))
  have hb3 := hide (hbw.out.trans (hb2.mono (by omega)))
  replace hTk := hide hTk
  clear own hb2
  go_wp2
  go_ret2
  exact ⟨v, T, rfl, hTk.out, own2.out, hb3.out⟩
set_option maxRecDepth 100000 in
set_option maxHeartbeats 2000000 in
theorem walk_SpanTrees (x0 : Int) (a0 : Option Addr) (cap0 : Nat) (es0 : List Ed) (w : World) (b0 : Bd x0) (l0 : es0.length ≤ cap0) (m0 : cap0 ≤ maxLen) (r0 : Row encE 3 w w.heap.size a0 es0) (be0 : ∀ x ∈ es0, BdE x) :
    Calls Try.prog 12 #[.agg #[.int .i64 x0, .slice a0 es0.length cap0]] w fun e w' => e = .returned (.bool true) ∧ Below w.heap.size w w' := by
  have hl : es0.length ≤ 9223372036854775807 := by unfold maxLen at m0; omega
  replace r0 := hide r0
  by_cases h0 : netErr x0 es0 = 0
  · obtain ⟨n1, n2, n3, n4⟩ := netErr_ok h0
    obtain ⟨n, rfl⟩ := Int.eq_ofNat_of_zero_le (show 0 ≤ x0 by omega)
    have hC := hide (show ∀ w B, _ from fun w B hB hE => by have := rnet_any (n : Int) a0 cap0 es0 w B hB hE hl; rwa [h0] at this)
    have hes : Right n es0 := n4
    have hS := hide (fun w B hB hE => stree_ok n a0 cap0 es0 w B hB hE hl h0)
    have hR := hide (fun w B hB hE => rtree_any n a0 cap0 es0 w B hB hE (by omega) (by omega) n3 hes)
    clear h0 be0 n4 hes
    go_enter Try.func12, Try.ntmps12
    go_wp2_with fail
    refine (hS.out _ w.heap.size (by simp) (r0.out.below ((by repeat (first | with_reducible exact Below.refl _ _ | with_reducible assumption | with_reducible refine up_drewN ?_ | with_reducible refine up_drew ?_ | (with_reducible refine up_alloc ?_ ?_; rotate_left; (first | omega | (simp <;> omega) | simp)) | (with_reducible refine up_set ?_ ?_; rotate_left; (first | omega | (simp <;> omega) | simp)) | (with_reducible refine Below.trans ?_ (Below.mono (by with_reducible assumption) ?_); rotate_left; (first | omega | (simp <;> omega) | simp)))) : Below w.heap.size w _) (Nat.le_refl _))).mono ?_
    rintro e w1 ⟨v, T, rfl, hT, own1, hb1⟩
    have k0 : w1.cell? ⟨w.heap.size, 0, none⟩ = some (.int .i64 (n : Int)) := cu_below hb1 (by simp [go_sem]) (by simp <;> omega)
    have k1 : w1.cell? ⟨w.heap.size, 1, none⟩ = some (.slice a0 es0.length cap0) := cu_below hb1 (by simp [go_sem]) (by simp <;> omega)
    have hz1 : w.heap.size < w1.heap.size := cell_lt k0
    have hbw1 := hide (show Below w.heap.size w w1 from (by repeat (first | with_reducible exact Below.refl _ _ | with_reducible assumption | with_reducible refine up_drewN ?_ | with_reducible refine up_drew ?_ | (with_reducible refine up_alloc ?_ ?_; rotate_left; (first | omega | (simp <;> omega) | simp)) | (with_reducible refine up_set ?_ ?_; rotate_left; (first | omega | (simp <;> omega) | simp)) | (with_reducible refine Below.trans ?_ (Below.mono (by with_reducible assumption) ?_); rotate_left; (first | omega | (simp <;> omega) | simp)))))
    obtain ⟨m, hm⟩ : ∃ m, m = T.length := ⟨_, rfl⟩
    obtain ⟨a1, c1, rfl⟩ := own1.shape hm.symm
    replace hm := hide hm
    have htl := (taken_mem hT).1
    have hml : m ≤ es0.length := by have := hm.out; omega
    replace own1 := hide own1
    replace hT := hide hT
    clear hb1
    go_wp2_with fail
    refine (hC.out _ w.heap.size (by omega) (r0.out.below hbw1.out (Nat.le_refl _))).mono ?_
    rintro e w2 ⟨rfl, hb2⟩
    have k2 := cu_below hb2 k0 (by simp; omega)
    have k3 := cu_below hb2 k1 (by simp; omega)
    have hz2 : w.heap.size < w2.heap.size := cell_lt k2
    have hbw2 := hide (hbw1.out.trans (hb2.mono (by omega)))
    have own2 := hide (own1.out.stays hb2)
    clear hb2 own1 hbw1 k0 k1
    go_wp2_with fail
    refine (hR.out _ w.heap.size (by omega) (r0.out.below hbw2.out (Nat.le_refl _))).mono ?_
    rintro e w3 ⟨v3, T3, rfl, hT3, own3, hb3⟩
    obtain rfl := taken_one hT.out hT3
    obtain ⟨a3, c3, rfl⟩ := own3.shape hm.out.symm
    have own4 := hide (own2.out.stays hb3)
    have hbw3 := hide (hbw2.out.trans (hb3.mono (by omega)))
    have hr3 : Row encI 1 w3 w3.heap.size a3 T := by
      obtain ⟨a', c', hv', hr', _⟩ := own3.row lenI
      injection hv' with g1 g2 g3
      subst g1
      exact hr'
    have hr4 : Row encI 1 w3 w3.heap.size a1 T := by
      obtain ⟨a', c', hv', hr', _⟩ := own4.out.row lenI
      injection hv' with g1 g2 g3
      subst g1
      exact hr'
    have hE := hide (eqI a1 a3 c1 c3 m m T T w3 w3.heap.size w3.heap.size hm.out.symm hm.out.symm hr4 hr3 (by omega) (by omega) true (by simp))
    clear hr3 hr4 own3 own4 hb3 hT3
    go_wp2_with fail
    refine hE.out.mono ?_
    rintro e w4 ⟨rfl, nq, rfl⟩
    go_wp2
    go_ret
    exact ⟨rfl, by first | exact up_drewN hbw3.out | exact (up_drewN hbw3.out).drew⟩
  · have hC := hide (fun w B hB hE => rnet_any x0 a0 cap0 es0 w B hB hE hl)
    have hS := hide (fun w B hB hE => stree_bad x0 a0 cap0 es0 w B hB hE hl h0)
    have q0 : (netErr x0 es0 != 0) = true := by simp [h0]
    clear h0 be0
    go_enter Try.func12, Try.ntmps12
    go_wp2_with fail
    refine (hS.out _ w.heap.size (by simp) (r0.out.below ((by repeat (first | with_reducible exact Below.refl _ _ | with_reducible assumption | with_reducible refine up_drewN ?_ | with_reducible refine up_drew ?_ | (with_reducible refine up_alloc ?_ ?_; rotate_left; (first | omega | (simp <;> omega) | simp)) | (with_reducible refine up_set ?_ ?_; rotate_left; (first | omega | (simp <;> omega) | simp)) | (with_reducible refine Below.trans ?_ (Below.mono (by with_reducible assumption) ?_); rotate_left; (first | omega | (simp <;> omega) | simp)))) : Below w.heap.size w _) (Nat.le_refl _))).mono ?_
    rintro e w1 ⟨rfl, hb1⟩
    obtain ⟨hc1, hf1⟩ := bcell hb1; have hz1 : w.heap.size < w1.heap.size := (by have := hb1.size; (try simp at this); omega)
    go_wp2_with fail
    refine (hC.out _ w.heap.size (by omega) (r0.out.below ((by repeat (first | with_reducible exact Below.refl _ _ | with_reducible assumption | with_reducible refine up_drewN ?_ | with_reducible refine up_drew ?_ | (with_reducible refine up_alloc ?_ ?_; rotate_left; (first | omega | (simp <;> omega) | simp)) | (with_reducible refine up_set ?_ ?_; rotate_left; (first | omega | (simp <;> omega) | simp)) | (with_reducible refine Below.trans ?_ (Below.mono (by with_reducible assumption) ?_); rotate_left; (first | omega | (simp <;> omega) | simp)))) : Below w.heap.size w _) (Nat.le_refl _))).mono ?_
    rintro e w2 ⟨rfl, hb2⟩
    obtain ⟨hc2, hf2⟩ := bcell hb2; have hz2 := hb2.size
    have hz3 : w.heap.size < w2.heap.size := by omega
    go_wp2
    all_goals
      go_ret
      exact ⟨rfl, (by repeat (first | with_reducible exact Below.refl _ _ | with_reducible assumption | with_reducible refine up_drewN ?_ | with_reducible refine up_drew ?_ | (with_reducible refine up_alloc ?_ ?_; rotate_left; (first | omega | (simp <;> omega) | simp)) | (with_reducible refine up_set ?_ ?_; rotate_left; (first | omega | (simp <;> omega) | simp)) | (with_reducible refine Below.trans ?_ (Below.mono (by with_reducible assumption) ?_); rotate_left; (first | omega | (simp <;> omega) | simp))))⟩
end Go.Proofs.Ytdpbkhempgghaaa
