/-
  What john.Lift returns. Conditions: that the slice reads.
-/
import Derived.Test.YtgkiipmeigfjnaaRelax
import Derived.Test.YtgkiipmeigfjnaaAnyBad
import Derived.Test.YtgkiipmeigfjnaaNetChk
namespace Go.Proofs.Ytgkiipmeigfjnaa
open Go.RowKit
set_option linter.unusedSimpArgs false
set_option linter.unusedVariables false

def RowN {α : Type} (enc : α → List Value) (sz : Nat) (xs : List α) (n : Nat) (err : Int) (w : World) (e : Ending) (w' : World) : Prop := ∃ a c, e = .returned (.tuple #[.slice a n c, .int .i64 err]) ∧ Row enc sz w' w'.heap.size a xs ∧ Below w.heap.size w w'
theorem right_of {n : Nat} {es : List Ed} (h : netErr n es = 0) : Right n es := (netErr_ok h).2.2.2
theorem lift_says {n : Nat} {es : List Ed} (hn1 : 1 ≤ n) (hes : Right n es) : ((brelax (nes es) n ⟨fun _ => 0, fun _ => -1, -1⟩).last < 0 ↔ LI n (lift n es) = LI n (lift1 n es)) ∧ ((brelax (nes es) n ⟨fun _ => 0, fun _ => -1, -1⟩).last < 0 → LI n (brelax (nes es) n ⟨fun _ => 0, fun _ => -1, -1⟩).d = LI n (lift n es)) := by
  have h := brelax_says (es := nes es) (n := n) (s0 := fun _ => 0) (fun _ => -1) (-1) hn1 (nes_right hes) (fun v => by simp [FAR])
  exact ⟨h.1.trans li_eq.symm, fun hl => li_congr (h.2 hl)⟩
set_option maxRecDepth 100000 in
set_option maxHeartbeats 1000000 in
theorem jlift_bad (N : Int) (a : Option Addr) (cap : Nat) (es : List Ed) (w : World) (B : Nat) (hB : B ≤ w.heap.size) (hE : Row encE 3 w B a es) (hl : es.length ≤ 9223372036854775807) (h0 : netErr N es ≠ 0) :
    Calls Try.prog 103 #[.agg #[.int .i64 N, .slice a es.length cap]] w (RowN encI 1 [] 0 (netErr N es) w) := by
  have q0 : (netErr N es != 0) = true := by simp [h0]
  replace hE := hide hE
  clear h0
  go_enter Try.func103, Try.ntmps103
  go_wp2_with fail
  refine (check_any N a cap es _ B (by simp <;> omega) (hE.out.below ((by repeat (first | with_reducible exact Below.refl _ _ | with_reducible assumption | with_reducible refine up_drewN ?_ | with_reducible refine up_drew ?_ | (with_reducible refine up_alloc ?_ ?_; rotate_left; (first | omega | (simp <;> omega) | simp)) | (with_reducible refine up_set ?_ ?_; rotate_left; (first | omega | (simp <;> omega) | simp)) | (with_reducible refine Below.trans ?_ (Below.mono (by with_reducible assumption) ?_); rotate_left; (first | omega | (simp <;> omega) | simp)))) : Below w.heap.size w _) hB) hl).mono ?_
  rintro e w1 ⟨rfl, hb1⟩
  go_wp2
  go_ret2
  exact ⟨none, 0, rfl, Row.nil _ _ _ _ _, (by repeat (first | with_reducible exact Below.refl _ _ | with_reducible assumption | with_reducible refine up_drewN ?_ | with_reducible refine up_drew ?_ | (with_reducible refine up_alloc ?_ ?_; rotate_left; (first | omega | (simp <;> omega) | simp)) | (with_reducible refine up_set ?_ ?_; rotate_left; (first | omega | (simp <;> omega) | simp)) | (with_reducible refine Below.trans ?_ (Below.mono (by with_reducible assumption) ?_); rotate_left; (first | omega | (simp <;> omega) | simp))))⟩
set_option maxRecDepth 100000 in
set_option maxHeartbeats 1000000 in
theorem jlift_ok (n : Nat) (a : Option Addr) (cap : Nat) (es : List Ed) (w : World) (B : Nat) (hB : B ≤ w.heap.size) (hE : Row encE 3 w B a es) (hl : es.length ≤ 9223372036854775807) (h0 : netErr (n : Int) es = 0) (t : Bool) (ht : t = true ↔ LI n (lift n es) = LI n (lift1 n es)) :
    Calls Try.prog 103 #[.agg #[.int .i64 (n : Int), .slice a es.length cap]] w (RowN encI 1 (if t then LI n (lift n es) else []) (if t then n else 0) (if t then 0 else 6) w) := by
  obtain ⟨n1, n2, n3, n4⟩ := netErr_ok h0
  have hC := hide (show ∀ w B, _ from fun w B hB hE => by have := check_any (n : Int) a cap es w B hB hE hl; rwa [h0] at this)
  have hes := hide (right_of h0)
  have hsay := hide (lift_says (by omega) hes.out)
  replace hE := hide hE
  replace ht := hide ht
  clear h0 n4
  have hcase : (t = true ∧ (brelax (nes es) n ⟨fun _ => 0, fun _ => -1, -1⟩).last < 0) ∨ (t = false ∧ 0 ≤ (brelax (nes es) n ⟨fun _ => 0, fun _ => -1, -1⟩).last) := by
    have h1 := ht.out
    have h2 := hsay.out.1
    cases t with
    | true => exact .inl ⟨rfl, h2.2 (h1.1 rfl)⟩
    | false =>
      refine .inr ⟨rfl, ?_⟩
      rcases Int.lt_or_le (brelax (nes es) n ⟨fun _ => 0, fun _ => -1, -1⟩).last 0 with h | h
      · exact absurd (h1.2 (h2.1 h)) (by simp)
      · exact h
  obtain ⟨s, hs⟩ : ∃ s, s = brelax (nes es) n ⟨fun _ => 0, fun _ => -1, -1⟩ := ⟨_, rfl⟩
  have hlist := hide (show s.last < 0 → LI n s.d = LI n (lift n es) from by rw [hs]; exact hsay.out.2)
  rw [← hs] at hcase
  replace hs := hide hs
  rcases hcase with ⟨rfl, hlast⟩ | ⟨rfl, hlast⟩
  all_goals
    simp only [if_true, if_false, Bool.false_eq_true]
    go_enter Try.func103, Try.ntmps103
    go_wp2_with fail
    refine (hC.out _ B (by simp <;> omega) (hE.out.below ((by repeat (first | with_reducible exact Below.refl _ _ | with_reducible assumption | with_reducible refine up_drewN ?_ | with_reducible refine up_drew ?_ | (with_reducible refine up_alloc ?_ ?_; rotate_left; (first | omega | (simp <;> omega) | simp)) | (with_reducible refine up_set ?_ ?_; rotate_left; (first | omega | (simp <;> omega) | simp)) | (with_reducible refine Below.trans ?_ (Below.mono (by with_reducible assumption) ?_); rotate_left; (first | omega | (simp <;> omega) | simp)))) : Below w.heap.size w _) hB)).mono ?_
    rintro e w1 ⟨rfl, hb1⟩
    obtain ⟨hc1, hf1⟩ := bcell hb1
    have hz1 : w.heap.size < w1.heap.size := by have := hb1.size; simp at this; omega
    have hbw := hide (show Below w.heap.size w w1 from (by repeat (first | with_reducible exact Below.refl _ _ | with_reducible assumption | with_reducible refine up_drewN ?_ | with_reducible refine up_drew ?_ | (with_reducible refine up_alloc ?_ ?_; rotate_left; (first | omega | (simp <;> omega) | simp)) | (with_reducible refine up_set ?_ ?_; rotate_left; (first | omega | (simp <;> omega) | simp)) | (with_reducible refine Below.trans ?_ (Below.mono (by with_reducible assumption) ?_); rotate_left; (first | omega | (simp <;> omega) | simp)))))
    replace hb1 := hide hb1
  · go_wp2_with (at_make; (refine wpList_mk (e := 3) (enc := encI) rfl (.tmp 14) 34 rfl (.int .i64 0) 8 (0 : Int) Try.underlying34 info_int rfl rfl (n) ?e12 ?e22 ?e32 (w1.heap.size) ?e42 ?_); (case e12 => rfl); (case e22 => omega); (case e32 => unfold maxLen; omega); (case e42 => first | omega | (simp; done) | (simp; omega)); intro w2 own2 hb2 hsz2; obtain ⟨hc2, hf2⟩ := bcell hb2; replace own2 := hide own2; replace hb2 := hide hb2; clear hf1 hf2)
    have hbx := hide (hbw.out.trans (hb2.out.mono hbw.out.size))
    refine (relax_any n a cap es w1.heap.size n w1.heap.size (fun _ => 0) _ B (Nat.le_trans hB hbx.out.size) (hE.out.below hbx.out hB) (by omega) (by omega) n3 hes.out (by rw [← li_rep]; exact own2.out) (Nat.le_trans hB hbw.out.size) (low_zero.mono (by omega))).mono ?_
    rintro e w3 ⟨pv, rfl, hp3, hd3, hk3⟩
    rw [← hs.out] at hd3 ⊢
    have hd3 := hide hd3
    go_wp2
    go_ret2
    refine ⟨_, _, rfl, ?_, hbx.out.trans (hk3.toBelow (fun k hk => by have := hbw.out.size; omega) hbx.out.size)⟩
    have h := own_row hd3.out
    rw [hlist.out hlast] at h
    exact h
  · go_wp2_with (at_make; (refine wpList_mk (e := 3) (enc := encI) rfl (.tmp 14) 34 rfl (.int .i64 0) 8 (0 : Int) Try.underlying34 info_int rfl rfl (n) ?e13 ?e23 ?e33 (w1.heap.size) ?e43 ?_); (case e13 => rfl); (case e23 => omega); (case e33 => unfold maxLen; omega); (case e43 => first | omega | (simp; done) | (simp; omega)); intro w3 own3 hb3 hsz3; obtain ⟨hc3, hf3⟩ := bcell hb3; replace own3 := hide own3; replace hb3 := hide hb3; clear hf1 hf3)
    have hbx := hide (hbw.out.trans (hb3.out.mono hbw.out.size))
    refine (relax_any n a cap es w1.heap.size n w1.heap.size (fun _ => 0) _ B (Nat.le_trans hB hbx.out.size) (hE.out.below hbx.out hB) (by omega) (by omega) n3 hes.out (by rw [← li_rep]; exact own3.out) (Nat.le_trans hB hbw.out.size) (low_zero.mono (by omega))).mono ?_
    rintro e w3 ⟨pv, rfl, hp3, hd3, hk3⟩
    rw [← hs.out]
    go_wp2
    go_ret2
    exact ⟨_, _, rfl, Row.nil _ _ _ _ _, hbx.out.trans (hk3.toBelow (fun k hk => by have := hbw.out.size; omega) hbx.out.size)⟩
end Go.Proofs.Ytgkiipmeigfjnaa
