/-
  The walk of felllaw.HeurOfs: it returns true. Conditions: the arguments read as data.
-/
import Derived.Test.YtgkiipmeigfjnaaHOf
import Derived.Test.YtgkiipmeigfjnaaRMarks
import Derived.Test.YtgkiipmeigfjnaaEqL
import Derived.Test.YtgkiipmeigfjnaaOpen
namespace Go.Proofs.Ytgkiipmeigfjnaa
open Go.RowKit
set_option linter.unusedSimpArgs false
set_option linter.unusedVariables false
set_option maxRecDepth 100000 in
set_option maxHeartbeats 2000000 in
theorem walk_HeurOfs (x0 : Int) (a0 : Option Addr) (cap0 : Nat) (es0 : List Ed) (a1 : Option Addr) (cap1 : Nat) (x1 : List Int) (x2 : Int) (w : World) (b0 : Bd x0) (l0 : es0.length ≤ cap0) (m0 : cap0 ≤ maxLen) (r0 : Row encE 3 w w.heap.size a0 es0) (be0 : ∀ x ∈ es0, BdE x) (l1 : x1.length ≤ cap1) (m1 : cap1 ≤ maxLen) (r1 : Row encI 1 w w.heap.size a1 x1) (b1 : ∀ x ∈ x1, Bd x) (b2 : Bd x2) :
    Calls Try.prog 12 #[.agg #[.int .i64 x0, .slice a0 es0.length cap0], .slice a1 x1.length cap1, .int .i64 x2] w fun e w' => e = .returned (.bool true) ∧ Below w.heap.size w w' := by
  have hl : es0.length ≤ 9223372036854775807 := by unfold maxLen at m0; omega
  have hl1 : x1.length ≤ 9223372036854775807 := by unfold maxLen at m1; omega
  obtain ⟨q, hq⟩ : ∃ q, q = x1.length := ⟨_, rfl⟩
  rw [← hq] at hl1 l1 ⊢
  replace r0 := hide r0
  replace r1 := hide r1
  by_cases h0 : markErr x0 es0 x1 = 0
  · obtain ⟨p1, p2, p3⟩ := mark_ok h0
    obtain ⟨g3, g4⟩ := posErr_ok p1
    obtain ⟨n1, n2, n3, n4⟩ := netErr_ok g3
    obtain ⟨n, rfl⟩ := Int.eq_ofNat_of_zero_le (show 0 ≤ x0 by omega)
    have hes : Right n es0 := n4
    have hR := hide (fun w B hB hE hM => rmarks_ok n a0 cap0 es0 a1 cap1 q x1 hq.symm w B hB hE hM hl h0)
    by_cases h1 : lookErr (n : Int) es0 [x2] = 0
    · have g5 := (look_ok h1).2 x2 (by simp)
      obtain ⟨t, rfl⟩ := Int.eq_ofNat_of_zero_le g5.1
      have ht : t < n := by omega
      have hH := hide (fun w B hB hE hM => hof_ok n a0 cap0 es0 a1 cap1 q x1 hq.symm t w B hB hE hM hl h0 h1)
      have hL := hide (fun a2 c2 w B hB hE hP => by have := rlook_any (n : Int) a0 cap0 es0 a2 c2 1 [(t : Int)] rfl w B hB hE hP hl (by omega); rw [h1] at this; exact this)
      have hF1 := fit_from hes g4 (pl_all p3)
      have hF2 := fit_to hes g4 (pl_all p3)
      have hk1 := fromRows_len n es0 x1
      have hk2 := toRows_len n es0 x1
      unfold ofList at hH
      rw [← hq] at hk1 hk2 hH
      have hBd := hide (fun v (hv : v < n) a1 a2 c1 c2 w B hB h1 h2 => rbound_any n v t q a1 a2 c1 c2 _ _ w B hB h1 h2 hF1 hF2 hk1 hk2 (by omega) hv ht (by omega))
      generalize fromRows n es0 x1 = s1 at *
      generalize toRows n es0 x1 = s2 at *
      clear h0 h1 p1 p2 p3 g3 g4 n4 hes hF1 hF2 hk1 hk2 be0 b1 g5
      replace hq := hide hq
      go_enter Try.func12, Try.ntmps12
      go_wp2_with fail
      refine (hH.out _ w.heap.size (by simp) (r0.out.below ((by repeat (first | with_reducible exact Below.refl _ _ | with_reducible assumption | with_reducible refine up_drewN ?_ | with_reducible refine up_drew ?_ | (with_reducible refine up_alloc ?_ ?_; rotate_left; (first | omega | (simp <;> omega) | simp)) | (with_reducible refine up_set ?_ ?_; rotate_left; (first | omega | (simp <;> omega) | simp)) | (with_reducible refine Below.trans ?_ (Below.mono (by with_reducible assumption) ?_); rotate_left; (first | omega | (simp <;> omega) | simp)))) : Below w.heap.size w _) (Nat.le_refl _)) (r1.out.below ((by repeat (first | with_reducible exact Below.refl _ _ | with_reducible assumption | with_reducible refine up_drewN ?_ | with_reducible refine up_drew ?_ | (with_reducible refine up_alloc ?_ ?_; rotate_left; (first | omega | (simp <;> omega) | simp)) | (with_reducible refine up_set ?_ ?_; rotate_left; (first | omega | (simp <;> omega) | simp)) | (with_reducible refine Below.trans ?_ (Below.mono (by with_reducible assumption) ?_); rotate_left; (first | omega | (simp <;> omega) | simp)))) : Below w.heap.size w _) (Nat.le_refl _))).mono ?_
      rintro e w1 ⟨ha, hc, rfl, hr, hb1⟩
      obtain ⟨hc1, hf1⟩ := bcell hb1; have hz1 : w.heap.size < w1.heap.size := (by have := hb1.size; (try simp at this); omega)
      replace hr := hide hr
      go_wp2_with fail
      refine (hR.out _ w.heap.size (by omega) (r0.out.below ((by repeat (first | with_reducible exact Below.refl _ _ | with_reducible assumption | with_reducible refine up_drewN ?_ | with_reducible refine up_drew ?_ | (with_reducible refine up_alloc ?_ ?_; rotate_left; (first | omega | (simp <;> omega) | simp)) | (with_reducible refine up_set ?_ ?_; rotate_left; (first | omega | (simp <;> omega) | simp)) | (with_reducible refine Below.trans ?_ (Below.mono (by with_reducible assumption) ?_); rotate_left; (first | omega | (simp <;> omega) | simp)))) : Below w.heap.size w _) (Nat.le_refl _)) (r1.out.below ((by repeat (first | with_reducible exact Below.refl _ _ | with_reducible assumption | with_reducible refine up_drewN ?_ | with_reducible refine up_drew ?_ | (with_reducible refine up_alloc ?_ ?_; rotate_left; (first | omega | (simp <;> omega) | simp)) | (with_reducible refine up_set ?_ ?_; rotate_left; (first | omega | (simp <;> omega) | simp)) | (with_reducible refine Below.trans ?_ (Below.mono (by with_reducible assumption) ?_); rotate_left; (first | omega | (simp <;> omega) | simp)))) : Below w.heap.size w _) (Nat.le_refl _))).mono ?_
      rintro e w2 ⟨f1, c1, t1, c2, rfl, hF, hT, hb2⟩
      replace hF := hide hF
      replace hT := hide hT
      have hz2 : w1.heap.size ≤ w2.heap.size := hb2.size
      have hbw2 := hide (show Below w.heap.size w w2 from (by repeat (first | with_reducible exact Below.refl _ _ | with_reducible assumption | with_reducible refine up_drewN ?_ | with_reducible refine up_drew ?_ | (with_reducible refine up_alloc ?_ ?_; rotate_left; (first | omega | (simp <;> omega) | simp)) | (with_reducible refine up_set ?_ ?_; rotate_left; (first | omega | (simp <;> omega) | simp)) | (with_reducible refine Below.trans ?_ (Below.mono (by with_reducible assumption) ?_); rotate_left; (first | omega | (simp <;> omega) | simp)))))
      have j0 : w2.cell? ⟨w.heap.size, 0, none⟩ = some (.int .i64 (n : Int)) := cu_below hb2 (by rw [hc1 _ _ (by simp)]; simp [go_sem]) (by simp; omega)
      have j1 : w2.cell? ⟨w.heap.size, 1, none⟩ = some (.slice a0 es0.length cap0) := cu_below hb2 (by rw [hc1 _ _ (by simp)]; simp [go_sem]) (by simp; omega)
      have hlw := cell_lt j0
      have hr2 := hide (hr.out.below hb2 (Nat.le_refl _))
      clear hb1 hb2 hc1 hf1 hr
      go_wp2_with fail
      refine (hL.out _ _ _ (w2.heap.size + 1 + 1) (by simp) ((r0.out.below (up_alloc (up_alloc hbw2.out (by omega)) (by simp; omega)) (Nat.le_refl _)).mono (by omega)) ((row1 (by simp [go_sem])).mono (by simp))).mono ?_
      rintro e w3 ⟨rfl, hb3⟩
      have hb3' := hide (unalloc (hb3.mono (by simp)) (by simp <;> omega) : Below (w2.heap.size + 1) (w2.alloc (.cells #[.slice f1 q c1, .slice t1 q c2] 57)) w3)
      have k0 : w3.cell? ⟨w2.heap.size, 0, none⟩ = some (.slice f1 q c1) := cu_below hb3'.out (by simp [go_sem]) (by simp)
      have k1 : w3.cell? ⟨w2.heap.size, 1, none⟩ = some (.slice t1 q c2) := cu_below hb3'.out (by simp [go_sem]) (by simp)
      have hb23 := hide (unalloc (hb3'.out.mono (by omega)) (Nat.le_refl _) : Below w2.heap.size w2 w3)
      have i0 := cu_below hb23.out j0 hlw
      have hF3 := hide ((hF.out.below hb23.out (Nat.le_refl _)))
      have hT3 := hide ((hT.out.below hb23.out (Nat.le_refl _)))
      have hr3 := hide (hr2.out.below hb23.out hz2)
      have hbw := hide (show Below w.heap.size w w3 from hbw2.out.trans (hb23.out.mono hbw2.out.size))
      have hz3 : w2.heap.size < w3.heap.size := by have := cell_lt k0; simpa using this
      clear hb3 hb3' j0 j1 hF hT hR hL
      go_wp2
      go_loopw [11, 12, 44] (fun s11 _ i wr => ∃ (j : Nat) (av : Option Addr) (cv : Nat), j ≤ n ∧ i = .int .i64 j ∧ s11 = .slice av j cv ∧ Hid (Own encI 1 3 wr w3.heap.size (.slice av j cv) (LI j (fun v => bndK s1 s2 v t q))) ∧ Hid (Below w3.heap.size w3 wr)) (fun _ _ i _ => n - (intOf i).toNat)
      case atStart => exact ⟨0, none, 0, Nat.zero_le _, rfl, rfl, hide (Own.nil _ _), hide (Below.refl _ _)⟩
      case round =>
        obtain ⟨j, av, cv, hj, rfl, rfl, own, hb⟩ := hrel
        have hzr := hb.out.size
        by_cases hjl : j < n
        · have k2 := cu_below hb.out k0 (cell_lt k0)
          have k3 := cu_below hb.out k1 (cell_lt k1)
          have hlw4 := cell_lt k2
          have hF4 := hide (hF3.out.below hb.out (by omega))
          have hT4 := hide (hT3.out.below hb.out (by omega))
          clear k0 k1
          go_wp2_with fail
          refine (hBd.out j hjl _ _ _ _ _ w2.heap.size (by omega) hF4.out hT4.out).mono ?_
          rintro e w8 ⟨rfl, hb8⟩
          have own8 := hide (own.out.stays hb8)
          have hz8 := hb8.size
          have hb9 := hide (hb.out.trans (hb8.mono hzr))
          clear hb8 k2 k3
          go_wp2_with (at_builtin; (refine wpList_push (e := 3) (enc := encI) (xs := LI j (fun v => bndK s1 s2 v t q)) (v := .slice av (j) cv) (base := w3.heap.size) rfl (.tmp 47) (.tmp 52) 34 rfl _ 8 Try.underlying34 info_int rfl ?d11 lenI oneI (j) ?d21 ?d31 ?d41 ⟨w8.heap.size, 0, none⟩ 1 (bndK s1 s2 j t q) ?d51 ?d61 ?d71 ?d81 ?d91 ?_); (case d11 => omega); (case d21 => exact li_len _ _); (case d31 => rfl); (case d41 => exact own8.out.alloc _); (case d51 => rfl); (case d61 => exact newI _ _ _ _ rfl); (case d71 => omega); (case d81 => unfold maxLen; omega); (case d91 => first | omega | (simp; done) | (simp; omega)); intro g1 c1 w1 own1 hb1 hgr1 hg1 hgl1; have hB1 := hide (unalloc hb1 (by omega)); replace own1 := hide own1; replace hb1 := hide hb1; replace hgr1 := hide hgr1)
          go_roundw
          case rel => exact ⟨j + 1, _, _, by omega, by go_num, rfl, hide (by rw [li_succ]; exact own1.out), hide (hb9.out.trans hB1.out)⟩
          case measure => simp [intOf]; omega
        · obtain rfl : n = j := by omega
          have hr8 := hide (own_row own.out)
          have hr9 := hide (hr3.out.below hb.out (by omega))
          go_wp2_with fail
          refine (eqI _ _ _ _ n n _ _ _ _ _ (li_len _ _) (li_len _ _) hr9.out hr8.out (by omega) (by omega) true (by simp)).mono ?_
          rintro e w11 ⟨rfl, m2, rfl⟩
          go_wp2
          go_ret
          exact ⟨rfl, up_drewN (hbw.out.trans (hb.out.mono hbw.out.size))⟩
    · have q0 : (lookErr (n : Int) es0 [x2] != 0) = true := by simp [h1]
      have hH := hide (fun w B hB hE hM => hof_look n a0 cap0 es0 a1 cap1 q x1 hq.symm x2 w B hB hE hM hl h0 h1)
      have hL := hide (fun a2 c2 w B hB hE hP => rlook_any (n : Int) a0 cap0 es0 a2 c2 1 [x2] rfl w B hB hE hP hl (by omega))
      clear h0 h1 p1 p2 p3 g3 g4 n4 hes be0 b1
      replace hq := hide hq
      go_enter Try.func12, Try.ntmps12
      go_wp2_with fail
      refine (hH.out _ w.heap.size (by simp) (r0.out.below ((by repeat (first | with_reducible exact Below.refl _ _ | with_reducible assumption | with_reducible refine up_drewN ?_ | with_reducible refine up_drew ?_ | (with_reducible refine up_alloc ?_ ?_; rotate_left; (first | omega | (simp <;> omega) | simp)) | (with_reducible refine up_set ?_ ?_; rotate_left; (first | omega | (simp <;> omega) | simp)) | (with_reducible refine Below.trans ?_ (Below.mono (by with_reducible assumption) ?_); rotate_left; (first | omega | (simp <;> omega) | simp)))) : Below w.heap.size w _) (Nat.le_refl _)) (r1.out.below ((by repeat (first | with_reducible exact Below.refl _ _ | with_reducible assumption | with_reducible refine up_drewN ?_ | with_reducible refine up_drew ?_ | (with_reducible refine up_alloc ?_ ?_; rotate_left; (first | omega | (simp <;> omega) | simp)) | (with_reducible refine up_set ?_ ?_; rotate_left; (first | omega | (simp <;> omega) | simp)) | (with_reducible refine Below.trans ?_ (Below.mono (by with_reducible assumption) ?_); rotate_left; (first | omega | (simp <;> omega) | simp)))) : Below w.heap.size w _) (Nat.le_refl _))).mono ?_
      rintro e w1 ⟨ha, hc, rfl, hr, hb1⟩
      obtain ⟨hc1, hf1⟩ := bcell hb1; have hz1 : w.heap.size < w1.heap.size := (by have := hb1.size; (try simp at this); omega)
      go_wp2_with fail
      refine (hR.out _ w.heap.size (by omega) (r0.out.below ((by repeat (first | with_reducible exact Below.refl _ _ | with_reducible assumption | with_reducible refine up_drewN ?_ | with_reducible refine up_drew ?_ | (with_reducible refine up_alloc ?_ ?_; rotate_left; (first | omega | (simp <;> omega) | simp)) | (with_reducible refine up_set ?_ ?_; rotate_left; (first | omega | (simp <;> omega) | simp)) | (with_reducible refine Below.trans ?_ (Below.mono (by with_reducible assumption) ?_); rotate_left; (first | omega | (simp <;> omega) | simp)))) : Below w.heap.size w _) (Nat.le_refl _)) (r1.out.below ((by repeat (first | with_reducible exact Below.refl _ _ | with_reducible assumption | with_reducible refine up_drewN ?_ | with_reducible refine up_drew ?_ | (with_reducible refine up_alloc ?_ ?_; rotate_left; (first | omega | (simp <;> omega) | simp)) | (with_reducible refine up_set ?_ ?_; rotate_left; (first | omega | (simp <;> omega) | simp)) | (with_reducible refine Below.trans ?_ (Below.mono (by with_reducible assumption) ?_); rotate_left; (first | omega | (simp <;> omega) | simp)))) : Below w.heap.size w _) (Nat.le_refl _))).mono ?_
      rintro e w2 ⟨f1, c1, t1, c2, rfl, _, _, hb2⟩
      have hz2 : w1.heap.size ≤ w2.heap.size := hb2.size
      have hbw2 := hide (show Below w.heap.size w w2 from (by repeat (first | with_reducible exact Below.refl _ _ | with_reducible assumption | with_reducible refine up_drewN ?_ | with_reducible refine up_drew ?_ | (with_reducible refine up_alloc ?_ ?_; rotate_left; (first | omega | (simp <;> omega) | simp)) | (with_reducible refine up_set ?_ ?_; rotate_left; (first | omega | (simp <;> omega) | simp)) | (with_reducible refine Below.trans ?_ (Below.mono (by with_reducible assumption) ?_); rotate_left; (first | omega | (simp <;> omega) | simp)))))
      have j0 : w2.cell? ⟨w.heap.size, 0, none⟩ = some (.int .i64 (n : Int)) := cu_below hb2 (by rw [hc1 _ _ (by simp)]; simp [go_sem]) (by simp; omega)
      have j1 : w2.cell? ⟨w.heap.size, 1, none⟩ = some (.slice a0 es0.length cap0) := cu_below hb2 (by rw [hc1 _ _ (by simp)]; simp [go_sem]) (by simp; omega)
      have hlw := cell_lt j0
      clear hb1 hb2 hc1 hf1
      go_wp2_with fail
      refine (hL.out _ _ _ (w2.heap.size + 1 + 1) (by simp) ((r0.out.below (up_alloc (up_alloc hbw2.out (by omega)) (by simp; omega)) (Nat.le_refl _)).mono (by omega)) ((row1 (by simp [go_sem])).mono (by simp))).mono ?_
      rintro e w3 ⟨rfl, hb3⟩
      go_wp2
      go_ret
      exact ⟨rfl, (up_alloc (up_alloc hbw2.out (by omega)) (by simp; omega)).trans (hb3.mono (by simp; omega))⟩
  · have q0 : (markErr x0 es0 x1 != 0) = true := by simp [h0]
    have q1 : (markErr x0 es0 x1 == 0) = false := by simp [h0]
    have hH := hide (fun w B hB hE hM => hof_mark x0 a0 cap0 es0 a1 cap1 q x1 hq.symm x2 w B hB hE hM hl hl1 h0)
    have hR := hide (fun w B hB hE hM => rmarks_bad x0 a0 cap0 es0 a1 cap1 q x1 hq.symm w B hB hE hM hl hl1 h0)
    clear h0 be0 b1
    replace hq := hide hq
    go_enter Try.func12, Try.ntmps12
    go_wp2_with fail
    refine (hH.out _ w.heap.size (by simp) (r0.out.below ((by repeat (first | with_reducible exact Below.refl _ _ | with_reducible assumption | with_reducible refine up_drewN ?_ | with_reducible refine up_drew ?_ | (with_reducible refine up_alloc ?_ ?_; rotate_left; (first | omega | (simp <;> omega) | simp)) | (with_reducible refine up_set ?_ ?_; rotate_left; (first | omega | (simp <;> omega) | simp)) | (with_reducible refine Below.trans ?_ (Below.mono (by with_reducible assumption) ?_); rotate_left; (first | omega | (simp <;> omega) | simp)))) : Below w.heap.size w _) (Nat.le_refl _)) (r1.out.below ((by repeat (first | with_reducible exact Below.refl _ _ | with_reducible assumption | with_reducible refine up_drewN ?_ | with_reducible refine up_drew ?_ | (with_reducible refine up_alloc ?_ ?_; rotate_left; (first | omega | (simp <;> omega) | simp)) | (with_reducible refine up_set ?_ ?_; rotate_left; (first | omega | (simp <;> omega) | simp)) | (with_reducible refine Below.trans ?_ (Below.mono (by with_reducible assumption) ?_); rotate_left; (first | omega | (simp <;> omega) | simp)))) : Below w.heap.size w _) (Nat.le_refl _))).mono ?_
    rintro e w1 ⟨ha, hc, rfl, hr, hb1⟩
    obtain ⟨hc1, hf1⟩ := bcell hb1; have hz1 : w.heap.size < w1.heap.size := (by have := hb1.size; (try simp at this); omega)
    go_wp2_with fail
    refine (hR.out _ w.heap.size (by omega) (r0.out.below ((by repeat (first | with_reducible exact Below.refl _ _ | with_reducible assumption | with_reducible refine up_drewN ?_ | with_reducible refine up_drew ?_ | (with_reducible refine up_alloc ?_ ?_; rotate_left; (first | omega | (simp <;> omega) | simp)) | (with_reducible refine up_set ?_ ?_; rotate_left; (first | omega | (simp <;> omega) | simp)) | (with_reducible refine Below.trans ?_ (Below.mono (by with_reducible assumption) ?_); rotate_left; (first | omega | (simp <;> omega) | simp)))) : Below w.heap.size w _) (Nat.le_refl _)) (r1.out.below ((by repeat (first | with_reducible exact Below.refl _ _ | with_reducible assumption | with_reducible refine up_drewN ?_ | with_reducible refine up_drew ?_ | (with_reducible refine up_alloc ?_ ?_; rotate_left; (first | omega | (simp <;> omega) | simp)) | (with_reducible refine up_set ?_ ?_; rotate_left; (first | omega | (simp <;> omega) | simp)) | (with_reducible refine Below.trans ?_ (Below.mono (by with_reducible assumption) ?_); rotate_left; (first | omega | (simp <;> omega) | simp)))) : Below w.heap.size w _) (Nat.le_refl _))).mono ?_
    rintro e w2 ⟨f1, c1, t1, c2, rfl, _, _, hb2⟩
    have hz2 : w1.heap.size ≤ w2.heap.size := hb2.size
    go_wp2
    go_ret
    exact ⟨rfl, (by repeat (first | with_reducible exact Below.refl _ _ | with_reducible assumption | with_reducible refine up_drewN ?_ | with_reducible refine up_drew ?_ | (with_reducible refine up_alloc ?_ ?_; rotate_left; (first | omega | (simp <;> omega) | simp)) | (with_reducible refine up_set ?_ ?_; rotate_left; (first | omega | (simp <;> omega) | simp)) | (with_reducible refine Below.trans ?_ (Below.mono (by with_reducible assumption) ?_); rotate_left; (first | omega | (simp <;> omega) | simp))))⟩
end Go.Proofs.Ytgkiipmeigfjnaa
