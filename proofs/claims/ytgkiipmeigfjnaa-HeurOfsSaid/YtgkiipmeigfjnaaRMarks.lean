/-
  What the reference's Marks returns. Conditions: that the slices read.
-/
import Derived.Test.YtgkiipmeigfjnaaHMarks
namespace Go.Proofs.Ytgkiipmeigfjnaa
open Go.RowKit
set_option linter.unusedSimpArgs false
set_option linter.unusedVariables false
set_option maxRecDepth 100000 in
set_option maxHeartbeats 1000000 in
theorem rmarks_bad (N : Int) (a : Option Addr) (cap : Nat) (es : List Ed) (am : Option Addr) (cm q : Nat) (ms : List Int) (hq : ms.length = q) (w : World) (B : Nat) (hB : B ≤ w.heap.size) (hE : Row encE 3 w B a es) (hM : Row encI 1 w B am ms) (hl : es.length ≤ 9223372036854775807) (hl2 : q ≤ 9223372036854775807) (h0 : markErr N es ms ≠ 0) :
    Calls Try.prog 38 #[.agg #[.int .i64 N, .slice a es.length cap], .slice am q cm] w (Tabs2Back [] [] 0 0 (markErr N es ms) w) := by
  have hC := hide (fun w hB hE => rpos_any N a cap es w B hB hE hl)
  have hL := hide (fun w hB hE hP => rlook_any N a cap es am cm q ms hq w B hB hE hP hl hl2)
  replace hE := hide hE
  replace hM := hide hM
  by_cases hp : posErr N es = 0
  · by_cases h4 : 4 < q
    · have hr : Hid (markErr N es ms = 2) := by simp only [Hid, markErr]; rw [if_neg (by simp [hp]), if_pos (by omega)]
      rw [hp] at hC
      clear h0 hp
      go_enter Try.func38, Try.ntmps38
      have hMB0 := hide (MB.start w N a es.length cap)
      go_wp2_with fail
      refine (hC.out _ (by simp; omega) (hE.out.below ((by repeat (first | with_reducible exact Below.refl _ _ | with_reducible assumption | with_reducible refine up_drewN ?_ | with_reducible refine up_drew ?_ | (with_reducible refine up_alloc ?_ ?_; rotate_left; (first | omega | (simp <;> omega) | simp)) | (with_reducible refine up_set ?_ ?_; rotate_left; (first | omega | (simp <;> omega) | simp)) | (with_reducible refine Below.trans ?_ (Below.mono (by with_reducible assumption) ?_); rotate_left; (first | omega | (simp <;> omega) | simp)))) : Below w.heap.size w _) hB)).mono ?_
      rintro e w1 ⟨rfl, hb1⟩
      have hMB1 := hide (hMB0.out.stays hb1 (by simp))
      obtain ⟨k0, k1, r0, r1, f0, f1, _⟩ := hMB1.out
      have hz := hMB1.out.lt
      clear hb1
      go_wp2
      rw [hr.out]
      refine bodyPost_ret (v := .tuple #[.agg #[.slice none 0 0, .slice none 0 0], .int .i64 2]) (by simp [results, Try.results38, go_sem, r0, r1, f0, f1]) rfl ⟨_, _, _, _, rfl, (fun i h => by cases h), (fun i h => by cases h), ?_⟩
      exact (hMB1.out.bel.setCell (by simp) _).setCell (by simp) _
    · have hr : Hid (markErr N es ms = lookErr N es ms) := by simp only [Hid, markErr, lookErr]; rw [if_neg (by simp [hp]), if_neg (by omega), if_neg (by simp [hp])]
      have q0 : (lookErr N es ms != 0) = true := by rw [← hr.out]; simp [h0]
      rw [hp] at hC
      clear h0 hp
      go_enter Try.func38, Try.ntmps38
      have hMB0 := hide (MB.start w N a es.length cap)
      go_wp2_with fail
      refine (hC.out _ (by simp; omega) (hE.out.below ((by repeat (first | with_reducible exact Below.refl _ _ | with_reducible assumption | with_reducible refine up_drewN ?_ | with_reducible refine up_drew ?_ | (with_reducible refine up_alloc ?_ ?_; rotate_left; (first | omega | (simp <;> omega) | simp)) | (with_reducible refine up_set ?_ ?_; rotate_left; (first | omega | (simp <;> omega) | simp)) | (with_reducible refine Below.trans ?_ (Below.mono (by with_reducible assumption) ?_); rotate_left; (first | omega | (simp <;> omega) | simp)))) : Below w.heap.size w _) hB)).mono ?_
      rintro e w1 ⟨rfl, hb1⟩
      have hMB1 := hide (hMB0.out.stays hb1 (by simp))
      obtain ⟨k0, k1, r0, r1, f0, f1, _⟩ := hMB1.out
      have hz := hMB1.out.lt
      clear hb1
      go_wp2_with fail
      refine (hL.out _ (by omega) (hE.out.below hMB1.out.bel hB) (hM.out.below hMB1.out.bel hB)).mono ?_
      rintro e w2 ⟨rfl, hb2⟩
      have hMB2 := hide (hMB1.out.stays hb2 hz)
      clear k0 k1 r0 r1 f0 f1 hb2 hz
      obtain ⟨k0, k1, r0, r1, f0, f1, _⟩ := hMB2.out
      have hz := hMB2.out.lt
      go_wp2
      rw [hr.out]
      refine bodyPost_ret (v := .tuple #[.agg #[.slice none 0 0, .slice none 0 0], .int .i64 (lookErr N es ms)]) (by simp [results, Try.results38, go_sem, r0, r1, f0, f1]) rfl ⟨_, _, _, _, rfl, (fun i h => by cases h), (fun i h => by cases h), ?_⟩
      exact (hMB2.out.bel.setCell (by simp) _).setCell (by simp) _
  · have hr : Hid (markErr N es ms = posErr N es) := by simp only [Hid, markErr]; rw [if_pos hp]
    have q0 : (posErr N es != 0) = true := by simp [hp]
    clear h0 hp
    go_enter Try.func38, Try.ntmps38
    have hMB0 := hide (MB.start w N a es.length cap)
    go_wp2_with fail
    refine (hC.out _ (by simp; omega) (hE.out.below ((by repeat (first | with_reducible exact Below.refl _ _ | with_reducible assumption | with_reducible refine up_drewN ?_ | with_reducible refine up_drew ?_ | (with_reducible refine up_alloc ?_ ?_; rotate_left; (first | omega | (simp <;> omega) | simp)) | (with_reducible refine up_set ?_ ?_; rotate_left; (first | omega | (simp <;> omega) | simp)) | (with_reducible refine Below.trans ?_ (Below.mono (by with_reducible assumption) ?_); rotate_left; (first | omega | (simp <;> omega) | simp)))) : Below w.heap.size w _) hB)).mono ?_
    rintro e w1 ⟨rfl, hb1⟩
    have hMB1 := hide (hMB0.out.stays hb1 (by simp))
    obtain ⟨k0, k1, r0, r1, f0, f1, _⟩ := hMB1.out
    have hz := hMB1.out.lt
    clear hb1
    go_wp2
    rw [hr.out]
    refine bodyPost_ret (v := .tuple #[.agg #[.slice none 0 0, .slice none 0 0], .int .i64 (posErr N es)]) (by simp [results, Try.results38, go_sem, r0, r1, f0, f1]) rfl ⟨_, _, _, _, rfl, (fun i h => by cases h), (fun i h => by cases h), ?_⟩
    exact (hMB1.out.bel.setCell (by simp) _).setCell (by simp) _
set_option maxRecDepth 100000 in
set_option maxHeartbeats 4000000 in
theorem rmarks_ok (n : Nat) (a : Option Addr) (cap : Nat) (es : List Ed) (am : Option Addr) (cm q : Nat) (ms : List Int) (hq : ms.length = q) (w : World) (B : Nat) (hB : B ≤ w.heap.size) (hE : Row encE 3 w B a es) (hM : Row encI 1 w B am ms) (hl : es.length ≤ 9223372036854775807) (h0 : markErr (n : Int) es ms = 0) :
    Calls Try.prog 38 #[.agg #[.int .i64 (n : Int), .slice a es.length cap], .slice am q cm] w (Tabs2Back (fromRows n es ms) (toRows n es ms) q n 0 w) := by
  obtain ⟨p1, p2, p3⟩ := mark_ok h0
  obtain ⟨g3, g4⟩ := posErr_ok p1
  obtain ⟨n1, n2, n3, n4⟩ := netErr_ok g3
  have hes : Right n es := n4
  have hp3 := hide (pl_all p3)
  have hq4 : q ≤ 4 := by omega
  have hC := hide (fun w hB hE => by have := rpos_any (n : Int) a cap es w B hB hE hl; rw [p1] at this; exact this)
  have hL := hide (fun w hB hE hP => by have := rlook_any (n : Int) a cap es am cm q ms hq w B hB hE hP hl (by omega); rw [show lookErr (n : Int) es ms = 0 by unfold lookErr; rw [if_neg (by simp [p1])]; exact p3] at this; exact this)
  have hR1 := hide (fun v (hv : v < n) w B hB hE => rdist_new n a cap es v w B hB hE (by omega) (by omega) n3 hes hv)
  replace hE := hide hE
  replace hM := hide hM
  replace hq := hide hq
  clear h0 p1 p2 p3 g3 g4 n4 hes
  go_enter Try.func38, Try.ntmps38
  have hMB0 := hide (MB.start w (n : Int) a es.length cap)
  go_wp2_with fail
  refine (hC.out _ (by simp; omega) (hE.out.below ((by repeat (first | with_reducible exact Below.refl _ _ | with_reducible assumption | with_reducible refine up_drewN ?_ | with_reducible refine up_drew ?_ | (with_reducible refine up_alloc ?_ ?_; rotate_left; (first | omega | (simp <;> omega) | simp)) | (with_reducible refine up_set ?_ ?_; rotate_left; (first | omega | (simp <;> omega) | simp)) | (with_reducible refine Below.trans ?_ (Below.mono (by with_reducible assumption) ?_); rotate_left; (first | omega | (simp <;> omega) | simp)))) : Below w.heap.size w _) hB)).mono ?_
  rintro e w1 ⟨rfl, hb1⟩
  have hMB1 := hide (hMB0.out.stays hb1 (by simp))
  obtain ⟨k0, k1, _, _, _, _, _⟩ := hMB1.out
  have hz := hMB1.out.lt
  clear hb1 hC
  go_wp2_with fail
  refine (hL.out _ (by omega) (hE.out.below hMB1.out.bel hB) (hM.out.below hMB1.out.bel hB)).mono ?_
  rintro e w3 ⟨rfl, hb2⟩
  have hMBD := hide (hMB1.out.stays hb2 hz)
  clear k0 k1 hb2 hz hMB1 hMB0 hL
  have hz3 := hMBD.out.lt
  have hTw0 := hide (Tw.start 57 34 w3.heap.size w3 rfl n)
  obtain ⟨k0, k1, _, _, _, _, _⟩ := hMBD.out
  go_wp2
  generalize (w3.alloc (.cells #[.slice none 0 0, .slice none 0 0] 57)) = wS at hTw0 ⊢
  clear k0 k1
  go_loopw [10, 11, 12, 32] (fun _ _ _ i wr => ∃ (k : Nat) (x1 x2 : Option Addr) (d1 d2 : Nat) (ts1 ts2 : List S3), k ≤ q ∧ i = .int .i64 k ∧ Hid (Tw 34 w3.heap.size w3 n (.slice x1 k d1) (.slice x2 k d2) ts1 ts2 (fromRows n es (ms.take k)) (toRows n es (ms.take k)) wr)) (fun _ _ _ i _ => q - (intOf i).toNat)
  case atStart => exact ⟨0, none, none, 0, 0, [], [], Nat.zero_le _, rfl, hTw0⟩
  case round =>
    obtain ⟨k, x1, x2, d1, d2, ts1, ts2, hk, rfl, hTw⟩ := hrel
    clear hTw0
    have hDr := hTw.out.lt
    have hMr := hide (hMBD.out.stays hTw.out.bel (by omega))
    have hbr := hide hTw.out.bel
    by_cases hlt : k < q
    · have hkm : k < ms.length := by rw [hq.out]; exact hlt
      have hu0 := hp3.out _ (List.getElem_mem hkm)
      obtain ⟨u, hu⟩ := Int.eq_ofNat_of_zero_le hu0.1
      have hun : u < n := by omega
      obtain ⟨bm, om, rfl, hbm, m0⟩ := hM.out.int k hkm
      have m1 := cu_below hMr.out.bel m0 (by simp; omega)
      have hbml := cell_lt m1
      rw [hu] at m1
      have hF1 := hide (fromRows_take (n := n) (es := es) hkm hu)
      have hF2 := hide (toRows_take (n := n) (es := es) hkm hu)
      have hl1 := hide (show ts1.length = k by have := hTw.out.t1.1; rw [fromRows_len, List.length_take] at this; omega)
      have hl2 := hide (show ts2.length = k by have := hTw.out.t2.1; rw [toRows_len, List.length_take] at this; omega)
      replace hu := hide hu
      obtain ⟨k0, k1, _, _, _, _, _⟩ := hMr.out
      have t0 := hTw.out.c0
      have ik : (0 : Int) ≤ (k : Int) ∧ (k : Int) < (q : Int) := by omega
      have hRk := hide (fun w' (hb : Below wr.heap.size wr w') => hR1.out u hun w' B (Nat.le_trans (Nat.le_trans hB hMr.out.bel.size) hb.size) (hE.out.below (hMr.out.bel.trans (hb.mono hMr.out.bel.size)) hB))
      clear m0 hu0
      go_wp2
      go_region_law (first
        | (go_simp; go_at_call 58; refine (hRk.out _ (by first | exact below_drew _ | exact Below.refl _ _)).mono ?_; rintro e w5 ⟨g5, c5, rfl, hr5, hb5, hg5, hl5⟩; have hg5 := (show wr.heap.size ≤ g5 by simpa using hg5); have hb5 := below_step (by first | exact below_drew _ | exact Below.refl _ _) hb5; have hr5 := hide hr5; have hTw5 := hide (hTw.out.stays hb5); have t1 := hTw5.out.c0; have t2 := hTw5.out.f0; have hDr5 := hTw5.out.lt)
        | (refine step_pushL (base := w3.heap.size + 1) (e := 34) (enc := encS) (xs := ts1) (v := .slice x1 k d1) rfl (.tmp 37) (.tmp 41) 30 rfl _ 24 Try.underlying30 info_row rfl (by omega) lenS oneS k hl1.out rfl ?_ ⟨w5.heap.size, 0, none⟩ 1 ⟨some ⟨g5, 0, none⟩, n, c5⟩ rfl (newS _ _ _ _ (by simp)) (by omega) (by unfold maxLen; omega) ?_ ?_; (next => first | exact (hTw5.out.alloc _).t1.2.1 | exact (hTw5.out.alloc _).drew.t1.2.1 | exact (hTw5.out.drew.alloc _).t1.2.1); (next => first | omega | (simp; omega)); intro g6 c6 w6 own6 hb6 hg6 hat6 hlt6; have hk6 := hg6.cell (a := ⟨w3.heap.size, 0, none⟩) (v := .slice x1 k d1) (by first | exact cu_alloc t1 | exact cu_drew (cu_alloc t1)) (fun e => hTw5.out.ap1 e.symm); have hf6 := (hg6.frozen_far ⟨w3.heap.size, 0, none⟩ (by simp; omega) (fun e => hTw5.out.ap1 e.symm)).trans (by first | exact fu_alloc t2 | exact fu_drew (fu_alloc t2)); have hTw6 := hide (show Tw 34 w3.heap.size w3 n (.slice (some ⟨g6, 0, none⟩) (k + 1) c6) (.slice x2 k d2) (ts1 ++ [⟨some ⟨g5, 0, none⟩, n, c5⟩]) ts2 (fromRows n es (ms.take (k + 1))) (toRows n es (ms.take k)) (w6.setCell ⟨w3.heap.size, 0, none⟩ (.slice (some ⟨g6, 0, none⟩) (k + 1) c6)) from by rw [hF1.out]; exact hTw5.out.push1 hr5.out (by omega) (fun e => by have := (hTw.out.t1.2.1.block_lt g5 e).2; omega) (fun e => by have := (hTw.out.t2.2.1.block_lt g5 e).2; omega) hl5 own6 hg6 (fun j hj => by simp only [Value.ownBlock, Option.some.injEq] at hj; subst hj; rcases hat6 with h | h; exact .inl h; right; rw [h]; simp))))
      all_goals
        generalize (w6.setCell ⟨w3.heap.size, 0, none⟩ (.slice (some ⟨g6, 0, none⟩) (k + 1) c6)) = w7 at hTw6 ⊢
        clear own6 hg6 hat6 hlt6 hk6 hf6 hr5 hTw5 t1 t2 hDr5 hb5 hg5 hl5 hRk k0 k1 t0 hb6
        have hD7 := hTw6.out.lt
        have hM7 := hide (hMBD.out.stays hTw6.out.bel (by omega))
        obtain ⟨k0, k1, _, _, _, _, _⟩ := hM7.out
        have hRk := hide (fun v (hv : v < n) w' (hb : Below w7.heap.size w7 w') => hR1.out v hv w' B (Nat.le_trans (Nat.le_trans hB hM7.out.bel.size) hb.size) (hE.out.below (hM7.out.bel.trans (hb.mono hM7.out.bel.size)) hB))
        clear hDr hMr hbr m1 hbml
        go_wp2
        go_loopw [11, 12, 46] (fun s11 _ i wr => ∃ (j : Nat) (av : Option Addr) (cv : Nat), j ≤ n ∧ i = .int .i64 j ∧ s11 = .slice av j cv ∧ Hid (Own encI 1 3 wr w7.heap.size (.slice av j cv) (LI j (fun v => distF n es v u))) ∧ Hid (Below w7.heap.size w7 wr)) (fun _ _ i _ => n - (intOf i).toNat)
        case atStart => exact ⟨0, none, 0, Nat.zero_le _, rfl, rfl, hide (Own.nil _ _), hide (Below.refl _ _)⟩
        case round =>
          obtain ⟨j, av, cv, hj, rfl, rfl, own, hb⟩ := hrel
          have hzr := hb.out.size
          by_cases hjl : j < n
          · have k2 := cu_below hb.out k0 (cell_lt k0)
            have k3 := cu_below hb.out k1 (cell_lt k1)
            have hlw : w.heap.size < wr.heap.size := by have := cell_lt k2; simpa using this
            clear k0 k1
            go_wp2_with fail
            refine (hRk.out j hjl _ hb.out).mono ?_
            rintro e w8 ⟨g8, c8, rfl, hr8, hb8, hg8, hl8⟩
            obtain ⟨b', o', e1, _, h1⟩ := hr8.atI u hun
            simp only [Option.some.injEq, Addr.mk.injEq] at e1
            obtain ⟨rfl, rfl, _⟩ := e1
            rw [Nat.zero_add] at h1
            have own8 := hide (own.out.stays hb8)
            have hz8 := hb8.size
            have hb9 := hide (hb.out.trans (hb8.mono hzr))
            have iu : (0 : Int) ≤ (u : Int) ∧ (u : Int) < (n : Int) := by omega
            clear hr8 hb8 k2 k3
            go_wp2_with (at_builtin; (refine wpList_push (e := 3) (enc := encI) (xs := LI j (fun v => distF n es v u)) (v := .slice av (j) cv) (base := w7.heap.size) rfl (.tmp 49) (.tmp 56) 34 rfl _ 8 Try.underlying34 info_int rfl ?d11 lenI oneI (j) ?d21 ?d31 ?d41 ⟨w8.heap.size, 0, none⟩ 1 (distF n es j u) ?d51 ?d61 ?d71 ?d81 ?d91 ?_); (case d11 => omega); (case d21 => exact li_len _ _); (case d31 => rfl); (case d41 => exact own8.out.alloc _); (case d51 => rfl); (case d61 => exact newI _ _ _ _ rfl); (case d71 => omega); (case d81 => unfold maxLen; omega); (case d91 => first | omega | (simp; done) | (simp; omega)); intro g1 c1 w1 own1 hb1 hgr1 hg1 hgl1; have hB1 := hide (unalloc hb1 (by omega)); replace own1 := hide own1; replace hb1 := hide hb1; replace hgr1 := hide hgr1)
            go_roundw
            case rel => exact ⟨j + 1, _, _, by omega, by go_num, rfl, hide (by rw [li_succ]; exact own1.out), hide (hb9.out.trans hB1.out)⟩
            case measure => simp [intOf]; omega
          · obtain rfl : n = j := by omega
            have hTw8 := hide (hTw6.out.stays hb.out)
            obtain ⟨g8, rfl, hg8, hl8⟩ := own.out.blockI (by omega)
            have hr8 := hide (own_row own.out)
            have t0 := hTw8.out.c1
            have f0 := hTw8.out.f1
            have hD8 := hTw8.out.lt
            have hap2 := hide hTw8.out.ap2
            go_wp2_with (at_builtin; (refine wpList_pushL (e := 34) (enc := encS) (xs := ts2) (v := .slice x2 (k) d2) (base := w3.heap.size + 1) rfl (.tmp 60) (.tmp 62) 30 rfl _ 24 Try.underlying30 info_row rfl ?d12 lenS oneS (k) ?d22 ?d32 ?d42 ⟨wr.heap.size, 0, none⟩ 1 ⟨some ⟨g8, 0, none⟩, n, cv⟩ ?d52 ?d62 ?d72 ?d82 ?d92 ?_); (case d12 => omega); (case d22 => exact hl2.out); (case d32 => rfl); (case d42 => exact (hTw8.out.alloc _).t2.2.1); (case d52 => rfl); (case d62 => exact newS _ _ _ _ rfl); (case d72 => omega); (case d82 => unfold maxLen; omega); (case d92 => first | omega | (simp; done) | (simp; omega)); intro g2 c2 w2 own2 hb2 hgr2 hat2 hgl2; have hk9 := hgr2.cell (a := ⟨w3.heap.size, 1, none⟩) (v := .slice x2 k d2) (cu_alloc t0) (fun e => hap2.out e.symm); have hf9 := (hgr2.frozen_far ⟨w3.heap.size, 1, none⟩ (by simp; omega) (fun e => hap2.out e.symm)).trans (fu_alloc f0); replace own2 := hide own2; replace hb2 := hide hb2; replace hgr2 := hide hgr2; replace hat2 := hide hat2)
            have hTw9 := hide (show Tw 34 w3.heap.size w3 n (.slice (some ⟨g6, 0, none⟩) (k + 1) c6) (.slice (some ⟨g2, 0, none⟩) (k + 1) c2) (ts1 ++ [⟨some ⟨g5, 0, none⟩, n, c5⟩]) (ts2 ++ [⟨some ⟨g8, 0, none⟩, n, cv⟩]) (fromRows n es (ms.take (k + 1))) (toRows n es (ms.take (k + 1))) (w2.setCell ⟨w3.heap.size, 1, none⟩ (.slice (some ⟨g2, 0, none⟩) (k + 1) c2)) from by rw [hF2.out]; exact hTw8.out.push2 hr8.out (by omega) (fun e => by have := (hTw6.out.t1.2.1.block_lt g8 e).2; omega) (fun e => by have := (hTw6.out.t2.2.1.block_lt g8 e).2; omega) hl8 own2.out hgr2.out (fun j hj => by simp only [Value.ownBlock, Option.some.injEq] at hj; subst hj; rcases hat2.out with h | h; exact .inl h; right; rw [h]; simp))
            go_roundw
            case rel => exact ⟨k + 1, _, _, _, _, _, _, by omega, by go_num, hTw9⟩
            case measure => simp [intOf]; omega
    · obtain rfl : k = q := by omega
      obtain ⟨_, _, r0, r1, f0, f1, _⟩ := hMr.out
      have t0 := hTw.out.c0
      have t1 := hTw.out.c1
      have hkeep : ∀ v1 v2 : Value, Keep (fun j => j = w.heap.size + 1) wr ((wr.setCell ⟨w.heap.size + 1, 0, none⟩ v1).setCell ⟨w.heap.size + 1, 1, none⟩ v2) := fun v1 v2 => ((Keep.refl (fun j => j = w.heap.size + 1) wr).setCell (.inl rfl) _).setCell (.inl rfl) _
      have hT := hide (hTw.out.tabs (show w.heap.size + 1 < w3.heap.size by omega) (hkeep (.slice x1 k d1) (.slice x2 k d2)))
      have hBl := hide (show Below w.heap.size w ((wr.setCell ⟨w.heap.size + 1, 0, none⟩ (.slice x1 k d1)).setCell ⟨w.heap.size + 1, 1, none⟩ (.slice x2 k d2)) from (hMr.out.bel.setCell (by simp) _).setCell (by simp) _)
      clear hkeep
      go_wp2
      refine bodyPost_ret (v := .tuple #[.agg #[.slice x1 k d1, .slice x2 k d2], .int .i64 0]) (by simp [results, Try.results38, go_sem, r0, r1]) rfl ⟨_, _, _, _, rfl, ?_, ?_, hBl.out⟩
      · have := hT.out.1; rw [List.take_of_length_le (by have := hq.out; omega)] at this; exact this
      · have := hT.out.2; rw [List.take_of_length_le (by have := hq.out; omega)] at this; exact this
end Go.Proofs.Ytgkiipmeigfjnaa
