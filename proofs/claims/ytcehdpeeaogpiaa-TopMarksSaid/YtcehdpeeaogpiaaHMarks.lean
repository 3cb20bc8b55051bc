/-
  What heur.Marks returns. Conditions: that the slices read.
-/
import Derived.Test.YtcehdpeeaogpiaaMarksP
import Derived.Test.YtcehdpeeaogpiaaTabs2
import Derived.Test.YtcehdpeeaogpiaaDDist
import Derived.Deep.RegionLaw
namespace Go.Proofs.Ytcehdpeeaogpiaa
open Go.RowKit
set_option linter.unusedSimpArgs false
set_option linter.unusedVariables false
/-- two tables and an error handed back -/
def Tabs2Back (r1 r2 : List (List Int)) (k n : Nat) (err : Int) (w : World) (e : Ending) (w' : World) : Prop := ∃ a1 c1 a2 c2, e = .returned (.tuple #[.agg #[.slice a1 k c1, .slice a2 k c2], .int .i64 err]) ∧ Tab w' w'.heap.size a1 n r1 ∧ Tab w' w'.heap.size a2 n r2 ∧ Below w.heap.size w w'
/-- the net boxed, and the result's place -/
structure MB (w : World) (N : Int) (a : Option Addr) (l cap : Nat) (wr : World) : Prop where
  k0 : wr.cell? ⟨w.heap.size, 0, none⟩ = some (.int .i64 N)
  k1 : wr.cell? ⟨w.heap.size, 1, none⟩ = some (.slice a l cap)
  r0 : wr.cell? ⟨w.heap.size + 1, 0, none⟩ = some (.slice none 0 0)
  r1 : wr.cell? ⟨w.heap.size + 1, 1, none⟩ = some (.slice none 0 0)
  f0 : wr.frozen? ⟨w.heap.size + 1, 0, none⟩ = false
  f1 : wr.frozen? ⟨w.heap.size + 1, 1, none⟩ = false
  bel : Below w.heap.size w wr
theorem MB.stays {w wr w' : World} {N : Int} {a : Option Addr} {l cap B : Nat} (h : MB w N a l cap wr) (b : Below B wr w') (hB : w.heap.size + 2 ≤ B) : MB w N a l cap w' :=
  ⟨cu_below b h.k0 (by simp; omega), cu_below b h.k1 (by simp; omega), cu_below b h.r0 (by simp; omega), cu_below b h.r1 (by simp; omega), fu_below b h.f0 (by simp; omega), fu_below b h.f1 (by simp; omega), h.bel.trans (b.mono (by omega))⟩
theorem MB.lt {w wr : World} {N : Int} {a : Option Addr} {l cap : Nat} (h : MB w N a l cap wr) : w.heap.size + 2 ≤ wr.heap.size := by have := cell_lt h.r0; simp at this; omega
theorem MB.start (w : World) (N : Int) (a : Option Addr) (l cap : Nat) : MB w N a l cap ((w.alloc (.cells #[.int .i64 N, .slice a l cap] 24)).alloc (.cells #[.slice none 0 0, .slice none 0 0] 136)) :=
  ⟨by simp [go_sem], by simp [go_sem], by simp [go_sem], by simp [go_sem], by simp [go_sem], by simp [go_sem], (by repeat (first | with_reducible exact Below.refl _ _ | with_reducible assumption | with_reducible refine up_drewN ?_ | with_reducible refine up_drew ?_ | (with_reducible refine up_alloc ?_ ?_; rotate_left; (first | omega | (simp <;> omega) | simp)) | (with_reducible refine up_set ?_ ?_; rotate_left; (first | omega | (simp <;> omega) | simp)) | (with_reducible refine Below.trans ?_ (Below.mono (by with_reducible assumption) ?_); rotate_left; (first | omega | (simp <;> omega) | simp))))⟩
set_option maxRecDepth 100000 in
set_option maxHeartbeats 1000000 in
theorem hmarks_bad (N : Int) (a : Option Addr) (cap : Nat) (es : List Ed) (am : Option Addr) (cm q : Nat) (ms : List Int) (hq : ms.length = q) (w : World) (B : Nat) (hB : B ≤ w.heap.size) (hE : Row encE 3 w B a es) (hM : Row encI 1 w B am ms) (hl : es.length ≤ 9223372036854775807) (hl2 : q ≤ 9223372036854775807) (h0 : markErr N es ms ≠ 0) :
    Calls Try.prog 89 #[.agg #[.int .i64 N, .slice a es.length cap], .slice am q cm] w (Tabs2Back [] [] 0 0 (markErr N es ms) w) := by
  have hC := hide (fun w hB hE => pos_any N a cap es w B hB hE hl)
  have hL := hide (fun w hB hE hP => look_any N a cap es am cm q ms hq w B hB hE hP hl hl2)
  replace hE := hide hE
  replace hM := hide hM
  by_cases hp : posErr N es = 0
  · by_cases h4 : 4 < q
    · have hr : Hid (markErr N es ms = 2) := by simp only [Hid, markErr]; rw [if_neg (by simp [hp]), if_pos (by omega)]
      rw [hp] at hC
      clear h0 hp
      go_enter Try.func89, Try.ntmps89
      have hMB0 := hide (MB.start w N a es.length cap)
      go_wp2_with fail
      refine (hC.out _ (by simp; omega) (hE.out.below ((by repeat (first | with_reducible exact Below.refl _ _ | with_reducible assumption | with_reducible refine up_drewN ?_ | with_reducible refine up_drew ?_ | (with_reducible refine up_alloc ?_ ?_; rotate_left; (first | omega | (simp <;> omega) | simp)) | (with_reducible refine up_set ?_ ?_; rotate_left; (first | omega | (simp <;> omega) | simp)) | (with_reducible refine Below.trans ?_ (Below.mono (by with_reducible assumption) ?_); rotate_left; (first | omega | (simp <;> omega) | simp)))) : Below w.heap.size w _) hB)).mono ?_
      rintro e w1 ⟨rfl, hb1⟩
      have hMB1 := hide (hMB0.out.stays hb1 (by simp))
      obtain ⟨k0, k1, r0, r1, f0, f1, _⟩ := hMB1.out
      have hz := hMB1.out.lt
      clear hb1
      go_wp2
      rw [hr.out]
      refine bodyPost_ret (v := .tuple #[.agg #[.slice none 0 0, .slice none 0 0], .int .i64 2]) (by simp [results, Try.results89, go_sem, r0, r1, f0, f1]) rfl ⟨_, _, _, _, rfl, (fun i h => by cases h), (fun i h => by cases h), ?_⟩
      exact (hMB1.out.bel.setCell (by simp) _).setCell (by simp) _
    · have hr : Hid (markErr N es ms = lookErr N es ms) := by simp only [Hid, markErr, lookErr]; rw [if_neg (by simp [hp]), if_neg (by omega), if_neg (by simp [hp])]
      have q0 : (lookErr N es ms != 0) = true := by rw [← hr.out]; simp [h0]
      rw [hp] at hC
      clear h0 hp
      go_enter Try.func89, Try.ntmps89
      have hMB0 := hide (MB.start w N a es.length cap)
      go_wp2_with fail
      refine (hC.out _ (by simp; omega) (hE.out.below ((by repeat (first | with_reducible exact Below.refl _ _ | with_reducible assumption | with_reducible refine up_drewN ?_ | with_reducible refine up_drew ?_ | (with_reducible refine up_alloc ?_ ?_; rotate_left; (first | omega | (simp <;> omega) | simp)) | (with_reducible refine up_set ?_ ?_; rotate_left; (first | omega | (simp <;> omega) | simp)) | (with_reducible refine Below.trans ?_ (Below.mono (by with_reducible assumption) ?_); rotate_left; (first | omega | (simp <;> omega) | simp)))) : Below w.heap.size w _) hB)).mono ?_
      rintro e w1 ⟨rfl, hb1⟩
      have hMB1 := hide (hMB0.out.stays hb1 (by simp))
      obtain ⟨k0, k1, r0, r1, f0, f1, _⟩ := hMB1.out
      have hz := hMB1.out.lt
      clear hb1
      go_wp2_with fail
      refine (hL.out _ (by omega) (hE.out.below hMB1.out.bel hB) (hM.out.below hMB1.out.bel hB)).mono ?_
      rintro e w2 ⟨rfl, hb2⟩
      have hMB2 := hide (hMB1.out.stays hb2 hz)
      clear k0 k1 r0 r1 f0 f1 hb2 hz
      obtain ⟨k0, k1, r0, r1, f0, f1, _⟩ := hMB2.out
      have hz := hMB2.out.lt
      go_wp2
      rw [hr.out]
      refine bodyPost_ret (v := .tuple #[.agg #[.slice none 0 0, .slice none 0 0], .int .i64 (lookErr N es ms)]) (by simp [results, Try.results89, go_sem, r0, r1, f0, f1]) rfl ⟨_, _, _, _, rfl, (fun i h => by cases h), (fun i h => by cases h), ?_⟩
      exact (hMB2.out.bel.setCell (by simp) _).setCell (by simp) _
  · have hr : Hid (markErr N es ms = posErr N es) := by simp only [Hid, markErr]; rw [if_pos hp]
    have q0 : (posErr N es != 0) = true := by simp [hp]
    clear h0 hp
    go_enter Try.func89, Try.ntmps89
    have hMB0 := hide (MB.start w N a es.length cap)
    go_wp2_with fail
    refine (hC.out _ (by simp; omega) (hE.out.below ((by repeat (first | with_reducible exact Below.refl _ _ | with_reducible assumption | with_reducible refine up_drewN ?_ | with_reducible refine up_drew ?_ | (with_reducible refine up_alloc ?_ ?_; rotate_left; (first | omega | (simp <;> omega) | simp)) | (with_reducible refine up_set ?_ ?_; rotate_left; (first | omega | (simp <;> omega) | simp)) | (with_reducible refine Below.trans ?_ (Below.mono (by with_reducible assumption) ?_); rotate_left; (first | omega | (simp <;> omega) | simp)))) : Below w.heap.size w _) hB)).mono ?_
    rintro e w1 ⟨rfl, hb1⟩
    have hMB1 := hide (hMB0.out.stays hb1 (by simp))
    obtain ⟨k0, k1, r0, r1, f0, f1, _⟩ := hMB1.out
    have hz := hMB1.out.lt
    clear hb1
    go_wp2
    rw [hr.out]
    refine bodyPost_ret (v := .tuple #[.agg #[.slice none 0 0, .slice none 0 0], .int .i64 (posErr N es)]) (by simp [results, Try.results89, go_sem, r0, r1, f0, f1]) rfl ⟨_, _, _, _, rfl, (fun i h => by cases h), (fun i h => by cases h), ?_⟩
    exact (hMB1.out.bel.setCell (by simp) _).setCell (by simp) _
set_option maxRecDepth 100000 in
set_option maxHeartbeats 4000000 in
theorem hmarks_ok (n : Nat) (a : Option Addr) (cap : Nat) (es : List Ed) (am : Option Addr) (cm q : Nat) (ms : List Int) (hq : ms.length = q) (w : World) (B : Nat) (hB : B ≤ w.heap.size) (hE : Row encE 3 w B a es) (hM : Row encI 1 w B am ms) (hl : es.length ≤ 9223372036854775807) (h0 : markErr (n : Int) es ms = 0) :
    Calls Try.prog 89 #[.agg #[.int .i64 (n : Int), .slice a es.length cap], .slice am q cm] w (Tabs2Back (fromRows n es ms) (toRows n es ms) q n 0 w) := by
  obtain ⟨p1, p2, p3⟩ := mark_ok h0
  obtain ⟨g3, g4⟩ := posErr_ok p1
  obtain ⟨n1, n2, n3, n4⟩ := netErr_ok g3
  have hes : Right n es := n4
  have hp3 := hide (pl_all p3)
  have hq4 : q ≤ 4 := by omega
  have hC := hide (fun w hB hE => by have := pos_any (n : Int) a cap es w B hB hE hl; rw [p1] at this; exact this)
  have hL := hide (fun w hB hE hP => by have := look_any (n : Int) a cap es am cm q ms hq w B hB hE hP hl (by omega); rw [show lookErr (n : Int) es ms = 0 by unfold lookErr; rw [if_neg (by simp [p1])]; exact p3] at this; exact this)
  have hT := hide (fun w hB hE => turned_any (n : Int) a cap es w B hB hE n3)
  have hR1 := hide (fun v (hv : v < n) w B hB hE => run_any n a cap es v w B hB hE (by omega) (by omega) n3 hes g4 hv)
  have hR2 := hide (fun a2 c2 v (hv : v < n) w B hB hE => by have := run_any n a2 c2 (es.map flip) v w B hB hE (by omega) (by omega) (by rw [List.length_map]; exact n3) (flip_right hes) (flip_pos g4) hv; rw [List.length_map, flip_dist hes g4 hv] at this; exact this)
  have hfl := hide (show (es.map flip).length = es.length by rw [List.length_map])
  generalize es.map flip = fs at hT hR2 hfl
  replace hE := hide hE
  replace hM := hide hM
  replace hq := hide hq
  clear h0 p1 p2 p3 g3 g4 n4 hes
  go_enter Try.func89, Try.ntmps89
  have hMB0 := hide (MB.start w (n : Int) a es.length cap)
  go_wp2_with fail
  refine (hC.out _ (by simp; omega) (hE.out.below ((by repeat (first | with_reducible exact Below.refl _ _ | with_reducible assumption | with_reducible refine up_drewN ?_ | with_reducible refine up_drew ?_ | (with_reducible refine up_alloc ?_ ?_; rotate_left; (first | omega | (simp <;> omega) | simp)) | (with_reducible refine up_set ?_ ?_; rotate_left; (first | omega | (simp <;> omega) | simp)) | (with_reducible refine Below.trans ?_ (Below.mono (by with_reducible assumption) ?_); rotate_left; (first | omega | (simp <;> omega) | simp)))) : Below w.heap.size w _) hB)).mono ?_
  rintro e w1 ⟨rfl, hb1⟩
  have hMB1 := hide (hMB0.out.stays hb1 (by simp))
  obtain ⟨k0, k1, _, _, _, _, _⟩ := hMB1.out
  have hz := hMB1.out.lt
  clear hb1 hC
  go_wp2_with fail
  refine (hL.out _ (by omega) (hE.out.below hMB1.out.bel hB) (hM.out.below hMB1.out.bel hB)).mono ?_
  rintro e w2 ⟨rfl, hb2⟩
  have hMB2 := hide (hMB1.out.stays hb2 hz)
  clear k0 k1 hb2 hz hMB1 hMB0 hL
  obtain ⟨k0, k1, _, _, _, _, _⟩ := hMB2.out
  have hz := hMB2.out.lt
  go_wp2_with fail
  refine (hT.out _ (by omega) (hE.out.below hMB2.out.bel hB)).mono ?_
  rintro e w3 ⟨vf, rfl, ownf, hb3⟩
  obtain ⟨af, cf, rfl⟩ := ownf.shape (n := es.length) hfl.out
  have hMB3 := hide (hMB2.out.stays hb3 hz)
  have hz3 := hMB3.out.lt
  have hrF : Row encE 3 w3 w3.heap.size af fs := by
    obtain ⟨a', c', hv, hr, _⟩ := ownf.row lenE
    simp only [Value.slice.injEq] at hv
    obtain ⟨rfl, _⟩ := hv
    exact hr
  replace hrF := hide hrF
  clear k0 k1 hb3 hz hMB2 hT ownf
  obtain ⟨k0, k1, _, _, _, _, _⟩ := hMB3.out
  obtain ⟨wD, hwD⟩ : ∃ wD, wD = w3.alloc (.cells #[.int .i64 (n : Int), .slice af es.length cf] 24) := ⟨_, rfl⟩
  have hbD : Below w3.heap.size w3 wD := by rw [hwD]; exact (Below.refl _ _).alloc (Nat.le_refl _) _
  have hsD : wD.heap.size = w3.heap.size + 1 := by rw [hwD]; simp
  have hMBD := hide (hMB3.out.stays hbD hz3)
  have kf0 : wD.cell? ⟨w3.heap.size, 0, none⟩ = some (.int .i64 (n : Int)) := by rw [hwD]; simp [go_sem]
  have kf1 : wD.cell? ⟨w3.heap.size, 1, none⟩ = some (.slice af es.length cf) := by rw [hwD]; simp [go_sem]
  have hrFD := hide ((hrF.out.below hbD (Nat.le_refl _)).mono hbD.size)
  have hTw0 := hide (Tw.start 136 29 (w3.heap.size + 1) wD hsD n)
  rw [hwD] at hTw0
  replace hwD := hide hwD
  clear hbD hrF hMB3
  go_wp2
  generalize ((w3.alloc (.cells #[.int .i64 (n : Int), .slice af es.length cf] 24)).alloc (.cells #[.slice none 0 0, .slice none 0 0] 136)) = wS at hTw0 ⊢
  rw [← hwD.out] at hTw0
  clear k0 k1
  go_loopw [11, 33] (fun _ i wr => ∃ (k : Nat) (x1 x2 : Option Addr) (d1 d2 : Nat) (ts1 ts2 : List S3), k ≤ q ∧ i = .int .i64 k ∧ Hid (Tw 29 (w3.heap.size + 1) wD n (.slice x1 k d1) (.slice x2 k d2) ts1 ts2 (fromRows n es (ms.take k)) (toRows n es (ms.take k)) wr)) (fun _ i _ => q - (intOf i).toNat)
  case atStart => exact ⟨0, none, none, 0, 0, [], [], Nat.zero_le _, rfl, hTw0⟩
  case round =>
    obtain ⟨k, x1, x2, d1, d2, ts1, ts2, hk, rfl, hTw⟩ := hrel
    clear hTw0
    have hDr := hTw.out.lt
    have hMr := hide (hMBD.out.stays hTw.out.bel (by omega))
    have hbr := hide hTw.out.bel
    by_cases hlt : k < q
    · have hkm : k < ms.length := by rw [hq.out]; exact hlt
      have hu0 := hp3.out _ (List.getElem_mem hkm)
      obtain ⟨u, hu⟩ := Int.eq_ofNat_of_zero_le hu0.1
      have hun : u < n := by omega
      obtain ⟨bm, om, rfl, hbm, m0⟩ := hM.out.int k hkm
      have m1 := cu_below hMr.out.bel m0 (by simp; omega)
      have hbml := cell_lt m1
      rw [hu] at m1
      have hF1 := hide (fromRows_take (n := n) (es := es) hkm hu)
      have hF2 := hide (toRows_take (n := n) (es := es) hkm hu)
      have hl1 := hide (show ts1.length = k by have := hTw.out.t1.1; rw [fromRows_len, List.length_take] at this; omega)
      have hl2 := hide (show ts2.length = k by have := hTw.out.t2.1; rw [toRows_len, List.length_take] at this; omega)
      replace hu := hide hu
      obtain ⟨k0, k1, _, _, _, _, _⟩ := hMr.out
      have kf2 := cu_below hbr.out kf0 (by simp)
      have kf3 := cu_below hbr.out kf1 (by simp)
      have t0 := hTw.out.c0
      have ik : (0 : Int) ≤ (k : Int) ∧ (k : Int) < (q : Int) := by omega
      have hRk := hide (fun w' (hb : Below wr.heap.size wr w') => hR1.out u hun w' B (Nat.le_trans (Nat.le_trans hB hMr.out.bel.size) hb.size) (hE.out.below (hMr.out.bel.trans (hb.mono hMr.out.bel.size)) hB))
      clear m0 hu0
      go_wp2
      go_region_law (first
        | (go_simp; go_at_call 87; refine (hRk.out _ (by first | exact below_drew _ | exact Below.refl _ _)).mono ?_; rintro e w5 ⟨a5, c5, rfl, own5, hb5⟩; obtain ⟨g5, rfl, hg5, hl5⟩ := own5.blockI (by omega); have hg5 := (show wr.heap.size ≤ g5 by simpa using hg5); have hb5 := below_step (by first | exact below_drew _ | exact Below.refl _ _) hb5; have hr5 := hide (own_row own5); have hTw5 := hide (hTw.out.stays hb5); have t1 := hTw5.out.c0; have t2 := hTw5.out.f0; have hDr5 := hTw5.out.lt)
        | (refine step_pushL (base := w3.heap.size + 1 + 1) (e := 29) (enc := encS) (xs := ts1) (v := .slice x1 k d1) rfl (.tmp 38) (.tmp 42) 25 rfl _ 24 Try.underlying25 info_row rfl (by omega) lenS oneS k hl1.out rfl ?_ ⟨w5.heap.size, 0, none⟩ 1 ⟨some ⟨g5, 0, none⟩, n, c5⟩ rfl (newS _ _ _ _ (by simp)) (by omega) (by unfold maxLen; omega) ?_ ?_; (next => first | exact (hTw5.out.alloc _).t1.2.1 | exact (hTw5.out.alloc _).drew.t1.2.1 | exact (hTw5.out.drew.alloc _).t1.2.1); (next => first | omega | (simp; omega)); intro g6 c6 w6 own6 hb6 hg6 hat6 hlt6; have hk6 := hg6.cell (a := ⟨w3.heap.size + 1, 0, none⟩) (v := .slice x1 k d1) (by first | exact cu_alloc t1 | exact cu_drew (cu_alloc t1)) (fun e => hTw5.out.ap1 e.symm); have hf6 := (hg6.frozen_far ⟨w3.heap.size + 1, 0, none⟩ (by simp; omega) (fun e => hTw5.out.ap1 e.symm)).trans (by first | exact fu_alloc t2 | exact fu_drew (fu_alloc t2)); have hTw6 := hide (show Tw 29 (w3.heap.size + 1) wD n (.slice (some ⟨g6, 0, none⟩) (k + 1) c6) (.slice x2 k d2) (ts1 ++ [⟨some ⟨g5, 0, none⟩, n, c5⟩]) ts2 (fromRows n es (ms.take (k + 1))) (toRows n es (ms.take k)) (w6.setCell ⟨w3.heap.size + 1, 0, none⟩ (.slice (some ⟨g6, 0, none⟩) (k + 1) c6)) from by rw [hF1.out]; exact hTw5.out.push1 hr5.out (by omega) (fun e => by have := (hTw.out.t1.2.1.block_lt g5 e).2; omega) (fun e => by have := (hTw.out.t2.2.1.block_lt g5 e).2; omega) hl5 own6 hg6 (fun j hj => by simp only [Value.ownBlock, Option.some.injEq] at hj; subst hj; rcases hat6 with h | h; exact .inl h; right; rw [h]; simp))))
      all_goals
        generalize (w6.setCell ⟨w3.heap.size + 1, 0, none⟩ (.slice (some ⟨g6, 0, none⟩) (k + 1) c6)) = w7 at hTw6 ⊢
        clear own6 hg6 hat6 hlt6 hk6 hf6 hr5 hTw5 t1 t2 hDr5 own5 hb5 hg5 hl5 hRk k0 k1 kf2 kf3 t0 hb6
        have hD7 := hTw6.out.lt
        have kf2 := cu_below hTw6.out.bel kf0 (by simp)
        have kf3 := cu_below hTw6.out.bel kf1 (by simp)
        have t0 := hTw6.out.c1
        have hRk := hide (fun w' (hb : Below w7.heap.size w7 w') => hR2.out af cf u hun w' wD.heap.size (by have := hb.size; omega) (hrFD.out.below (hTw6.out.bel.trans (hb.mono (by omega))) (by omega)))
        go_wp2
        go_region_law (first
          | (go_simp; go_at_call 87; refine (hRk.out _ (by first | exact below_drew _ | exact Below.refl _ _)).mono ?_; rintro e w8 ⟨a8, c8, rfl, own8, hb8⟩; obtain ⟨g8, rfl, hg8, hl8⟩ := own8.blockI (by omega); have hg8 := (show w7.heap.size ≤ g8 by simpa using hg8); have hb8 := below_step (by first | exact below_drew _ | exact Below.refl _ _) hb8; have hr8 := hide (own_row own8); have hTw8 := hide (hTw6.out.stays hb8); have t1 := hTw8.out.c1; have t2 := hTw8.out.f1; have hDr8 := hTw8.out.lt)
          | (refine step_pushL (base := w3.heap.size + 1 + 1) (e := 29) (enc := encS) (xs := ts2) (v := .slice x2 k d2) rfl (.tmp 46) (.tmp 50) 25 rfl _ 24 Try.underlying25 info_row rfl (by omega) lenS oneS k hl2.out rfl ?_ ⟨w8.heap.size, 0, none⟩ 1 ⟨some ⟨g8, 0, none⟩, n, c8⟩ rfl (newS _ _ _ _ (by simp)) (by omega) (by unfold maxLen; omega) ?_ ?_; (next => first | exact (hTw8.out.alloc _).t2.2.1 | exact (hTw8.out.alloc _).drew.t2.2.1 | exact (hTw8.out.drew.alloc _).t2.2.1); (next => first | omega | (simp; omega)); intro g9 c9 w9 own9 hb9 hg9 hat9 hlt9; have hk9 := hg9.cell (a := ⟨w3.heap.size + 1, 1, none⟩) (v := .slice x2 k d2) (by first | exact cu_alloc t1 | exact cu_drew (cu_alloc t1)) (fun e => hTw8.out.ap2 e.symm); have hf9 := (hg9.frozen_far ⟨w3.heap.size + 1, 1, none⟩ (by simp; omega) (fun e => hTw8.out.ap2 e.symm)).trans (by first | exact fu_alloc t2 | exact fu_drew (fu_alloc t2)); have hTw9 := hide (show Tw 29 (w3.heap.size + 1) wD n (.slice (some ⟨g6, 0, none⟩) (k + 1) c6) (.slice (some ⟨g9, 0, none⟩) (k + 1) c9) (ts1 ++ [⟨some ⟨g5, 0, none⟩, n, c5⟩]) (ts2 ++ [⟨some ⟨g8, 0, none⟩, n, c8⟩]) (fromRows n es (ms.take (k + 1))) (toRows n es (ms.take (k + 1))) (w9.setCell ⟨w3.heap.size + 1, 1, none⟩ (.slice (some ⟨g9, 0, none⟩) (k + 1) c9)) from by rw [hF2.out]; exact hTw8.out.push2 hr8.out (by omega) (fun e => by have := (hTw6.out.t1.2.1.block_lt g8 e).2; omega) (fun e => by have := (hTw6.out.t2.2.1.block_lt g8 e).2; omega) hl8 own9 hg9 (fun j hj => by simp only [Value.ownBlock, Option.some.injEq] at hj; subst hj; rcases hat9 with h | h; exact .inl h; right; rw [h]; simp))))
        all_goals
          generalize (w9.setCell ⟨w3.heap.size + 1, 1, none⟩ (.slice (some ⟨g9, 0, none⟩) (k + 1) c9)) = w10 at hTw9 ⊢
          clear own9 hg9 hat9 hlt9 hk9 hf9 hr8 hTw8 t1 t2 hDr8 own8 hb8 hg8 hl8 hRk kf2 kf3 t0 hb9
          go_wp2
          go_roundw
          case rel => exact ⟨k + 1, _, _, _, _, _, _, by omega, by go_num, hTw9⟩
          case measure => simp [intOf]; omega
    · obtain rfl : k = q := by omega
      obtain ⟨_, _, r0, r1, f0, f1, _⟩ := hMr.out
      have t0 := hTw.out.c0
      have t1 := hTw.out.c1
      have hlow := hMr.out.lt
      have hkeep : ∀ v1 v2 : Value, Keep (fun j => j = w.heap.size + 1) wr ((wr.setCell ⟨w.heap.size + 1, 0, none⟩ v1).setCell ⟨w.heap.size + 1, 1, none⟩ v2) := fun v1 v2 => ((Keep.refl (fun j => j = w.heap.size + 1) wr).setCell (.inl rfl) _).setCell (.inl rfl) _
      have hT := hide (hTw.out.tabs (show w.heap.size + 1 < w3.heap.size + 1 by omega) (hkeep (.slice x1 k d1) (.slice x2 k d2)))
      have hBl := hide (show Below w.heap.size w ((wr.setCell ⟨w.heap.size + 1, 0, none⟩ (.slice x1 k d1)).setCell ⟨w.heap.size + 1, 1, none⟩ (.slice x2 k d2)) from (hMr.out.bel.setCell (by simp) _).setCell (by simp) _)
      clear hkeep
      go_wp2
      refine bodyPost_ret (v := .tuple #[.agg #[.slice x1 k d1, .slice x2 k d2], .int .i64 0]) (by simp [results, Try.results89, go_sem, r0, r1]) rfl ⟨_, _, _, _, rfl, ?_, ?_, hBl.out⟩
      · have := hT.out.1; rw [List.take_of_length_le (by have := hq.out; omega)] at this; exact this
      · have := hT.out.2; rw [List.take_of_length_le (by have := hq.out; omega)] at this; exact this
end Go.Proofs.Ytcehdpeeaogpiaa
