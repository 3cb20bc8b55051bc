/-
  What heur.Of returns. Conditions: that the slices read.
-/
import Derived.Test.YtcehdpeeaogpiaaHMarks
import Derived.Test.YtcehdpeeaogpiaaHBound
namespace Go.Proofs.Ytcehdpeeaogpiaa
open Go.RowKit
set_option linter.unusedSimpArgs false
set_option linter.unusedVariables false
theorem dist_fit {n : Nat} {es : List Ed} (hes : Right n es) (hp : ∀ e ∈ es, 1 ≤ e.c) {v u : Nat} (hv : v < n) (hu : u < n) : 0 ≤ distF n es v u ∧ distF n es v u ≤ FAR := by
  have h := spread_feas (n := n) (E := nes es) (v := v) (fun e he => by
    obtain ⟨x, hx, rfl⟩ := nes_mem he
    have := hes x hx
    have := hp x hx
    simp only
    omega) hv
  have h2 := spread_le (nes es) (stF v) (n - 1) u
  have h3 := stF_far v u
  exact ⟨h.2 u hu, by unfold distF; omega⟩
theorem fit_from {n : Nat} {es : List Ed} (hes : Right n es) (hp : ∀ e ∈ es, 1 ≤ e.c) {ms : List Int} (hm : ∀ x ∈ ms, 0 ≤ x ∧ x < (n : Int)) : Fit n (fromRows n es ms) := by
  intro r hr
  obtain ⟨m, hmm, rfl⟩ := List.mem_map.1 hr
  have := hm m hmm
  refine ⟨li_len _ _, fun x hx => ?_⟩
  obtain ⟨u, hu, rfl⟩ := List.mem_map.1 hx
  exact dist_fit hes hp (by omega) (List.mem_range.1 hu)
theorem fit_to {n : Nat} {es : List Ed} (hes : Right n es) (hp : ∀ e ∈ es, 1 ≤ e.c) {ms : List Int} (hm : ∀ x ∈ ms, 0 ≤ x ∧ x < (n : Int)) : Fit n (toRows n es ms) := by
  intro r hr
  obtain ⟨m, hmm, rfl⟩ := List.mem_map.1 hr
  have := hm m hmm
  refine ⟨li_len _ _, fun x hx => ?_⟩
  obtain ⟨u, hu, rfl⟩ := List.mem_map.1 hx
  exact dist_fit hes hp (List.mem_range.1 hu) (by omega)
/-- the guesses -/
def ofList (n : Nat) (es : List Ed) (ms : List Int) (t k : Nat) : List Int := LI k (fun v => bndK (fromRows n es ms) (toRows n es ms) v t ms.length)
set_option maxRecDepth 100000 in
set_option maxHeartbeats 1000000 in
theorem hof_mark (N : Int) (a : Option Addr) (cap : Nat) (es : List Ed) (am : Option Addr) (cm q : Nat) (ms : List Int) (hq : ms.length = q) (t : Int) (w : World) (B : Nat) (hB : B ≤ w.heap.size) (hE : Row encE 3 w B a es) (hM : Row encI 1 w B am ms) (hl : es.length ≤ 9223372036854775807) (hl2 : q ≤ 9223372036854775807) (h0 : markErr N es ms ≠ 0) :
    Calls Try.prog 21 #[.agg #[.int .i64 N, .slice a es.length cap], .slice am q cm, .int .i64 t] w (RowN encI 1 [] 0 (markErr N es ms) w) := by
  have q0 : (markErr N es ms != 0) = true := by simp [h0]
  have hMk := hide (fun w B hB hE hM => hmarks_bad N a cap es am cm q ms hq w B hB hE hM hl hl2 h0)
  replace hE := hide hE
  replace hM := hide hM
  clear h0
  go_enter Try.func21, Try.ntmps21
  go_wp2_with fail
  refine (hMk.out _ B (by simp; omega) (hE.out.below ((by repeat (first | with_reducible exact Below.refl _ _ | with_reducible assumption | with_reducible refine up_drewN ?_ | with_reducible refine up_drew ?_ | (with_reducible refine up_alloc ?_ ?_; rotate_left; (first | omega | (simp <;> omega) | simp)) | (with_reducible refine up_set ?_ ?_; rotate_left; (first | omega | (simp <;> omega) | simp)) | (with_reducible refine Below.trans ?_ (Below.mono (by with_reducible assumption) ?_); rotate_left; (first | omega | (simp <;> omega) | simp)))) : Below w.heap.size w _) hB) (hM.out.below ((by repeat (first | with_reducible exact Below.refl _ _ | with_reducible assumption | with_reducible refine up_drewN ?_ | with_reducible refine up_drew ?_ | (with_reducible refine up_alloc ?_ ?_; rotate_left; (first | omega | (simp <;> omega) | simp)) | (with_reducible refine up_set ?_ ?_; rotate_left; (first | omega | (simp <;> omega) | simp)) | (with_reducible refine Below.trans ?_ (Below.mono (by with_reducible assumption) ?_); rotate_left; (first | omega | (simp <;> omega) | simp)))) : Below w.heap.size w _) hB)).mono ?_
  rintro e w1 ⟨f1, c1, t1, c2, rfl, _, _, hb1⟩
  obtain ⟨hc1, hf1⟩ := bcell hb1; have hz1 : w.heap.size < w1.heap.size := (by have := hb1.size; (try simp at this); omega)
  go_wp2
  go_ret2
  exact ⟨none, 0, rfl, Row.nil _ _ _ _ _, (by repeat (first | with_reducible exact Below.refl _ _ | with_reducible assumption | with_reducible refine up_drewN ?_ | with_reducible refine up_drew ?_ | (with_reducible refine up_alloc ?_ ?_; rotate_left; (first | omega | (simp <;> omega) | simp)) | (with_reducible refine up_set ?_ ?_; rotate_left; (first | omega | (simp <;> omega) | simp)) | (with_reducible refine Below.trans ?_ (Below.mono (by with_reducible assumption) ?_); rotate_left; (first | omega | (simp <;> omega) | simp))))⟩
set_option maxRecDepth 100000 in
set_option maxHeartbeats 1000000 in
theorem hof_look (n : Nat) (a : Option Addr) (cap : Nat) (es : List Ed) (am : Option Addr) (cm q : Nat) (ms : List Int) (hq : ms.length = q) (t : Int) (w : World) (B : Nat) (hB : B ≤ w.heap.size) (hE : Row encE 3 w B a es) (hM : Row encI 1 w B am ms) (hl : es.length ≤ 9223372036854775807) (h0 : markErr (n : Int) es ms = 0) (h1 : lookErr (n : Int) es [t] ≠ 0) :
    Calls Try.prog 21 #[.agg #[.int .i64 (n : Int), .slice a es.length cap], .slice am q cm, .int .i64 t] w (RowN encI 1 [] 0 (lookErr (n : Int) es [t]) w) := by
  have q0 : (lookErr (n : Int) es [t] != 0) = true := by simp [h1]
  have hMk := hide (fun w B hB hE hM => hmarks_ok n a cap es am cm q ms hq w B hB hE hM hl h0)
  have hL := hide (fun a1 c1 w B hB hE hP => look_any (n : Int) a cap es a1 c1 1 [t] rfl w B hB hE hP hl (by omega))
  replace hE := hide hE
  replace hM := hide hM
  clear h0 h1
  go_enter Try.func21, Try.ntmps21
  go_wp2_with fail
  refine (hMk.out _ B (by simp; omega) (hE.out.below ((by repeat (first | with_reducible exact Below.refl _ _ | with_reducible assumption | with_reducible refine up_drewN ?_ | with_reducible refine up_drew ?_ | (with_reducible refine up_alloc ?_ ?_; rotate_left; (first | omega | (simp <;> omega) | simp)) | (with_reducible refine up_set ?_ ?_; rotate_left; (first | omega | (simp <;> omega) | simp)) | (with_reducible refine Below.trans ?_ (Below.mono (by with_reducible assumption) ?_); rotate_left; (first | omega | (simp <;> omega) | simp)))) : Below w.heap.size w _) hB) (hM.out.below ((by repeat (first | with_reducible exact Below.refl _ _ | with_reducible assumption | with_reducible refine up_drewN ?_ | with_reducible refine up_drew ?_ | (with_reducible refine up_alloc ?_ ?_; rotate_left; (first | omega | (simp <;> omega) | simp)) | (with_reducible refine up_set ?_ ?_; rotate_left; (first | omega | (simp <;> omega) | simp)) | (with_reducible refine Below.trans ?_ (Below.mono (by with_reducible assumption) ?_); rotate_left; (first | omega | (simp <;> omega) | simp)))) : Below w.heap.size w _) hB)).mono ?_
  rintro e w1 ⟨f1, c1, t1, c2, rfl, _, _, hb1⟩
  obtain ⟨hc1, hf1⟩ := bcell hb1; have hz1 : w.heap.size < w1.heap.size := (by have := hb1.size; (try simp at this); omega)
  go_wp2_with fail
  refine (hL.out _ _ _ (w1.heap.size + 1 + 1) (by simp) ((hE.out.below ((by repeat (first | with_reducible exact Below.refl _ _ | with_reducible assumption | with_reducible refine up_drewN ?_ | with_reducible refine up_drew ?_ | (with_reducible refine up_alloc ?_ ?_; rotate_left; (first | omega | (simp <;> omega) | simp)) | (with_reducible refine up_set ?_ ?_; rotate_left; (first | omega | (simp <;> omega) | simp)) | (with_reducible refine Below.trans ?_ (Below.mono (by with_reducible assumption) ?_); rotate_left; (first | omega | (simp <;> omega) | simp)))) : Below w.heap.size w _) hB).mono (by omega)) ((row1 (by simp [go_sem])).mono (by simp))).mono ?_
  rintro e w2 ⟨rfl, hb2⟩
  go_wp2
  go_ret2
  exact ⟨none, 0, rfl, Row.nil _ _ _ _ _, (by repeat (first | with_reducible exact Below.refl _ _ | with_reducible assumption | with_reducible refine up_drewN ?_ | with_reducible refine up_drew ?_ | (with_reducible refine up_alloc ?_ ?_; rotate_left; (first | omega | (simp <;> omega) | simp)) | (with_reducible refine up_set ?_ ?_; rotate_left; (first | omega | (simp <;> omega) | simp)) | (with_reducible refine Below.trans ?_ (Below.mono (by with_reducible assumption) ?_); rotate_left; (first | omega | (simp <;> omega) | simp))))⟩
set_option maxRecDepth 100000 in
set_option maxHeartbeats 2000000 in
theorem hof_ok (n : Nat) (a : Option Addr) (cap : Nat) (es : List Ed) (am : Option Addr) (cm q : Nat) (ms : List Int) (hq : ms.length = q) (t : Nat) (w : World) (B : Nat) (hB : B ≤ w.heap.size) (hE : Row encE 3 w B a es) (hM : Row encI 1 w B am ms) (hl : es.length ≤ 9223372036854775807) (h0 : markErr (n : Int) es ms = 0) (h1 : lookErr (n : Int) es [(t : Int)] = 0) :
    Calls Try.prog 21 #[.agg #[.int .i64 (n : Int), .slice a es.length cap], .slice am q cm, .int .i64 (t : Int)] w (RowN encI 1 (ofList n es ms t n) n 0 w) := by
  obtain ⟨p1, p2, p3⟩ := mark_ok h0
  obtain ⟨g3, g4⟩ := posErr_ok p1
  obtain ⟨n1, n2, n3, n4⟩ := netErr_ok g3
  have hes : Right n es := n4
  have ht : t < n := by have := (look_ok h1).2 (t : Int) (by simp); omega
  have hq4 : q ≤ 4 := by omega
  have hF1 := fit_from hes g4 (pl_all p3)
  have hF2 := fit_to hes g4 (pl_all p3)
  have hMk := hide (fun w B hB hE hM => hmarks_ok n a cap es am cm q ms hq w B hB hE hM hl h0)
  have hL := hide (fun a1 c1 w B hB hE hP => by have := look_any (n : Int) a cap es a1 c1 1 [(t : Int)] rfl w B hB hE hP hl (by omega); rw [h1] at this; exact this)
  have hk1 := fromRows_len n es ms
  have hk2 := toRows_len n es ms
  unfold ofList
  rw [hq] at hk1 hk2 ⊢
  generalize fromRows n es ms = r1 at *
  generalize toRows n es ms = r2 at *
  have hBd := hide (fun v (hv : v < n) a1 a2 c1 c2 w B hB h1 h2 => bound_any n v t q a1 a2 c1 c2 r1 r2 w B hB h1 h2 hF1 hF2 hk1 hk2 (by omega) hv ht (by omega))
  replace hE := hide hE
  replace hM := hide hM
  clear h0 h1 p1 p2 p3 g3 g4 n4 hes hF1 hF2 hk1 hk2 hq
  go_enter Try.func21, Try.ntmps21
  go_wp2_with fail
  refine (hMk.out _ B (by simp; omega) (hE.out.below ((by repeat (first | with_reducible exact Below.refl _ _ | with_reducible assumption | with_reducible refine up_drewN ?_ | with_reducible refine up_drew ?_ | (with_reducible refine up_alloc ?_ ?_; rotate_left; (first | omega | (simp <;> omega) | simp)) | (with_reducible refine up_set ?_ ?_; rotate_left; (first | omega | (simp <;> omega) | simp)) | (with_reducible refine Below.trans ?_ (Below.mono (by with_reducible assumption) ?_); rotate_left; (first | omega | (simp <;> omega) | simp)))) : Below w.heap.size w _) hB) (hM.out.below ((by repeat (first | with_reducible exact Below.refl _ _ | with_reducible assumption | with_reducible refine up_drewN ?_ | with_reducible refine up_drew ?_ | (with_reducible refine up_alloc ?_ ?_; rotate_left; (first | omega | (simp <;> omega) | simp)) | (with_reducible refine up_set ?_ ?_; rotate_left; (first | omega | (simp <;> omega) | simp)) | (with_reducible refine Below.trans ?_ (Below.mono (by with_reducible assumption) ?_); rotate_left; (first | omega | (simp <;> omega) | simp)))) : Below w.heap.size w _) hB)).mono ?_
  rintro e w1 ⟨f1, c1, t1, c2, rfl, hF, hT, hb1⟩
  replace hF := hide hF
  replace hT := hide hT
  obtain ⟨hc1, hf1⟩ := bcell hb1; have hz1 : w.heap.size < w1.heap.size := (by have := hb1.size; (try simp at this); omega)
  go_wp2_with fail
  refine (hL.out _ _ _ (w1.heap.size + 1 + 1) (by simp) ((hE.out.below ((by repeat (first | with_reducible exact Below.refl _ _ | with_reducible assumption | with_reducible refine up_drewN ?_ | with_reducible refine up_drew ?_ | (with_reducible refine up_alloc ?_ ?_; rotate_left; (first | omega | (simp <;> omega) | simp)) | (with_reducible refine up_set ?_ ?_; rotate_left; (first | omega | (simp <;> omega) | simp)) | (with_reducible refine Below.trans ?_ (Below.mono (by with_reducible assumption) ?_); rotate_left; (first | omega | (simp <;> omega) | simp)))) : Below w.heap.size w _) hB).mono (by omega)) ((row1 (by simp [go_sem])).mono (by simp))).mono ?_
  rintro e w2 ⟨rfl, hb2⟩
  have hb2' := hide (unalloc (hb2.mono (by simp)) (by simp <;> omega) : Below (w1.heap.size + 1) (w1.alloc (.cells #[.slice f1 q c1, .slice t1 q c2] 136)) w2)
  have k0 : w2.cell? ⟨w1.heap.size, 0, none⟩ = some (.slice f1 q c1) := cu_below hb2'.out (by simp [go_sem]) (by simp)
  have k1 : w2.cell? ⟨w1.heap.size, 1, none⟩ = some (.slice t1 q c2) := cu_below hb2'.out (by simp [go_sem]) (by simp)
  have hb12 := hide (unalloc (hb2'.out.mono (by omega)) (Nat.le_refl _) : Below w1.heap.size w1 w2)
  have j0 : w2.cell? ⟨w.heap.size, 0, none⟩ = some (.int .i64 (n : Int)) := cu_below hb12.out (by rw [hc1 _ _ (by simp)]; simp [go_sem]) hz1
  have hF2 := hide ((hF.out.below hb12.out (Nat.le_refl _)))
  have hT2 := hide ((hT.out.below hb12.out (Nat.le_refl _)))
  have hbw := hide (show Below w.heap.size w w2 from (by repeat (first | with_reducible exact Below.refl _ _ | with_reducible assumption | with_reducible refine up_drewN ?_ | with_reducible refine up_drew ?_ | (with_reducible refine up_alloc ?_ ?_; rotate_left; (first | omega | (simp <;> omega) | simp)) | (with_reducible refine up_set ?_ ?_; rotate_left; (first | omega | (simp <;> omega) | simp)) | (with_reducible refine Below.trans ?_ (Below.mono (by with_reducible assumption) ?_); rotate_left; (first | omega | (simp <;> omega) | simp)))))
  have hz2 := cell_lt k0
  clear hb2 hb2' hb1 hc1 hf1 hF hT hMk hL
  go_wp2
  go_loopw [11, 12, 31] (fun s11 _ i wr => ∃ (j : Nat) (av : Option Addr) (cv : Nat), j ≤ n ∧ i = .int .i64 j ∧ s11 = .slice av j cv ∧ Hid (Own encI 1 3 wr w2.heap.size (.slice av j cv) (LI j (fun v => bndK r1 r2 v t q))) ∧ Hid (Below w2.heap.size w2 wr)) (fun _ _ i _ => n - (intOf i).toNat)
  case atStart => exact ⟨0, none, 0, Nat.zero_le _, rfl, rfl, hide (Own.nil _ _), hide (Below.refl _ _)⟩
  case round =>
    obtain ⟨j, av, cv, hj, rfl, rfl, own, hb⟩ := hrel
    have hzr := hb.out.size
    by_cases hjl : j < n
    · have k2 := cu_below hb.out k0 (cell_lt k0)
      have k3 := cu_below hb.out k1 (cell_lt k1)
      have hlw := cell_lt k2
      have hF3 := hide (hF2.out.below hb.out (by simpa using Nat.le_of_lt hz2))
      have hT3 := hide (hT2.out.below hb.out (by simpa using Nat.le_of_lt hz2))
      clear k0 k1
      go_wp2_with fail
      refine (hBd.out j hjl _ _ _ _ _ w1.heap.size (by omega) hF3.out hT3.out).mono ?_
      rintro e w8 ⟨rfl, hb8⟩
      have own8 := hide (own.out.stays hb8)
      have hz8 := hb8.size
      have hb9 := hide (hb.out.trans (hb8.mono hzr))
      clear hb8 k2 k3
      go_wp2_with (at_builtin; (refine wpList_push (e := 3) (enc := encI) (xs := LI j (fun v => bndK r1 r2 v t q)) (v := .slice av (j) cv) (base := w2.heap.size) rfl (.tmp 34) (.tmp 39) 29 rfl _ 8 Try.underlying29 info_int rfl ?d11 lenI oneI (j) ?d21 ?d31 ?d41 ⟨w8.heap.size, 0, none⟩ 1 (bndK r1 r2 j t q) ?d51 ?d61 ?d71 ?d81 ?d91 ?_); (case d11 => omega); (case d21 => exact li_len _ _); (case d31 => rfl); (case d41 => exact own8.out.alloc _); (case d51 => rfl); (case d61 => exact newI _ _ _ _ rfl); (case d71 => omega); (case d81 => unfold maxLen; omega); (case d91 => first | omega | (simp; done) | (simp; omega)); intro g1 c1 w1 own1 hb1 hgr1 hg1 hgl1; have hB1 := hide (unalloc hb1 (by omega)); replace own1 := hide own1; replace hb1 := hide hb1; replace hgr1 := hide hgr1)
      go_roundw
      case rel => exact ⟨j + 1, _, _, by omega, by go_num, rfl, hide (by rw [li_succ]; exact own1.out), hide (hb9.out.trans hB1.out)⟩
      case measure => simp [intOf]; omega
    · obtain rfl : n = j := by omega
      have hr8 := hide (own_row own.out)
      go_wp2
      go_ret2
      exact ⟨_, _, rfl, hr8.out, hbw.out.trans (hb.out.mono hbw.out.size)⟩
end Go.Proofs.Ytcehdpeeaogpiaa
