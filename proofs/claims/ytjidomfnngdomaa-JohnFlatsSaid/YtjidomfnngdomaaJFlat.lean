/-
  What john.Flat returns. Condition: the slices read.
-/
import Derived.Test.YtjidomfnngdomaaFlat
namespace Go.Proofs.Ytjidomfnngdomaa
open Go.RowKit
set_option linter.unusedSimpArgs false
set_option linter.unusedVariables false
def jErr (N : Int) (es : List Ed) (h : List Int) : Int :=
  if netErr N es ≠ 0 then netErr N es else if (h.length : Int) ≠ N then 1 else if lErr h ≠ 0 then 1 else flErr (es.map (flE (lAt h)))
/-- a net and an error handed back: the net is none where there is an error -/
def FlatBack (e0 : TypeId) (N : Int) (es : List Ed) (err : Int) (w : World) (e : Ending) (w' : World) : Prop := NetBack e0 (if err = 0 then N else 0) (if err = 0 then es else []) err w e w'
theorem FlatBack.none {e0 : TypeId} {N : Int} {es : List Ed} {err err' : Int} {w w' : World} {e : Ending} (h0 : err = err') (h1 : err' ≠ 0) (he : e = .returned (.tuple #[.agg #[.int .i64 0, .slice none 0 0], .int .i64 err'])) (hb : Below w.heap.size w w') : FlatBack e0 N es err w e w' := by
  subst h0
  unfold FlatBack
  rw [if_neg h1, if_neg h1]
  exact ⟨_, he, Own.nil _ _, hb⟩
set_option maxRecDepth 100000 in
set_option maxHeartbeats 2000000 in
theorem jflat_bad (N : Int) (a : Option Addr) (cap : Nat) (es : List Ed) (ah : Option Addr) (ch : Nat) (h : List Int) (w : World) (B : Nat) (hB : B ≤ w.heap.size) (hE : Row encE 3 w B a es) (hl : es.length ≤ 9223372036854775807) (h0 : netErr N es ≠ 0) :
    Calls Try.prog 19 #[.agg #[.int .i64 N, .slice a es.length cap], .slice ah h.length ch] w (FlatBack 39 N (es.map (flE (lAt h))) (jErr N es h) w) := by
  have q0 : (netErr N es != 0) = true := by simp [h0]
  have hr := hide (show jErr N es h = netErr N es by unfold jErr; rw [if_pos h0])
  have hC := hide (fun w hB hE => check_any N a cap es w B hB hE hl)
  replace hE := hide hE
  replace h0 := hide h0
  go_enter Try.func19, Try.ntmps19
  go_wp2_with fail
  refine (hC.out _ (by simp; omega) (hE.out.below ((by repeat (first | with_reducible exact Below.refl _ _ | with_reducible assumption | with_reducible refine up_drewN ?_ | with_reducible refine up_drew ?_ | (with_reducible refine up_alloc ?_ ?_; rotate_left; (first | omega | (simp <;> omega) | simp)) | (with_reducible refine up_set ?_ ?_; rotate_left; (first | omega | (simp <;> omega) | simp)) | (with_reducible refine Below.trans ?_ (Below.mono (by with_reducible assumption) ?_); rotate_left; (first | omega | (simp <;> omega) | simp)))) : Below w.heap.size w _) hB)).mono ?_
  rintro e w1 ⟨rfl, hb1⟩
  obtain ⟨hc1, hf1⟩ := bcell hb1
  have hz1 : w.heap.size + 1 < w1.heap.size := by have := hb1.size; simp at this; omega
  go_wp2
  exact bodyPost_ret (v := .tuple #[.agg #[.int .i64 0, .slice none 0 0], .int .i64 (netErr N es)]) (by simp [results, Try.results19, go_sem, hc1, hz1, hf1]) rfl (FlatBack.none hr.out h0.out rfl (by repeat (first | with_reducible exact Below.refl _ _ | with_reducible assumption | with_reducible refine up_drewN ?_ | with_reducible refine up_drew ?_ | (with_reducible refine up_alloc ?_ ?_; rotate_left; (first | omega | (simp <;> omega) | simp)) | (with_reducible refine up_set ?_ ?_; rotate_left; (first | omega | (simp <;> omega) | simp)) | (with_reducible refine Below.trans ?_ (Below.mono (by with_reducible assumption) ?_); rotate_left; (first | omega | (simp <;> omega) | simp)))))
set_option maxRecDepth 100000 in
set_option maxHeartbeats 4000000 in
theorem jflat_ok (n : Nat) (a : Option Addr) (cap : Nat) (es : List Ed) (ah : Option Addr) (ch : Nat) (h : List Int) (w : World) (B : Nat) (hB : B ≤ w.heap.size) (hE : Row encE 3 w B a es) (hH : Row encI 1 w B ah h) (hl2 : h.length ≤ 9223372036854775807) (h0 : netErr (n : Int) es = 0) :
    Calls Try.prog 19 #[.agg #[.int .i64 (n : Int), .slice a es.length cap], .slice ah h.length ch] w (FlatBack 39 (n : Int) (es.map (flE (lAt h))) (jErr (n : Int) es h) w) := by
  have hr0 := hide (show jErr (n : Int) es h = if (h.length : Int) ≠ n then 1 else if lErr h ≠ 0 then 1 else flErr (es.map (flE (lAt h))) by unfold jErr; rw [if_neg (by simp [h0])])
  obtain ⟨n1, n2, n3, n4⟩ := netErr_ok h0
  have hes := hide (show Right n es from n4)
  have hC := hide (fun w hB hE => by have := check_any (n : Int) a cap es w B hB hE (by omega); rw [h0] at this; exact this)
  replace hE := hide hE
  replace hH := hide hH
  clear h0 n4
  by_cases hlen : h.length = n
  · have hr := hide (show jErr (n : Int) es h = if lErr h ≠ 0 then 1 else flErr (es.map (flE (lAt h))) by rw [hr0.out, if_neg (by omega)])
    subst hlen
    clear hr0
    go_enter Try.func19, Try.ntmps19
    go_wp2_with fail
    refine (hC.out _ (by simp; omega) (hE.out.below ((by repeat (first | with_reducible exact Below.refl _ _ | with_reducible assumption | with_reducible refine up_drewN ?_ | with_reducible refine up_drew ?_ | (with_reducible refine up_alloc ?_ ?_; rotate_left; (first | omega | (simp <;> omega) | simp)) | (with_reducible refine up_set ?_ ?_; rotate_left; (first | omega | (simp <;> omega) | simp)) | (with_reducible refine Below.trans ?_ (Below.mono (by with_reducible assumption) ?_); rotate_left; (first | omega | (simp <;> omega) | simp)))) : Below w.heap.size w _) hB)).mono ?_
    rintro e w1 ⟨rfl, hb1⟩
    have k0 : w1.cell? ⟨w.heap.size, 0, none⟩ = some (.int .i64 (h.length : Int)) := cu_below hb1 (by simp [go_sem]) (by simp <;> omega)
    have k1 : w1.cell? ⟨w.heap.size, 1, none⟩ = some (.slice a es.length cap) := cu_below hb1 (by simp [go_sem]) (by simp <;> omega)
    have r0 : w1.cell? ⟨w.heap.size + 1, 0, none⟩ = some (.int .i64 0) := cu_below hb1 (by simp [go_sem]) (by simp)
    have r1 : w1.cell? ⟨w.heap.size + 1, 1, none⟩ = some (.slice none 0 0) := cu_below hb1 (by simp [go_sem]) (by simp)
    have f0 : w1.frozen? ⟨w.heap.size + 1, 0, none⟩ = false := fu_below hb1 (by simp [go_sem]) (by simp)
    have f1 : w1.frozen? ⟨w.heap.size + 1, 1, none⟩ = false := fu_below hb1 (by simp [go_sem]) (by simp)
    have hbw := hide (unalloc (unalloc (hb1.mono (by simp <;> omega)) (by simp)) (Nat.le_refl _) : Below w.heap.size w w1)
    have hz1 : w.heap.size + 1 < w1.heap.size := cell_lt r0
    have hz0 : w.heap.size < w1.heap.size := by omega
    clear hb1
    have hH1 := hide (hH.out.below hbw.out hB)
    go_wp2
    go_loopw [8, 26] (fun _ i wr => ∃ k : Nat, k ≤ h.length ∧ i = .int .i64 k ∧ Hid (lErr h = lErr (h.drop k)) ∧ w1 = wr) (fun _ i _ => h.length - (intOf i).toNat)
    case atStart => exact ⟨0, Nat.zero_le _, rfl, rfl, rfl⟩
    case round =>
      obtain ⟨k, hk, rfl, hrest, rfl⟩ := hrel
      by_cases hlt : k < h.length
      · obtain ⟨b, o, rfl, hbB, e1⟩ := hH1.out.int k hlt
        have hbl := cell_lt e1
        obtain ⟨x, hx⟩ : ∃ x, x = h[k] := ⟨_, rfl⟩
        rw [← hx] at e1
        replace hx := hide hx
        by_cases q : x < -1000000 ∨ 1000000 < x
        · have hq := hide (lErr_hit hlt (by rw [← hx.out]; exact q))
          have q2 : x < -1000000 ∨ (-1000000 ≤ x ∧ 1000000 < x) := by omega
          clear q
          rcases q2 with q | ⟨q0, q⟩
          all_goals
            go_wp2
            exact bodyPost_ret (v := .tuple #[.agg #[.int .i64 0, .slice none 0 0], .int .i64 1]) (by simp [results, Try.results19, go_sem, r0, r1, hz1, f0, f1]) rfl (FlatBack.none (by rw [hr.out, hrest.out, hq.out, if_pos (by simp)]) (by omega) rfl ((hbw.out.setCell (by simp) _).setCell (by simp) _))
        · have hq := hide (lErr_miss hlt (by rw [← hx.out]; exact q))
          have q1 : -1000000 ≤ x := by omega
          have q2 : x ≤ 1000000 := by omega
          clear q
          go_wp2
          go_roundw
          case rel => exact ⟨k + 1, by omega, by go_num, hide (by rw [hrest.out, hq.out]), (by first | rfl | trivial)⟩
          case measure => simp [intOf]; omega
      · have hz : lErr h = 0 := by rw [hrest.out, List.drop_eq_nil_of_le (by omega)]; rfl
        have hf := hide (lAt_range hz)
        have hr2 := hide (show jErr (h.length : Int) es h = flErr (es.map (flE (lAt h))) by rw [hr.out, if_neg (by simp [hz])])
        have hHL : Row encI 1 w1 B ah (LI h.length (lAt h)) := by rw [li_lAt]; exact hH1.out
        have hF := hide (flat_any h.length a cap es (lAt h) ah ch w1 B (by omega) (hE.out.below hbw.out hB) hHL n3 hes.out hf.out)
        clear hz hr hrest hHL
        obtain ⟨m, hm⟩ : ∃ m, m = (es.map (flE (lAt h))).length := ⟨_, rfl⟩
        have hm6 : m ≤ 600 := by rw [hm]; simp; omega
        obtain ⟨es2, he2⟩ : ∃ es2, es2 = es.map (flE (lAt h)) := ⟨_, rfl⟩
        rw [← he2] at hr2 hF hm
        replace he2 := hide he2
        replace hm := hide hm
        go_wp2_with fail
        refine hF.out.mono ?_
        rintro e w2 ⟨v, rfl, own, hb2⟩
        obtain ⟨a0, c0, rfl⟩ := own.shape hm.out.symm
        have hbw2 := hide (hbw.out.trans (hb2.mono (by omega)))
        have r0 := cu_below hb2 r0 hz1
        have r1 := cu_below hb2 r1 hz1
        have f0 := fu_below hb2 f0 hz1
        have f1 := fu_below hb2 f1 hz1
        have hz2 : w1.heap.size ≤ w2.heap.size := hb2.size
        have hb3 : Below w2.heap.size w2 (w2.alloc (.cells #[.int .i64 (h.length : Int), .slice a0 m c0] 27)) := (Below.refl _ _).alloc (Nat.le_refl _) _
        have own3 := hide (own.stays hb3)
        have hbw3 := hide (hbw2.out.trans (hb3.mono (by omega)))
        have r0 := cu_below hb3 r0 (by simp; omega)
        have r1 := cu_below hb3 r1 (by simp; omega)
        have f0 := fu_below hb3 f0 (by simp; omega)
        have f1 := fu_below hb3 f1 (by simp; omega)
        have o0 : (w2.alloc (.cells #[.int .i64 (h.length : Int), .slice a0 m c0] 27)).cell? ⟨w2.heap.size, 0, none⟩ = some (.int .i64 (h.length : Int)) := by simp [go_sem]
        have o1 : (w2.alloc (.cells #[.int .i64 (h.length : Int), .slice a0 m c0] 27)).cell? ⟨w2.heap.size, 1, none⟩ = some (.slice a0 m c0) := by simp [go_sem]
        clear own hb2 hb3
        go_wp2
        generalize (w2.alloc (.cells #[.int .i64 (h.length : Int), .slice a0 m c0] 27)) = w3 at own3 hbw3 r0 r1 f0 f1 o0 o1 ⊢
        have hz3 : w2.heap.size < w3.heap.size := cell_lt o0
        have hrow : Row encE 3 w3 w3.heap.size a0 es2 := by
          obtain ⟨a', c', hv, hr, _⟩ := own3.out.row lenE
          simp only [Value.slice.injEq] at hv
          obtain ⟨rfl, _⟩ := hv
          exact hr
        replace hrow := hide hrow
        go_loopw [44] (fun i wr => ∃ k : Nat, k ≤ m ∧ i = .int .i64 k ∧ Hid (flErr es2 = flErr (es2.drop k)) ∧ Hid (Below w3.heap.size w3 wr)) (fun i _ => m - (intOf i).toNat)
        case atStart => exact ⟨0, Nat.zero_le _, rfl, rfl, Below.refl _ _⟩
        case round =>
          obtain ⟨k, hk, rfl, hrest, hb'⟩ := hrel
          have hzr := hb'.out.size
          have r0 := cu_below hb'.out r0 (by simp; omega)
          have r1 := cu_below hb'.out r1 (by simp; omega)
          have f0 := fu_below hb'.out f0 (by simp; omega)
          have f1 := fu_below hb'.out f1 (by simp; omega)
          have o0 := cu_below hb'.out o0 hz3
          have o1 := cu_below hb'.out o1 hz3
          have hbr := hide (hbw3.out.trans (hb'.out.mono (by omega)))
          have hrr : w.heap.size + 1 < wr.heap.size := by omega
          by_cases hlt : k < m
          · have hlt' : k < es2.length := by have := hm.out; omega
            obtain ⟨b2, o2, rfl, hbB2, c0', c1', c2'⟩ := hrow.out.ed k hlt'
            have d0 := cu_below hb'.out c0' (by simp; omega)
            have d1 := cu_below hb'.out c1' (by simp; omega)
            have d2 := cu_below hb'.out c2' (by simp; omega)
            have ik : (0 : Int) ≤ (k : Int) ∧ (k : Int) < (m : Int) := by omega
            have hbl : b2 < wr.heap.size := cell_lt d0
            have hit := hide (flErr_hit (es := es2) hlt')
            have miss := hide (flErr_miss (es := es2) hlt')
            obtain ⟨c, hc⟩ : ∃ c, c = es2[k].c := ⟨_, rfl⟩
            rw [← hc] at d2 hit miss
            replace hc := hide hc
            obtain ⟨u, hu⟩ : ∃ u, u = es2[k].u := ⟨_, rfl⟩
            obtain ⟨v, hv⟩ : ∃ v, v = es2[k].v := ⟨_, rfl⟩
            rw [← hu] at d0
            rw [← hv] at d1
            replace hu := hide hu
            replace hv := hide hv
            clear c0' c1' c2'
            by_cases q1 : c < 0
            · have e1 : flErr1 c = 4 := by unfold flErr1; rw [if_pos q1]
              have hq := hide (show jErr (h.length : Int) es h = 4 by rw [hr2.out, hrest.out, hit.out (by rw [e1]; omega), e1])
              replace e1 := hide e1
              go_wp2
              exact bodyPost_ret (v := .tuple #[.agg #[.int .i64 0, .slice none 0 0], .int .i64 4]) (by simp [results, Try.results19, go_sem, r0, r1, hrr, f0, f1]) rfl (FlatBack.none hq.out (by omega) rfl (by first | exact ((up_alloc hbr.out (by omega)).setCell (by simp) _).setCell (by simp) _ | exact up_alloc ((hbr.out.setCell (by simp) _).setCell (by simp) _) (by simp; omega)))
            by_cases q2 : 10000 < c
            · have e1 : flErr1 c = 2 := by unfold flErr1; rw [if_neg q1, if_pos q2]
              have hq := hide (show jErr (h.length : Int) es h = 2 by rw [hr2.out, hrest.out, hit.out (by rw [e1]; omega), e1])
              replace e1 := hide e1
              go_wp2
              exact bodyPost_ret (v := .tuple #[.agg #[.int .i64 0, .slice none 0 0], .int .i64 2]) (by simp [results, Try.results19, go_sem, r0, r1, hrr, f0, f1]) rfl (FlatBack.none hq.out (by omega) rfl (by first | exact ((up_alloc hbr.out (by omega)).setCell (by simp) _).setCell (by simp) _ | exact up_alloc ((hbr.out.setCell (by simp) _).setCell (by simp) _) (by simp; omega)))
            · have e1 : flErr1 c = 0 := by unfold flErr1; rw [if_neg q1, if_neg q2]
              have hq := hide (miss.out e1)
              replace e1 := hide e1
              go_wp2
              go_roundw
              case rel => exact ⟨k + 1, by omega, by go_num, hide (by rw [hrest.out]; exact hq.out), hide (up_alloc hb'.out hzr)⟩
              case measure => simp [intOf]; omega
          · obtain rfl : k = m := by omega
            have hq := hide (show jErr (h.length : Int) es h = 0 by rw [hr2.out, hrest.out, List.drop_eq_nil_of_le (by have := hm.out; omega)]; rfl)
            have own4 := own3.out.stays hb'.out
            have hne : (Value.slice a0 k c0).ownBlock ≠ some (w.heap.size + 1) := fun e => by have := (own4.block_lt _ e).1; omega
            have own5 := hide (((own4.elsewhere (p := ⟨w.heap.size + 1, 0, none⟩) hne (.int .i64 (h.length : Int))).elsewhere (p := ⟨w.heap.size + 1, 1, none⟩) hne (.slice a0 k c0)).base_le (show w.heap.size ≤ w1.heap.size by omega))
            clear own4 hne
            go_wp2
            refine bodyPost_ret (v := .tuple #[.agg #[.int .i64 (h.length : Int), .slice a0 k c0], .int .i64 0]) (by simp [results, Try.results19, go_sem, r0, r1, hrr]) rfl ?_
            rw [hq.out]
            unfold FlatBack
            rw [if_pos rfl, if_pos rfl, ← he2.out]
            exact ⟨_, rfl, own5.out, (hbr.out.setCell (by simp) _).setCell (by simp) _⟩
  · have hr := hide (show jErr (n : Int) es h = 1 by rw [hr0.out, if_pos (by omega)])
    have q0 : ((h.length : Int) != (n : Int)) = true := by simp; omega
    clear hr0 hlen
    go_enter Try.func19, Try.ntmps19
    go_wp2_with fail
    refine (hC.out _ (by simp; omega) (hE.out.below ((by repeat (first | with_reducible exact Below.refl _ _ | with_reducible assumption | with_reducible refine up_drewN ?_ | with_reducible refine up_drew ?_ | (with_reducible refine up_alloc ?_ ?_; rotate_left; (first | omega | (simp <;> omega) | simp)) | (with_reducible refine up_set ?_ ?_; rotate_left; (first | omega | (simp <;> omega) | simp)) | (with_reducible refine Below.trans ?_ (Below.mono (by with_reducible assumption) ?_); rotate_left; (first | omega | (simp <;> omega) | simp)))) : Below w.heap.size w _) hB)).mono ?_
    rintro e w1 ⟨rfl, hb1⟩
    obtain ⟨hc1, hf1⟩ := bcell hb1
    have hz1 : w.heap.size + 1 < w1.heap.size := by have := hb1.size; simp at this; omega
    have hz0 : w.heap.size < w1.heap.size := by omega
    go_wp2
    exact bodyPost_ret (v := .tuple #[.agg #[.int .i64 0, .slice none 0 0], .int .i64 1]) (by simp [results, Try.results19, go_sem, hc1, hz1, hf1]) rfl (FlatBack.none hr.out (by omega) rfl (by repeat (first | with_reducible exact Below.refl _ _ | with_reducible assumption | with_reducible refine up_drewN ?_ | with_reducible refine up_drew ?_ | (with_reducible refine up_alloc ?_ ?_; rotate_left; (first | omega | (simp <;> omega) | simp)) | (with_reducible refine up_set ?_ ?_; rotate_left; (first | omega | (simp <;> omega) | simp)) | (with_reducible refine Below.trans ?_ (Below.mono (by with_reducible assumption) ?_); rotate_left; (first | omega | (simp <;> omega) | simp)))))
end Go.Proofs.Ytjidomfnngdomaa
