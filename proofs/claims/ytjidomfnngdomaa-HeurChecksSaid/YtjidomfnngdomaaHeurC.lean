/-
  What heur.Check and the reference's Guess return. Condition: the slices read.
-/
import Derived.Test.YtjidomfnngdomaaHeurG
import Derived.Test.YtjidomfnngdomaaDDist
namespace Go.Proofs.Ytjidomfnngdomaa
open Go.RowKit
set_option linter.unusedSimpArgs false
set_option linter.unusedVariables false
theorem row1' {w : World} {b : Nat} {x : Int} (h : w.cell? ⟨b, 0, none⟩ = some (.int .i64 x)) (B : Nat) (hB : w.heap.size ≤ B) : Row encI 1 w B (some ⟨b, 0, none⟩) [x] := (row1 h).mono hB
set_option maxRecDepth 100000 in
set_option maxHeartbeats 2000000 in
theorem hcheck_bad (N : Int) (a : Option Addr) (cap : Nat) (es : List Ed) (x : Int) (ah : Option Addr) (ch : Nat) (h : List Int) (w : World) (B : Nat) (hB : B ≤ w.heap.size) (hE : Row encE 3 w B a es) (hl : es.length ≤ 9223372036854775807) (h0 : lookErr N es [x] ≠ 0) :
    Calls Try.prog 23 #[.agg #[.int .i64 N, .slice a es.length cap], .int .i64 x, .slice ah h.length ch] w fun e w' => e = .returned (.int .i64 (lookErr N es [x])) ∧ Below w.heap.size w w' := by
  have q0 : (lookErr N es [x] != 0) = true := by simp [h0]
  have hL := hide (fun a1 c1 w B hB hE hP => look_any N a cap es a1 c1 1 [x] rfl w B hB hE hP hl (by omega))
  replace hE := hide hE
  clear h0
  go_enter Try.func23, Try.ntmps23
  go_wp2_with fail
  refine (hL.out _ _ _ (w.heap.size + 1 + 1) (by simp) ((hE.out.below ((by repeat (first | with_reducible exact Below.refl _ _ | with_reducible assumption | with_reducible refine up_drewN ?_ | with_reducible refine up_drew ?_ | (with_reducible refine up_alloc ?_ ?_; rotate_left; (first | omega | (simp <;> omega) | simp)) | (with_reducible refine up_set ?_ ?_; rotate_left; (first | omega | (simp <;> omega) | simp)) | (with_reducible refine Below.trans ?_ (Below.mono (by with_reducible assumption) ?_); rotate_left; (first | omega | (simp <;> omega) | simp)))) : Below w.heap.size w _) hB).mono (by omega)) ((row1 (by simp [go_sem])).mono (by simp))).mono ?_
  rintro e w1 ⟨rfl, hb1⟩
  go_wp2
  go_ret
  exact ⟨rfl, (by repeat (first | with_reducible exact Below.refl _ _ | with_reducible assumption | with_reducible refine up_drewN ?_ | with_reducible refine up_drew ?_ | (with_reducible refine up_alloc ?_ ?_; rotate_left; (first | omega | (simp <;> omega) | simp)) | (with_reducible refine up_set ?_ ?_; rotate_left; (first | omega | (simp <;> omega) | simp)) | (with_reducible refine Below.trans ?_ (Below.mono (by with_reducible assumption) ?_); rotate_left; (first | omega | (simp <;> omega) | simp))))⟩
set_option maxRecDepth 100000 in
set_option maxHeartbeats 4000000 in
theorem hcheck_ok (n : Nat) (a : Option Addr) (cap : Nat) (es : List Ed) (t : Nat) (ah : Option Addr) (ch : Nat) (h : List Int) (w : World) (B : Nat) (hB : B ≤ w.heap.size) (hE : Row encE 3 w B a es) (hH : Row encI 1 w B ah h) (hl : es.length ≤ 9223372036854775807) (hl2 : h.length ≤ 9223372036854775807) (h0 : lookErr (n : Int) es [(t : Int)] = 0) :
    Calls Try.prog 23 #[.agg #[.int .i64 (n : Int), .slice a es.length cap], .int .i64 (t : Int), .slice ah h.length ch] w fun e w' => e = .returned (.int .i64 (guessErr (n : Int) es (t : Int) h)) ∧ Below w.heap.size w w' := by
  have hr0 := hide (show guessErr (n : Int) es (t : Int) h = if (h.length : Int) ≠ n then 1 else if hErr h ≠ 0 then 1 else if hAt h t ≠ 0 then 7 else eErr (hAt h) es by unfold guessErr; rw [if_neg (by simp [h0])]; simp)
  obtain ⟨g1, g2⟩ := look_ok h0
  obtain ⟨g3, g4⟩ := posErr_ok g1
  obtain ⟨n1, n2, n3, n4⟩ := netErr_ok g3
  have ht : t < n := by have := g2 t (by simp); omega
  have hes := hide (show Right n es from n4)
  have hL := hide (fun a1 c1 w B hB hE hP => by have := look_any (n : Int) a cap es a1 c1 1 [(t : Int)] rfl w B hB hE hP hl (by omega); rw [h0] at this; exact this)
  replace hE := hide hE
  replace hH := hide hH
  clear h0 g1 g2 g3 g4 n4
  by_cases hlen : h.length = n
  · have hr := hide (show guessErr (n : Int) es (t : Int) h = if hErr h ≠ 0 then 1 else if hAt h t ≠ 0 then 7 else eErr (hAt h) es by rw [hr0.out, if_neg (by omega)])
    subst hlen
    clear hr0
    go_enter Try.func23, Try.ntmps23
    go_wp2_with fail
    refine (hL.out _ _ _ (w.heap.size + 1 + 1) (by simp) ((hE.out.below ((by repeat (first | with_reducible exact Below.refl _ _ | with_reducible assumption | with_reducible refine up_drewN ?_ | with_reducible refine up_drew ?_ | (with_reducible refine up_alloc ?_ ?_; rotate_left; (first | omega | (simp <;> omega) | simp)) | (with_reducible refine up_set ?_ ?_; rotate_left; (first | omega | (simp <;> omega) | simp)) | (with_reducible refine Below.trans ?_ (Below.mono (by with_reducible assumption) ?_); rotate_left; (first | omega | (simp <;> omega) | simp)))) : Below w.heap.size w _) hB).mono (by omega)) ((row1 (by simp [go_sem])).mono (by simp))).mono ?_
    rintro e w1 ⟨rfl, hb1⟩
    have k0 : w1.cell? ⟨w.heap.size, 0, none⟩ = some (.int .i64 (h.length : Int)) := cu_below hb1 (by simp [go_sem]) (by simp <;> omega)
    have k1 : w1.cell? ⟨w.heap.size, 1, none⟩ = some (.slice a es.length cap) := cu_below hb1 (by simp [go_sem]) (by simp <;> omega)
    have hbw := hide (unalloc (unalloc (hb1.mono (by simp <;> omega)) (by simp)) (Nat.le_refl _) : Below w.heap.size w w1)
    have hz1 : w.heap.size < w1.heap.size := cell_lt k0
    clear hb1
    have hH1 := hide (hH.out.below hbw.out hB)
    go_wp2
    go_loopw [9, 26] (fun _ i wr => ∃ k : Nat, k ≤ h.length ∧ i = .int .i64 k ∧ Hid (hErr h = hErr (h.drop k)) ∧ w1 = wr) (fun _ i _ => h.length - (intOf i).toNat)
    case atStart => exact ⟨0, Nat.zero_le _, rfl, rfl, rfl⟩
    case round =>
      obtain ⟨k, hk, rfl, hrest, rfl⟩ := hrel
      by_cases hlt : k < h.length
      · obtain ⟨b, o, rfl, hbB, e1⟩ := hH1.out.int k hlt
        have hbl := cell_lt e1
        obtain ⟨x, hx⟩ : ∃ x, x = h[k] := ⟨_, rfl⟩
        rw [← hx] at e1
        replace hx := hide hx
        by_cases q : x < 0 ∨ 1099511627776 < x
        · have hq := hide (hErr_hit hlt (by rw [← hx.out]; exact q))
          have q2 : x < 0 ∨ (0 ≤ x ∧ 1099511627776 < x) := by omega
          clear q
          rcases q2 with q | ⟨q0, q⟩
          all_goals
            go_wp2
            go_ret
            exact ⟨ret_int (by rw [hr.out, hrest.out, hq.out, if_pos (by simp)]), hbw.out⟩
        · have hq := hide (hErr_miss hlt (by rw [← hx.out]; exact q))
          have q1 : 0 ≤ x := by omega
          have q2 : x ≤ 1099511627776 := by omega
          clear q
          go_wp2
          go_roundw
          case rel => exact ⟨k + 1, by omega, by go_num, hide (by rw [hrest.out, hq.out]), (by first | rfl | trivial)⟩
          case measure => simp [intOf]; omega
      · have hz : hErr h = 0 := by rw [hrest.out, List.drop_eq_nil_of_le (by omega)]; rfl
        have hf := hide (hAt_range hz)
        have hr2 := hide (show guessErr (h.length : Int) es (t : Int) h = if hAt h t ≠ 0 then 7 else eErr (hAt h) es by rw [hr.out, if_neg (by simp [hz])])
        have hHL : Row encI 1 w1 B ah (LI h.length (hAt h)) := by rw [li_hAt]; exact hH1.out
        clear hz hr hrest
        obtain ⟨b, o, rfl, hbB, e1⟩ := hHL.atI t ht
        replace hHL := hide hHL
        have hbl := cell_lt e1
        have it : (0 : Int) ≤ (t : Int) ∧ (t : Int) < (h.length : Int) := by omega
        obtain ⟨x, hx⟩ : ∃ x, x = hAt h t := ⟨_, rfl⟩
        rw [← hx] at e1
        replace hx := hide hx
        by_cases q : x = 0
        · subst q
          have hr3 := hide (show guessErr (h.length : Int) es (t : Int) h = eErr (hAt h) es by rw [hr2.out, if_neg (by simp [← hx.out])])
          clear hr2
          go_wp2
          go_loopw [45] (fun i wr => ∃ k : Nat, k ≤ es.length ∧ i = .int .i64 k ∧ Hid (eErr (hAt h) es = eErr (hAt h) (es.drop k)) ∧ Hid (Below w1.heap.size w1 wr)) (fun i _ => es.length - (intOf i).toNat)
          case atStart => exact ⟨0, Nat.zero_le _, rfl, rfl, Below.refl _ _⟩
          case round =>
            obtain ⟨k, hk, rfl, hrest, hb'⟩ := hrel
            have hbr := hide (hbw.out.trans (hb'.out.mono (by omega)))
            have hzr := hb'.out.size
            by_cases hlt : k < es.length
            · obtain ⟨u, v, d1, d2, d3, d4, d5, d6, -⟩ := right_edge hes.out k hlt
              obtain ⟨b2, o2, rfl, hbB2, c0, c1, c2⟩ := hE.out.ed k hlt
              have c0 := cu_below hbr.out c0 (by simp; omega)
              have c1 := cu_below hbr.out c1 (by simp; omega)
              have c2 := cu_below hbr.out c2 (by simp; omega)
              rw [d1] at c0
              rw [d2] at c1
              have hHr := (hHL.out.below hb'.out (by omega))
              obtain ⟨b3, o3, e3, hb3, f1⟩ := hHr.atI u d3
              simp only [Option.some.injEq, Addr.mk.injEq] at e3
              obtain ⟨rfl, rfl, _⟩ := e3
              obtain ⟨b3, o3, e3, _, f2⟩ := hHr.atI v d4
              simp only [Option.some.injEq, Addr.mk.injEq] at e3
              obtain ⟨rfl, rfl, _⟩ := e3
              have qe : (es[k].c + hAt h es[k].v.toNat < hAt h es[k].u.toNat) ↔ (es[k].c + hAt h v < hAt h u) := by rw [d1, d2]; simp
              have g1 := hf.out u
              have g2 := hf.out v
              have hit := eErr_hit (f := hAt h) hlt
              have miss := eErr_miss (f := hAt h) hlt
              rw [qe] at hit miss
              clear qe hHr
              obtain ⟨c, hc⟩ : ∃ c, c = es[k].c := ⟨_, rfl⟩
              obtain ⟨p, hp⟩ : ∃ p, p = hAt h u := ⟨_, rfl⟩
              obtain ⟨r, hr⟩ : ∃ r, r = hAt h v := ⟨_, rfl⟩
              rw [← hc] at hit miss c2 d5 d6
              rw [← hp] at hit miss f1 g1
              rw [← hr] at hit miss f2 g2
              replace hit := hide hit
              replace miss := hide miss
              replace hc := hide hc
              replace hp := hide hp
              replace hr := hide hr
              replace d1 := hide d1
              replace d2 := hide d2
              have l0 := cell_lt c0
              have l1 := cell_lt f1
              have k3 := cu_below hb'.out k1 hz1
              have iu : (0 : Int) ≤ (u : Int) ∧ (u : Int) < (h.length : Int) := by omega
              have iv : (0 : Int) ≤ (v : Int) ∧ (v : Int) < (h.length : Int) := by omega
              have ik : (0 : Int) ≤ (k : Int) ∧ (k : Int) < (es.length : Int) := by omega
              have hw := hide (show IntKind.i64.wrap (c + r) = c + r from IntWalk.i64_in _ (by omega))
              by_cases q : c + r < p
              · have hq := hide (hit.out q)
                go_wp2
                replace hw := hw.out
                go_quiet (fail)
                clear hw
                go_wp2
                go_ret
                exact ⟨ret_int (by rw [hr3.out, hrest.out, hq.out]), up_drewN (up_alloc hbr.out (by omega))⟩
              · have hq := hide (miss.out q)
                go_wp2
                replace hw := hw.out
                go_quiet (fail)
                clear hw
                go_wp2
                go_roundw
                case rel => exact ⟨k + 1, by omega, by go_num, hide (by rw [hrest.out]; exact hq.out), hide (up_drewN (up_alloc hb'.out hzr))⟩
                case measure => simp [intOf]; omega
            · go_wp2
              go_ret
              refine ⟨ret_int ?_, hbr.out⟩
              rw [hr3.out, hrest.out, List.drop_eq_nil_of_le (by omega)]
              rfl
        · have hr3 := hide (show guessErr (h.length : Int) es (t : Int) h = 7 by rw [hr2.out, if_pos (by rw [← hx.out]; exact q)])
          have q2 : (x != 0) = true := by simp [q]
          clear q hr2
          go_wp2
          go_ret
          exact ⟨ret_int hr3.out.symm, hbw.out⟩
  · have hr := hide (show guessErr (n : Int) es (t : Int) h = 1 by rw [hr0.out, if_pos (by omega)])
    have q0 : ((h.length : Int) != (n : Int)) = true := by simp; omega
    clear hr0 hlen
    go_enter Try.func23, Try.ntmps23
    go_wp2_with fail
    refine (hL.out _ _ _ (w.heap.size + 1 + 1) (by simp) ((hE.out.below ((by repeat (first | with_reducible exact Below.refl _ _ | with_reducible assumption | with_reducible refine up_drewN ?_ | with_reducible refine up_drew ?_ | (with_reducible refine up_alloc ?_ ?_; rotate_left; (first | omega | (simp <;> omega) | simp)) | (with_reducible refine up_set ?_ ?_; rotate_left; (first | omega | (simp <;> omega) | simp)) | (with_reducible refine Below.trans ?_ (Below.mono (by with_reducible assumption) ?_); rotate_left; (first | omega | (simp <;> omega) | simp)))) : Below w.heap.size w _) hB).mono (by omega)) ((row1 (by simp [go_sem])).mono (by simp))).mono ?_
    rintro e w1 ⟨rfl, hb1⟩
    have k0 : w1.cell? ⟨w.heap.size, 0, none⟩ = some (.int .i64 (n : Int)) := cu_below hb1 (by simp [go_sem]) (by simp <;> omega)
    have hbw := hide (unalloc (unalloc (hb1.mono (by simp <;> omega)) (by simp)) (Nat.le_refl _) : Below w.heap.size w w1)
    have hz1 : w.heap.size < w1.heap.size := cell_lt k0
    clear hb1
    go_wp2
    go_ret
    exact ⟨ret_int hr.out.symm, hbw.out⟩
end Go.Proofs.Ytjidomfnngdomaa
