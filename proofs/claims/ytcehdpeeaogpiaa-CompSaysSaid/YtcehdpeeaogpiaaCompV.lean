/-
  What comp's visit does. Conditions: the finder reads as CX says; a right net; the place has not come.
-/
import Derived.Test.YtcehdpeeaogpiaaCompX
import Derived.Test.YtcehdpeeaogpiaaROut
import Derived.BigQuiet
import Derived.BigRegion
import Derived.Deep.QuietTactic
import Derived.Deep.LoopGhost
import Derived.Deep.DeepCutAuto
import Derived.RegionTactic
namespace Go.Proofs.Ytcehdpeeaogpiaa
open Go.RowKit
set_option linter.unusedSimpArgs false
set_option linter.unusedVariables false
theorem setAll_step {α : Type} (f : Nat → α) (l : List Nat) (u : Nat) (x : α) : setAll f (l ++ [u]) x = upz (setAll f l x) u x := by
  unfold setAll
  rw [List.foldl_append]
  rfl
/-- the first k of a slice of the call's own -/
theorem Own.takeN {α : Type} {enc : α → List Value} {e : TypeId} {w : World} {base g n c : Nat} {xs : List α} (h : Own enc 1 e w base (.slice (some ⟨g, 0, none⟩) n c) xs) (hlen : ∀ x, (enc x).length = 1) (k : Nat) (hk : k ≤ n) : Own enc 1 e w base (.slice (some ⟨g, 0, none⟩) k c) (xs.take k) := by
  rcases h.2 with ⟨h1, _⟩ | ⟨g', c', cur, hv, h1, h2, h3, h4, h5, h6⟩
  · cases h1
  · simp only [Value.slice.injEq, Option.some.injEq, Addr.mk.injEq] at hv
    obtain ⟨⟨rfl, _⟩, hn, rfl⟩ := hv
    have hf : ∀ l : List α, (l.flatMap enc).length = l.length := by
      intro l
      induction l with
      | nil => rfl
      | cons x r ih => rw [List.flatMap_cons, List.length_append, hlen, ih, List.length_cons]; omega
    have hft : ∀ (l : List α) (j : Nat), (l.take j).flatMap enc = (l.flatMap enc).take j := by
      intro l
      induction l with
      | nil => intro j; simp
      | cons x r ih =>
        intro j
        cases j with
        | zero => simp
        | succ j =>
          rw [List.take_succ_cons, List.flatMap_cons, List.flatMap_cons, ih, List.take_append]
          have := hlen x
          rw [this, List.take_of_length_le (by omega : (enc x).length ≤ j + 1)]
          congr 2
    have hl : (xs.take k).length = k := by simp; omega
    refine ⟨?_, .inr ⟨g, c, cur, by rw [hl], h1, h2, by omega, h4, h5, ?_⟩⟩
    · rw [hf, hl]; omega
    · rw [hl, hft, ← h6, List.take_take]
      congr 1
      omega
theorem nl_get (l : List Nat) (i : Nat) (h : i < l.length) : (NL l)[i]'(by rw [nl_len]; exact h) = (l[i] : Int) := by simp [NL]
set_option maxRecDepth 100000 in
set_option maxHeartbeats 20000000 in
theorem visit_any (base n m cap fb O gi gl gt gm B : Nat) (a : Option Addr) (es : List Ed) (wS : World) (hm : m = es.length) (hn : n ≤ 64) (hl : es.length ≤ 600) (hes : Right n es) (hC : CE n m cap fb O gi gl gt gm B a es wS) :
    ∀ (k : Nat) (s : TS) (v : Nat) (ao : Option Addr) (K co : Nat) (w : World), K = s.st.length → CX base n a m cap fb O gi gl gt gm (.slice ao K co) s wS w → TW n s → s.idx v = 0 → v < n → whites n s ≤ k →
      Calls Try.prog 95 #[.pointer (some ⟨fb, 0, none⟩), .int .i64 (v : Int)] w fun e w' => e = .returned (.tuple #[]) ∧ ∃ ao' K' co', K' = (tvisit (nes es) k s v).st.length ∧ CX base n a m cap fb O gi gl gt gm (.slice ao' K' co') (tvisit (nes es) k s v) wS w' := by
  intro k
  induction k with
  | zero =>
    intro s v ao K co w _ _ _ h0 hv hk
    have := whites_enter hv h0
    omega
  | succ k ih =>
    intro s v ao K co w hK hX hT h0 hv hk
    have hIH := hide ih
    obtain ⟨ht1, ht2, ht3⟩ := tw_enter hT h0 hv
    have hsn : s.nx + 1 ≤ n := by have := ht1.nx; simp only [tenter] at this; omega
    have hKn : K ≤ n := by have := hT.len; omega
    have hTk := hide (tvisit_tw (nes_right hes) k)
    have hfin := hide (show tvisit (nes es) (k + 1) s v = tfin ((outV (nes es) v).foldl (tedge (tvisit (nes es) k) v) (tenter s v)) v from rfl)
    obtain ⟨N, hN⟩ : ∃ N, N = s.nx + 1 := ⟨_, rfl⟩
    have hNi : (s.nx : Int) + 1 = (N : Int) := by omega
    have hNn : N ≤ 64 := by omega
    have hwr : IntKind.i64.wrap ((s.nx : Int) + 1) = (N : Int) := by rw [hNi]; exact IntWalk.i64_in _ (by omega)
    have iv : (0 : Int) ≤ (v : Int) ∧ (v : Int) < (n : Int) := by omega
    have hX1 := hide (hX.setN N)
    have c7 := hX.c7
    have f7 := hX.fz 7
    have zfb := cell_lt c7
    simp only at zfb
    replace ih := hIH
    clear ih
    replace hes := hide hes
    replace hC := hide hC
    replace hT := hide hT
    replace hX := hide hX
    replace h0 := hide h0
    replace hk := hide hk
    replace ht1 := hide ht1
    replace ht2 := hide ht2
    replace ht3 := hide ht3
    replace hK := hide hK
    replace hN := hide hN
    clear hNi
    go_enter Try.func95, Try.ntmps95
    go_upto_region 1 with fail
    obtain ⟨w1, h1⟩ : ∃ w1, w1 = w.setCell ⟨fb, 7, none⟩ (.int .i64 (N : Int)) := ⟨_, rfl⟩
    rw [← h1] at hX1
    simp only [← h1]
    clear h1 c7 f7 zfb
    have c3 := hX1.out.c3
    have c4 := hX1.out.c4
    have c7 : w1.cell? ⟨fb, 7, none⟩ = some (.int .i64 (N : Int)) := hX1.out.c7
    have dI := hX1.out.idx.atI v hv
    have dL := hX1.out.low.atI v hv
    have fI := hX1.out.idx.free v
    have fL := hX1.out.low.free v
    have zfb := cell_lt c3
    have zI := cell_lt dI
    have zL := cell_lt dL
    simp only at zfb zI zL
    have hne := hX1.out.ne
    have hX3 := hide (((hX1.out.setI v hv N).setL v hv N).stays (below_drew _))
    generalize ZI ({ s with nx := N } : TS).idx v = y1 at dI
    generalize ZI ({ s with nx := N } : TS).low v = y2 at dL
    go_region
    clear c3 c4 c7 dI dL fI fL zfb zI zL hX1
    generalize ((w1.setCell ⟨gi, v, none⟩ (.int .i64 (N : Int))).setCell ⟨gl, v, none⟩ (.int .i64 (N : Int))).drew = w2 at hX3 ⊢
    have c5 := hX3.out.c5
    have f5 := hX3.out.fz 5
    have zfb := cell_lt c5
    simp only at zfb
    have hlt := hX3.out.lt
    have hzS := hX3.out.keep.size
    have hkl : (NL s.st).length = K := by rw [nl_len]; exact hK.out.symm
    have hstk := hide hX3.out.stk
    have hna := hide (nl_app s.st v)
    go_upto_region 3 with (at_builtin; (refine wpList_pushL (e := 3) (enc := encI) (xs := (NL s.st)) (v := .slice ao (K) co) (base := wS.heap.size) rfl (.tmp 45) (.tmp 47) 29 rfl _ 8 Try.underlying29 info_int rfl ?d17 lenI oneI (K) ?d27 ?d37 ?d47 ⟨w2.heap.size, 0, none⟩ 1 (v : Int) ?d57 ?d67 ?d77 ?d87 ?d97 ?_); (case d17 => omega); (case d27 => exact hkl); (case d37 => rfl); (case d47 => exact (hstk.out.alloc _)); (case d57 => rfl); (case d67 => exact newI _ _ _ _ rfl); (case d77 => omega); (case d87 => unfold maxLen; omega); (case d97 => first | omega | (simp; done) | (simp; omega)); intro g7 c7 w7 own7 hb7 hgr7 hat7 hgl7; rw [← hna.out] at own7; have kp7 := Keep.grown (S := fun j => wS.heap.size ≤ j) ((Keep.refl (fun j => wS.heap.size ≤ j) w2).alloc _) hgr7 (fun j hj => .inl (hstk.out.block_lt j hj).1); have c5' := kp7.cu c5 (fun h => by have h' : wS.heap.size ≤ fb := h; omega); have f5' := (kp7.frozen (p := ⟨fb, 5, none⟩) zfb (fun h => by have h' : wS.heap.size ≤ fb := h; omega)).trans f5; have zf7 : fb < w7.heap.size := cell_lt c5'; have hX5 := hide (hX3.out.setS (.slice (some ⟨g7, 0, none⟩) (K + 1) c7) (s.st ++ [v]) _ kp7 (fun j hj => hj) own7); replace own7 := hide own7; replace hgr7 := hide hgr7; replace hb7 := hide hb7; replace hat7 := hide hat7; replace kp7 := hide kp7)
    clear c5 f5 zfb c5' f5' zf7 own7 hgr7 hb7 hat7 kp7 hstk hX3 hzS
    generalize w7.setCell ⟨fb, 5, none⟩ (.slice (some ⟨g7, 0, none⟩) (K + 1) c7) = w8 at hX5 ⊢
    have c6 := hX5.out.c6
    have dO := hX5.out.on.atRBc v hv
    have fO := hX5.out.on.free v
    have zfb := cell_lt c6
    have zO := cell_lt dO
    simp only at zfb zO
    have hX6 := hX5.out.setO v hv true
    have hK6 : K + 1 = (tenter s v).st.length := by have := hK.out; simp [tenter]; exact this
    have hsE : ({ idx := upz s.idx v N, low := upz s.low v N, st := s.st ++ [v], on := upz s.on v true, nx := N, lst := s.lst } : TS) = tenter s v := by unfold tenter; rw [hN.out]
    have hX7 := hide (CX.same hX6 hsE)
    obtain ⟨y1, hy1⟩ : ∃ y, y = s.on v := ⟨_, rfl⟩
    have dO' : w8.cell? ⟨gt, v, none⟩ = some (.bool y1) := by rw [hy1]; exact dO
    replace hK6 := hide hK6
    clear hX6 hsE hX5 dO hy1
    go_upto_region 4 with fail
    generalize w8.setCell ⟨gt, v, none⟩ (.bool true) = w9 at hX7 ⊢
    clear c6 dO' fO zfb zO
    obtain ⟨sE, hsE⟩ : ∃ x, x = tenter s v := ⟨_, rfl⟩
    rw [← hsE] at hX7 hK6 hfin ht1 ht2 ht3
    obtain ⟨av, cv, hrow⟩ := hC.out.row v hv
    obtain ⟨LL, hLL⟩ : ∃ LL, LL = (outIdx es v es.length).length := ⟨_, rfl⟩
    rw [← hLL] at hrow
    have hrow := hide hrow
    have hLl : LL ≤ 600 := by rw [hLL]; have := outIdx_len es v es.length; omega
    have hot := out_todo hes.out v
    obtain ⟨sF, hsF⟩ : ∃ x, x = (outV (nes es) v).foldl (tedge (tvisit (nes es) k) v) sE := ⟨_, rfl⟩
    rw [← hsF] at hfin
    have hfold := hide (show ((todoOf es v 0).map fun e => e.v).foldl (tedge (tvisit (nes es) k) v) sE = sF by rw [hsF, hot])
    have hwk := hide (show whites n sE ≤ k by have := ht3.out; have := hk.out; omega)
    have hpre0 := hide (show sE.st <+: sE.st from List.prefix_rfl)
    have hvst := hide (show s.st ++ [v] <+: sE.st by rw [hsE]; exact List.prefix_rfl)
    have hvix := hide (show sE.idx v ≠ 0 by rw [hsE]; show upz s.idx v _ v ≠ 0; rw [upz_same]; omega)
    replace hLL := hide hLL
    replace hsF := hide hsF
    replace hsE := hide hsE
    replace hot := hide hot
    have rc := hrow.out w9 hX7.out.keep
    have c2 := hX7.out.c2
    have zfb := cell_lt c2
    have rc1 := rc.1
    have zO := cell_lt rc1
    simp only at zfb zO
    clear rc
    go_wp2
    go_loopg [65] LL (fun gk s65 wr => ∃ (j : Nat) (sc : TS) (ao : Option Addr) (K co : Nat), s65 = .int .i64 (j : Int) ∧ Hid (K = sc.st.length) ∧ Hid (CX base n a m cap fb O gi gl gt gm (.slice ao K co) sc wS wr) ∧ Hid (TW n sc) ∧ Hid (whites n sc ≤ k) ∧ Hid (sE.st <+: sc.st) ∧ Hid (((todoOf es v j).map fun e => e.v).foldl (tedge (tvisit (nes es) k) v) sc = sF) ∧ j + gk = LL)
    case atStart => exact ⟨0, sE, _, _, _, rfl, hK6, hX7, ht1, hwk, hpre0, hfold, by omega⟩
    case round =>
      clear hK6 hX7 ht1 hwk hpre0 hfold rc1 c2 zfb zO
      obtain ⟨j, sc, ao, K, co, rfl, hK, hX, hT, hw, hpre, hfold, hjg⟩ := hrel
      by_cases hlt : j < LL
      · have hjl : j < (outIdx es v es.length).length := by rw [← hLL.out]; exact hlt
        obtain ⟨i, hi1, hi2, hi3⟩ := outIdx_get es v j hjl
        obtain ⟨u2, u, e1', e2', e3, e4, e5, e6, -⟩ := right_edge hes.out i hi2
        have htd := todo_step hjl hi1 hi2 hi3 e2'
        obtain ⟨br, orr, rfl, hbr, rc⟩ := (hrow.out wr hX.out.keep).2.int j hjl
        rw [hi1] at rc
        obtain ⟨b, o, rfl, hbB, m1, m2, m3⟩ := (hC.out.ed wr hX.out.keep).ed i hi2
        rw [e2'] at m2
        have c1 := hX.out.c1
        have c3 := hX.out.c3
        have c4 := hX.out.c4
        have c6 := hX.out.c6
        have dU := hX.out.idx.atI u e4
        have hlt2 := hX.out.lt
        have hzS := hX.out.keep.size
        have zfb := cell_lt c1
        have zU := cell_lt dU
        have zb := cell_lt m2
        have zrr := cell_lt rc
        simp only at zfb zU zb zrr
        have ij : (0 : Int) ≤ (j : Int) ∧ (j : Int) < (LL : Int) := by omega
        have ii : (0 : Int) ≤ (i : Int) ∧ (i : Int) < (m : Int) := by omega
        have iu : (0 : Int) ≤ (u : Int) ∧ (u : Int) < (n : Int) := by omega
        have hst := hide (tedge_tw hTk.out hT.out v e4)
        have hfold2 := hfold.out
        rw [htd, List.map_cons, List.foldl_cons] at hfold2
        replace hfold2 := hide hfold2
        replace e1' := hide e1'
        replace e2' := hide e2'
        replace hi1 := hide hi1
        replace hi3 := hide hi3
        clear hfold htd m1 m3
        by_cases hu0 : sc.idx u = 0
        · have dU0 : wr.cell? ⟨gi, u, none⟩ = some (.int .i64 0) := by rw [dU]; simp [ZI, hu0]
          have hte : tedge (tvisit (nes es) k) v sc u = tlow (tvisit (nes es) k sc u) v ((tvisit (nes es) k sc u).low u) := by unfold tedge; rw [if_pos hu0]
          rw [hte] at hst hfold2
          have hcall := hide (hIH.out sc u ao K co wr hK.out hX.out hT.out hu0 e4 hw.out)
          obtain ⟨s', hs'⟩ : ∃ x, x = tvisit (nes es) k sc u := ⟨_, rfl⟩
          rw [← hs'] at hst hfold2 hcall
          replace hs' := hide hs'
          replace hte := hide hte
          replace hu0 := hide hu0
          have hw0 := hw
          clear dU c4 c6
          go_wp2_with fail
          refine hcall.out.mono ?_
          rintro e w5 ⟨rfl, ao', K', co', hK', hX'⟩
          clear hcall c1 c3 dU0 m2 rc zfb zU zb zrr hX hK hT hw
          have c4 := hX'.c4
          have dV := hX'.low.atI v hv
          have dU := hX'.low.atI u e4
          have fV := hX'.low.free v
          have zfb := cell_lt c4
          have zV := cell_lt dV
          simp only at zfb zV
          have hx1 : ZI s'.low v = (s'.low v : Int) := rfl
          have hx2 : ZI s'.low u = (s'.low u : Int) := rfl
          rw [hx1] at dV
          rw [hx2] at dU
          obtain ⟨x, hx⟩ : ∃ x, x = s'.low v := ⟨_, rfl⟩
          obtain ⟨y, hy⟩ : ∃ y, y = s'.low u := ⟨_, rfl⟩
          rw [← hx] at dV
          rw [← hy] at dU
          have hXl := hide (fun (z : Nat) (hz : z = min x y) => (show CX base n (some ⟨b, o, none⟩) m cap fb O gi gl gt gm (.slice ao' K' co') (tlow s' v (s'.low u)) wS ((w5.setCell ⟨gl, v, none⟩ (.int .i64 (z : Int))).drew) from by
            have h9 := (hX'.setL v hv z).stays (below_drew _)
            refine CX.same h9 ?_
            rw [hz, hx, hy]; rfl))
          replace hx := hide hx
          replace hy := hide hy
          replace hK' := hide hK'
          replace hX' := hide hX'
          clear hx1 hx2
          rcases Nat.lt_or_ge y x with hyx | hyx
          · have hXm := hide (hXl.out y (by omega))
            have hyx' : (y : Int) < (x : Int) := by omega
            go_wp2
            go_region
            go_wp2
            go_roundg (gk - 1)
            case measure => omega
            case rel => exact ⟨j + 1, tlow s' v (s'.low u), _, _, _, by go_num, hK', hXm, hide hst.out.1, hide (Nat.le_trans hst.out.2.2 hw0.out), hide (hpre.out.trans hst.out.2.1), hfold2, by omega⟩
          · have hXm := hide (hXl.out x (by omega))
            have hyx' : ¬ (y : Int) < (x : Int) := by omega
            go_wp2
            go_region
            go_wp2
            go_roundg (gk - 1)
            case measure => omega
            case rel => exact ⟨j + 1, tlow s' v (s'.low u), _, _, _, by go_num, hK', hXm, hide hst.out.1, hide (Nat.le_trans hst.out.2.2 hw0.out), hide (hpre.out.trans hst.out.2.1), hfold2, by omega⟩
        · have hd1 : ZI sc.idx u = (sc.idx u : Int) := rfl
          rw [hd1] at dU
          have dO := hX.out.on.atRBc u e4
          have dV := hX.out.low.atI v hv
          have fV := hX.out.low.free v
          have zO := cell_lt dO
          have zV := cell_lt dV
          simp only at zO zV
          have hx1 : ZI sc.low v = (sc.low v : Int) := rfl
          rw [hx1] at dV
          obtain ⟨y, hy⟩ : ∃ y, y = sc.idx u := ⟨_, rfl⟩
          obtain ⟨x, hx⟩ : ∃ x, x = sc.low v := ⟨_, rfl⟩
          rw [← hy] at dU
          rw [← hx] at dV
          have hy0 : ((y : Int) == 0) = false := by have : y ≠ 0 := by rw [hy]; exact hu0
                                                    simp; omega
          have hy00 : y ≠ 0 := by rw [hy]; exact hu0
          clear hd1 hx1
          cases hon : sc.on u with
          | false =>
            rw [hon] at dO
            have hte : tedge (tvisit (nes es) k) v sc u = sc := by unfold tedge; rw [if_neg hu0, if_neg (by rw [hon]; simp)]
            rw [hte] at hfold2
            replace hte := hide hte
            replace hu0 := hide hu0
            replace hy := hide hy
            replace hx := hide hx
            clear hon dV fV
            go_wp2
            go_roundg (gk - 1)
            case measure => omega
            case rel => exact ⟨j + 1, sc, _, _, _, by go_num, hK, hX, hT, hw, hpre, hfold2, by omega⟩
          | true =>
            rw [hon] at dO
            have hte : tedge (tvisit (nes es) k) v sc u = tlow sc v (sc.idx u) := by unfold tedge; rw [if_neg hu0, if_pos hon]
            rw [hte] at hst hfold2
            have hXl := hide (fun (z : Nat) (hz : z = min x y) => (show CX base n (some ⟨b, o, none⟩) m cap fb O gi gl gt gm (.slice ao K co) (tlow sc v (sc.idx u)) wS ((wr.setCell ⟨gl, v, none⟩ (.int .i64 (z : Int))).drew) from by
              have h9 := (hX.out.setL v hv z).stays (below_drew _)
              refine CX.same h9 ?_
              rw [hz, hx, hy]; rfl))
            replace hte := hide hte
            replace hu0 := hide hu0
            replace hy := hide hy
            replace hx := hide hx
            clear hon
            rcases Nat.lt_or_ge y x with hyx | hyx
            · have hXm := hide (hXl.out y (by omega))
              have hyx' : (y : Int) < (x : Int) := by omega
              go_wp2
              go_region
              go_wp2
              go_roundg (gk - 1)
              case measure => omega
              case rel => exact ⟨j + 1, tlow sc v (sc.idx u), _, _, _, by go_num, hK, hXm, hide hst.out.1, hide (Nat.le_trans hst.out.2.2 hw.out), hide (hpre.out.trans hst.out.2.1), hfold2, by omega⟩
            · have hXm := hide (hXl.out x (by omega))
              have hyx' : ¬ (y : Int) < (x : Int) := by omega
              go_wp2
              go_region
              go_wp2
              go_roundg (gk - 1)
              case measure => omega
              case rel => exact ⟨j + 1, tlow sc v (sc.idx u), _, _, _, by go_num, hK, hXm, hide hst.out.1, hide (Nat.le_trans hst.out.2.2 hw.out), hide (hpre.out.trans hst.out.2.1), hfold2, by omega⟩
      · obtain rfl : LL = j := by omega
        have hsc : sc = sF := by have := hfold.out; rw [hLL.out, todo_end] at this; exact this
        rw [hsc] at hK hX hT hw hpre
        have hpre2 := hide (hvst.out.trans hpre.out)
        replace hsc := hide hsc
        clear hfold hpre hw
        have c3 := hX.out.c3
        have c4 := hX.out.c4
        have dI := hX.out.idx.atI v hv
        have dL := hX.out.low.atI v hv
        have zfb := cell_lt c3
        have zI := cell_lt dI
        have zL := cell_lt dL
        simp only at zfb zI zL
        have hx1 : ZI sF.low v = (sF.low v : Int) := rfl
        have hx2 : ZI sF.idx v = (sF.idx v : Int) := rfl
        rw [hx1] at dL
        rw [hx2] at dI
        obtain ⟨y, hy⟩ : ∃ y, y = sF.idx v := ⟨_, rfl⟩
        obtain ⟨x, hx⟩ : ∃ x, x = sF.low v := ⟨_, rfl⟩
        rw [← hy] at dI
        rw [← hx] at dL
        have hdr := hide (fun m => ((up_drewN (n := m) (Below.refl wr.heap.size wr)) : Below wr.heap.size wr (wr.drewN m)))
        clear hx1 hx2
        by_cases hxy : x < y
        · have hxy' : (x : Int) < (y : Int) := by omega
          have hres := hide (show tvisit (nes es) (k + 1) s v = sF by rw [hfin.out]; unfold tfin; rw [if_pos (by rw [← hx, ← hy]; exact hxy)])
          replace hx := hide hx
          replace hy := hide hy
          go_wp2
          go_quiet (fail)
          go_wp2
          refine bodyPost_ret (v := .tuple #[]) (by simp [results, Try.results95, go_sem]) rfl ?_
          exact ⟨rfl, _, K, _, by rw [hres.out]; exact hK.out, by rw [hres.out]; exact hX.out.stays (hdr.out nq)⟩
        · have hxy' : ¬ (x : Int) < (y : Int) := by omega
          have hres := hide (show tvisit (nes es) (k + 1) s v = tpop sF v by rw [hfin.out]; unfold tfin; rw [if_neg (by rw [← hx, ← hy]; exact hxy)])
          replace hx := hide hx
          replace hy := hide hy
          go_wp2
          go_quiet (fail)
          have hX1 := hide (hX.out.stays (hdr.out nq))
          clear c3 c4 dI dL zfb zI zL hX hdr
          generalize wr.drewN nq = w1 at hX1 ⊢
          have c5 := hX1.out.c5
          have zfb := cell_lt c5
          simp only at zfb
          have hp0 : s.st.length < K := by
            obtain ⟨r, hr⟩ := hpre2.out
            have := hK.out
            rw [← hr] at this
            simp at this
            omega
          have hvat := hide (show sF.st[s.st.length]? = some v by
            obtain ⟨r, hr⟩ := hpre2.out
            rw [← hr]; simp)
          obtain ⟨gs, rfl, hgs1, hgs2⟩ := hX1.out.stk.blockI' (by omega)
          have hKc : K ≤ co := by
            rcases hX1.out.stk.form with ⟨h9, _⟩ | ⟨g', c', h9, _, _, h10, _⟩
            · cases h9
            · simp only [Value.slice.injEq] at h9
              have := hK.out
              rw [nl_len] at h10
              omega
          have hK64 : K ≤ 64 := by have h1 := hT.out.len; have h2 := hT.out.nx; have := hK.out; omega
          have hw1 : IntKind.i64.wrap ((K : Int) - 1) = ((K - 1 : Nat) : Int) := by rw [show ((K : Int) - 1) = ((K - 1 : Nat) : Int) by omega]; exact IntWalk.i64_in _ (by omega)
          go_wp2
          go_loopw [7] (fun s7 wr => ∃ q : Nat, s7 = .int .i64 (q : Int) ∧ wr = w1 ∧ Hid (findK sF.st v (q + 1) = findK sF.st v K) ∧ s.st.length ≤ q ∧ q < K) (fun s7 _ => (intOf s7).toNat)
          case atStart => exact ⟨K - 1, rfl, rfl, hide (by rw [show K - 1 + 1 = K by omega]), by omega, by omega⟩
          case round =>
            obtain ⟨q, rfl, hwe, hfk, hq1, hq2⟩ := hrel
            obtain rfl : w1 = wr := hwe.symm
            have hql : q < sF.st.length := by have := hK.out; omega
            have dq := hX1.out.stk.getI q (by rw [nl_len]; exact hql)
            rw [nl_get _ _ hql] at dq
            obtain ⟨x, hx⟩ : ∃ x, x = sF.st[q] := ⟨_, rfl⟩
            rw [← hx] at dq
            have hxg : sF.st[q]? = some x := by rw [hx]; exact List.getElem?_eq_getElem hql
            have zq := cell_lt dq
            simp only at zq
            have iq : (0 : Int) ≤ (q : Int) ∧ (q : Int) < (K : Int) := by omega
            by_cases hxv : x = v
            · have q1 : ((x : Int) != (v : Int)) = false := by simp [hxv]
              have hfq := hide (show findK sF.st v sF.st.length = q by rw [← hK.out, ← hfk.out]; exact findK_hit (by rw [hxg, hxv]))
              obtain ⟨l, hld⟩ : ∃ l, l = sF.st.drop q := ⟨_, rfl⟩
              obtain ⟨L, hL⟩ : ∃ L, L = K - q := ⟨_, rfl⟩
              have hll : l.length = L := by rw [hld, hL, List.length_drop, hK.out]
              have hpop := hide (show tpop sF v = { sF with st := sF.st.take q, on := setAll sF.on l false, lst := setAll sF.lst l (minN v l) } by unfold tpop; rw [hfq.out, ← hld])
              have hlc := hide (show ∀ i (hi : i < l.length), w1.cell? ⟨gs, q + i, none⟩ = some (.int .i64 (l[i] : Int)) from fun i hi => by
                have hi2 : q + i < sF.st.length := by rw [hll] at hi; have := hK.out; omega
                have h9 := hX1.out.stk.getI (q + i) (by rw [nl_len]; exact hi2)
                rw [nl_get _ _ hi2] at h9
                rw [h9]
                have : l[i] = sF.st[q + i] := by simp only [hld, List.getElem_drop]
                rw [this])
              have hlm : ∀ y ∈ l, y ∈ sF.st := by rw [hld]; exact fun y hy => List.mem_of_mem_drop hy
              have hln := hide (show ∀ i (hi : i < l.length), l[i] < n from fun i hi => hT.out.lt _ (hlm _ (List.getElem_mem hi)))
              replace hlm := hide hlm
              have hown := hide (hX1.out.stk.takeN lenI q (by omega))
              have hnt : (NL sF.st).take q = NL (sF.st.take q) := by simp [NL, List.map_take]
              rw [hnt] at hown
              have hX2 := hide (hX1.out.setS (.slice (some ⟨gs, 0, none⟩) q co) (sF.st.take q) (fun _ => False) (Keep.refl _ _) (fun j hj => hj.elim) hown.out)
              have hltS := hX1.out.lt
              have hzS := hX1.out.keep.size
              have hK2 := hide (show Keep (CXb fb gi gl gt gm) w1 (w1.setCell ⟨fb, 5, none⟩ (.slice (some ⟨gs, 0, none⟩) q co)) from (Keep.refl _ _).setCell (.inl (.inl rfl)) _)
              have f5 := hX1.out.fz 5
              have c5 := hX1.out.c5
              have zfb := cell_lt c5
              simp only at zfb
              have hqc : (q : Int) ≤ (co : Int) := by omega
              have hqK : (q : Int) ≤ (K : Int) := by omega
              have hsub1 : co - q ≠ 0 := by omega
              have hsub2 : (co : Int) - (q : Int) ≠ 0 := by omega
              have hngs : ¬ CXb fb gi gl gt gm gs := fun h => by rcases h with h | h | h | h | h <;> omega
              replace hx := hide hx
              replace hxg := hide hxg
              replace hld := hide hld
              replace hnt := hide hnt
              replace hfk := hide hfk
              go_wp2
              simp only [← hL]
              generalize w1.setCell ⟨fb, 5, none⟩ (.slice (some ⟨gs, 0, none⟩) q co) = w2 at hX2 hK2 ⊢
              have hL64 : L ≤ 64 := by omega
              replace hL := hide hL
              clear c5 f5 zfb dq zq hsub1 hsub2
              go_loopw [9, 189] (fun s9 s189 wr => ∃ i : Nat, i ≤ L ∧ s189 = .int .i64 (i : Int) ∧ s9 = .int .i64 (minN v (l.take i) : Int) ∧ Hid (CX base n a m cap fb O gi gl gt gm (.slice (some ⟨gs, 0, none⟩) q co) { sF with st := sF.st.take q, on := setAll sF.on (l.take i) false } wS wr) ∧ Hid (Keep (CXb fb gi gl gt gm) w1 wr)) (fun _ s189 _ => L - (intOf s189).toNat)
              case atStart => exact ⟨0, Nat.zero_le _, rfl, rfl, hX2, hK2⟩
              case round =>
                clear hX2 hK2
                obtain ⟨i, hi, rfl, rfl, hXq, hKq⟩ := hrel
                by_cases hil : i < L
                · have hil2 : i < l.length := by omega
                  have dl := hKq.out.cu (hlc.out i hil2) hngs
                  obtain ⟨u, hu⟩ : ∃ u, u = l[i] := ⟨_, rfl⟩
                  have hun : u < n := by rw [hu]; exact hln.out i hil2
                  rw [← hu] at dl
                  have zl := cell_lt dl
                  have c6 := hXq.out.c6
                  have zfb := cell_lt c6
                  have dO := hXq.out.on.atRBc u hun
                  have fO := hXq.out.on.free u
                  have zO := cell_lt dO
                  simp only at zl zfb zO
                  have htk : l.take (i + 1) = l.take i ++ [u] := by rw [hu]; exact (List.take_append_getElem hil2).symm
                  have hmn : minN v (l.take (i + 1)) = min (minN v (l.take i)) u := by rw [htk]; simp [minN]
                  have hXn := hide (show CX base n a m cap fb O gi gl gt gm (.slice (some ⟨gs, 0, none⟩) q co) { sF with st := sF.st.take q, on := setAll sF.on (l.take (i + 1)) false } wS (wr.setCell ⟨gt, u, none⟩ (.bool false)) from CX.same (hXq.out.setO u hun false) (by rw [htk, setAll_step]))
                  have hKn := hide (hKq.out.setCell (p := ⟨gt, u, none⟩) (.inl (.inr (.inr (.inr (.inl rfl))))) (.bool false))
                  obtain ⟨x, hx⟩ : ∃ x, x = minN v (l.take i) := ⟨_, rfl⟩
                  rw [← hx] at hmn ⊢
                  have ii : (0 : Int) ≤ (i : Int) ∧ (i : Int) < (L : Int) := by omega
                  have iu : (0 : Int) ≤ (u : Int) ∧ (u : Int) < (n : Int) := by omega
                  generalize setAll sF.on (l.take i) false u = y1 at dO
                  replace hu := hide hu
                  replace hx := hide hx
                  replace htk := hide htk
                  rcases Nat.lt_or_ge u x with hux | hux
                  · have hux' : (u : Int) < (x : Int) := by omega
                    have hm2 := hide (show u = minN v (l.take (i + 1)) by rw [hmn]; omega)
                    replace hmn := hide hmn
                    go_wp2
                    go_roundw
                    case rel => exact ⟨i + 1, by omega, by go_num, by rw [← hm2.out], hXn, hKn⟩
                    case measure => simp [intOf]; omega
                  · have hux' : ¬ (u : Int) < (x : Int) := by omega
                    have hm2 := hide (show x = minN v (l.take (i + 1)) by rw [hmn]; omega)
                    replace hmn := hide hmn
                    go_wp2
                    go_roundw
                    case rel => exact ⟨i + 1, by omega, by go_num, by rw [← hm2.out], hXn, hKn⟩
                    case measure => simp [intOf]; omega
                · obtain rfl : L = i := by omega
                  have hta : l.take L = l := by rw [← hll]; exact List.take_length
                  rw [hta] at hXq ⊢
                  obtain ⟨x, hx⟩ : ∃ x, x = minN v l := ⟨_, rfl⟩
                  rw [← hx] at hpop ⊢
                  have hX0 := hide (show CX base n a m cap fb O gi gl gt gm (.slice (some ⟨gs, 0, none⟩) q co) { sF with st := sF.st.take q, on := setAll sF.on l false, lst := setAll sF.lst (l.take 0) x } wS wr from hXq.out)
                  replace hx := hide hx
                  replace hta := hide hta
                  obtain ⟨w3, hw3⟩ : ∃ w3 : World, w3 = wr := ⟨_, rfl⟩
                  simp only [← hw3] at hX0 hKq ⊢
                  clear hXq hw3
                  go_wp2
                  go_loopw [205] (fun s205 wr => ∃ i : Nat, i ≤ L ∧ s205 = .int .i64 (i : Int) ∧ Hid (CX base n a m cap fb O gi gl gt gm (.slice (some ⟨gs, 0, none⟩) q co) { sF with st := sF.st.take q, on := setAll sF.on l false, lst := setAll sF.lst (l.take i) x } wS wr) ∧ Hid (Keep (CXb fb gi gl gt gm) w1 wr)) (fun s205 _ => L - (intOf s205).toNat)
                  case atStart => exact ⟨0, Nat.zero_le _, rfl, hX0, hKq⟩
                  case round =>
                    clear hX0 hKq
                    obtain ⟨i, hi, rfl, hXq, hKq⟩ := hrel
                    by_cases hil : i < L
                    · have hil2 : i < l.length := by omega
                      have dl := hKq.out.cu (hlc.out i hil2) hngs
                      obtain ⟨u, hu⟩ : ∃ u, u = l[i] := ⟨_, rfl⟩
                      have hun : u < n := by rw [hu]; exact hln.out i hil2
                      rw [← hu] at dl
                      have zl := cell_lt dl
                      have c8 := hXq.out.c8
                      have zfb := cell_lt c8
                      have dM := hXq.out.lst.atI u hun
                      have fM := hXq.out.lst.free u
                      have zM := cell_lt dM
                      simp only at zl zfb zM
                      have htk : l.take (i + 1) = l.take i ++ [u] := by rw [hu]; exact (List.take_append_getElem hil2).symm
                      have hXn := hide (show CX base n a m cap fb O gi gl gt gm (.slice (some ⟨gs, 0, none⟩) q co) { sF with st := sF.st.take q, on := setAll sF.on l false, lst := setAll sF.lst (l.take (i + 1)) x } wS (wr.setCell ⟨gm, u, none⟩ (.int .i64 (x : Int))) from CX.same (hXq.out.setM u hun x) (by rw [htk, setAll_step]))
                      have hKn := hide (hKq.out.setCell (p := ⟨gm, u, none⟩) (.inl (.inr (.inr (.inr (.inr rfl))))) (.int .i64 (x : Int)))
                      have ii : (0 : Int) ≤ (i : Int) ∧ (i : Int) < (L : Int) := by omega
                      have iu : (0 : Int) ≤ (u : Int) ∧ (u : Int) < (n : Int) := by omega
                      generalize ZI (setAll sF.lst (l.take i) x) u = y1 at dM
                      replace hu := hide hu
                      replace htk := hide htk
                      go_wp2
                      go_roundw
                      case rel => exact ⟨i + 1, by omega, by go_num, hXn, hKn⟩
                      case measure => simp [intOf]; omega
                    · obtain rfl : L = i := by omega
                      rw [hta.out] at hXq
                      go_wp2
                      go_end0
                      refine ⟨rfl, some ⟨gs, 0, none⟩, q, co, ?_, ?_⟩
                      · rw [hres.out, hpop.out]
                        show q = (sF.st.take q).length
                        rw [List.length_take]
                        omega
                      · rw [hres.out, hpop.out]
                        exact hXq.out
            · have q1 : ((x : Int) != (v : Int)) = true := by simp; omega
              have hq3 : s.st.length < q := by
                rcases Nat.lt_or_ge s.st.length q with h | h
                · exact h
                · exfalso
                  have : s.st.length = q := by omega
                  have h2 := hvat.out
                  rw [this, hxg] at h2
                  exact hxv (Option.some.inj h2)
              have hw2 : IntKind.i64.wrap ((q : Int) - 1) = ((q - 1 : Nat) : Int) := by rw [show ((q : Int) - 1) = ((q - 1 : Nat) : Int) by omega]; exact IntWalk.i64_in _ (by omega)
              have hfk2 := hide (show findK sF.st v (q - 1 + 1) = findK sF.st v K by
                rw [show q - 1 + 1 = q by omega, ← hfk.out]
                exact (findK_step (by rw [hxg]; intro e; exact hxv (Option.some.inj e))).symm)
              replace hx := hide hx
              replace hxg := hide hxg
              go_wp2
              go_roundw
              case rel => exact ⟨q - 1, rfl, by first | rfl | trivial, hfk2, by omega, by omega⟩
              case measure => simp [intOf]; omega
end Go.Proofs.Ytcehdpeeaogpiaa
