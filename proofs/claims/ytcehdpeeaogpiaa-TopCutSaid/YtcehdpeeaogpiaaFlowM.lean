/-
  What flow.look, flow.full, flow.Max and flow.Cut return. Conditions: that the arguments read.
-/
import Derived.Test.YtcehdpeeaogpiaaFlowS
import Derived.Test.YtcehdpeeaogpiaaFlowU
import Derived.Test.YtcehdpeeaogpiaaNetL
namespace Go.Proofs.Ytcehdpeeaogpiaa
open Go.RowKit
set_option linter.unusedSimpArgs false
set_option linter.unusedVariables false
def flookErr (N : Int) (es : List Ed) (x1 x2 : Int) : Int := if lookErr N es [x1, x2] ≠ 0 then lookErr N es [x1, x2] else if x1 = x2 then 1 else 0
theorem flook_ok {N : Int} {es : List Ed} {x1 x2 : Int} (h0 : flookErr N es x1 x2 = 0) : ∃ n s t : Nat, N = (n : Int) ∧ x1 = (s : Int) ∧ x2 = (t : Int) ∧ 1 ≤ n ∧ n ≤ 64 ∧ es.length ≤ 600 ∧ Right n es ∧ (∀ e ∈ es, 1 ≤ e.c) ∧ s < n ∧ t < n ∧ s ≠ t := by
  unfold flookErr at h0
  by_cases hl : lookErr N es [x1, x2] = 0
  · rw [if_neg (by simp [hl])] at h0
    obtain ⟨g1, g2⟩ := look_ok hl
    obtain ⟨g3, g4⟩ := posErr_ok g1
    obtain ⟨n1, n2, n3, n4⟩ := netErr_ok g3
    obtain ⟨n, rfl⟩ := Int.eq_ofNat_of_zero_le (show 0 ≤ N by omega)
    have g5 := g2 x1 (by simp)
    have g6 := g2 x2 (by simp)
    obtain ⟨s, rfl⟩ := Int.eq_ofNat_of_zero_le g5.1
    obtain ⟨t, rfl⟩ := Int.eq_ofNat_of_zero_le g6.1
    refine ⟨n, s, t, rfl, rfl, rfl, by omega, by omega, n3, n4, g4, by omega, by omega, fun e => ?_⟩
    subst e
    rw [if_pos rfl] at h0
    cases h0
  · rw [if_pos hl] at h0
    exact absurd h0 hl
theorem row2f {w : World} {b : Nat} {x y : Int} (h0 : w.cell? ⟨b, 0, none⟩ = some (.int .i64 x)) (h1 : w.cell? ⟨b, 1, none⟩ = some (.int .i64 y)) : Row encI 1 w w.heap.size (some ⟨b, 0, none⟩) [x, y] := by
  intro i hi
  refine ⟨b, 0, rfl, cell_lt h0, fun j u hj => ?_⟩
  match i, hi, j, hj with
  | 0, _, 0, hj => simp [encI] at hj; subst hj; simpa using h0
  | 1, _, 0, hj => simp [encI] at hj; subst hj; simpa using h1
set_option maxHeartbeats 1000000 in
theorem flook_any (N : Int) (a : Option Addr) (cap : Nat) (es : List Ed) (x1 x2 : Int) (w : World) (B : Nat) (hB : B ≤ w.heap.size) (hE : Row encE 3 w B a es) (hl : es.length ≤ 9223372036854775807) :
    Calls Try.prog 85 #[.agg #[.int .i64 N, .slice a es.length cap], .int .i64 x1, .int .i64 x2] w fun e w' => e = .returned (.int .i64 (flookErr N es x1 x2)) ∧ Below w.heap.size w w' := by
  have hL := hide (fun (b : Nat) (w : World) (hE : Row encE 3 w w.heap.size a es) (hP : Row encI 1 w w.heap.size (some ⟨b, 0, none⟩) [x1, x2]) => look_any N a cap es (some ⟨b, 0, none⟩) 2 2 [x1, x2] rfl w w.heap.size (Nat.le_refl _) hE hP hl (by omega))
  have hrow := hide (fun (w' : World) (hb : Below w.heap.size w w') => (hE.below hb hB).mono (Nat.le_trans hB hb.size))
  clear hE
  obtain ⟨er, her⟩ : ∃ er, er = lookErr N es [x1, x2] := ⟨_, rfl⟩
  have hfin := hide (show flookErr N es x1 x2 = if er ≠ 0 then er else if x1 = x2 then 1 else 0 by unfold flookErr; rw [her])
  rw [← her] at hL
  replace her := hide her
  by_cases h0 : er = 0
  · subst h0
    by_cases h12 : x1 = x2
    · subst h12
      have q1 : (x1 == x1) = true := by simp
      have hf2 := hide (show flookErr N es x1 x1 = 1 by rw [hfin.out]; simp)
      clear hfin
      go_enter Try.func85, Try.ntmps85
      go_wp2_with fail
      refine Calls.mono (hL.out _ _ (hrow.out _ (by exact (by repeat (first | with_reducible exact Below.refl _ _ | with_reducible assumption | with_reducible refine up_drewN ?_ | with_reducible refine up_drew ?_ | (with_reducible refine up_alloc ?_ ?_; rotate_left; (first | omega | (simp <;> omega) | simp)) | (with_reducible refine up_set ?_ ?_; rotate_left; (first | omega | (simp <;> omega) | simp)) | (with_reducible refine Below.trans ?_ (Below.mono (by with_reducible assumption) ?_); rotate_left; (first | omega | (simp <;> omega) | simp)))))) (row2f (by simp [go_sem]) (by simp [go_sem]))) ?_
      rintro e w1 ⟨rfl, hb1⟩
      have hb2 := hide ((((by repeat (first | with_reducible exact Below.refl _ _ | with_reducible assumption | with_reducible refine up_drewN ?_ | with_reducible refine up_drew ?_ | (with_reducible refine up_alloc ?_ ?_; rotate_left; (first | omega | (simp <;> omega) | simp)) | (with_reducible refine up_set ?_ ?_; rotate_left; (first | omega | (simp <;> omega) | simp)) | (with_reducible refine Below.trans ?_ (Below.mono (by with_reducible assumption) ?_); rotate_left; (first | omega | (simp <;> omega) | simp)))) : Below w.heap.size w _)).trans (hb1.mono (by simp; omega)))
      clear hb1
      go_wp2
      go_ret
      exact ⟨ret_int hf2.out.symm, hb2.out⟩
    · have q1 : (x1 == x2) = false := by simp [h12]
      have hf2 := hide (show flookErr N es x1 x2 = 0 by rw [hfin.out]; simp [h12])
      clear hfin
      go_enter Try.func85, Try.ntmps85
      go_wp2_with fail
      refine Calls.mono (hL.out _ _ (hrow.out _ (by exact (by repeat (first | with_reducible exact Below.refl _ _ | with_reducible assumption | with_reducible refine up_drewN ?_ | with_reducible refine up_drew ?_ | (with_reducible refine up_alloc ?_ ?_; rotate_left; (first | omega | (simp <;> omega) | simp)) | (with_reducible refine up_set ?_ ?_; rotate_left; (first | omega | (simp <;> omega) | simp)) | (with_reducible refine Below.trans ?_ (Below.mono (by with_reducible assumption) ?_); rotate_left; (first | omega | (simp <;> omega) | simp)))))) (row2f (by simp [go_sem]) (by simp [go_sem]))) ?_
      rintro e w1 ⟨rfl, hb1⟩
      have hb2 := hide ((((by repeat (first | with_reducible exact Below.refl _ _ | with_reducible assumption | with_reducible refine up_drewN ?_ | with_reducible refine up_drew ?_ | (with_reducible refine up_alloc ?_ ?_; rotate_left; (first | omega | (simp <;> omega) | simp)) | (with_reducible refine up_set ?_ ?_; rotate_left; (first | omega | (simp <;> omega) | simp)) | (with_reducible refine Below.trans ?_ (Below.mono (by with_reducible assumption) ?_); rotate_left; (first | omega | (simp <;> omega) | simp)))) : Below w.heap.size w _)).trans (hb1.mono (by simp; omega)))
      clear hb1
      go_wp2
      go_ret
      exact ⟨ret_int hf2.out.symm, hb2.out⟩
  · have q0 : (er != 0) = true := by simp [h0]
    have hf2 := hide (show flookErr N es x1 x2 = er by rw [hfin.out]; simp [h0])
    clear hfin h0
    go_enter Try.func85, Try.ntmps85
    go_wp2_with fail
    refine Calls.mono (hL.out _ _ (hrow.out _ (by exact (by repeat (first | with_reducible exact Below.refl _ _ | with_reducible assumption | with_reducible refine up_drewN ?_ | with_reducible refine up_drew ?_ | (with_reducible refine up_alloc ?_ ?_; rotate_left; (first | omega | (simp <;> omega) | simp)) | (with_reducible refine up_set ?_ ?_; rotate_left; (first | omega | (simp <;> omega) | simp)) | (with_reducible refine Below.trans ?_ (Below.mono (by with_reducible assumption) ?_); rotate_left; (first | omega | (simp <;> omega) | simp)))))) (row2f (by simp [go_sem]) (by simp [go_sem]))) ?_
    rintro e w1 ⟨rfl, hb1⟩
    have hb2 := hide ((((by repeat (first | with_reducible exact Below.refl _ _ | with_reducible assumption | with_reducible refine up_drewN ?_ | with_reducible refine up_drew ?_ | (with_reducible refine up_alloc ?_ ?_; rotate_left; (first | omega | (simp <;> omega) | simp)) | (with_reducible refine up_set ?_ ?_; rotate_left; (first | omega | (simp <;> omega) | simp)) | (with_reducible refine Below.trans ?_ (Below.mono (by with_reducible assumption) ?_); rotate_left; (first | omega | (simp <;> omega) | simp)))) : Below w.heap.size w _)).trans (hb1.mono (by simp; omega)))
    clear hb1
    go_wp2
    go_ret
    exact ⟨ret_int hf2.out.symm, hb2.out⟩
/-- a greatest flow, and by what each place is come to beside it -/
def FullAns (n s t : Nat) (es : List Ed) (w : World) (e : Ending) (w' : World) : Prop :=
  ∃ (sum : Int) (fl b : Nat → Int) (gf gb : Nat), e = .returned (.tuple #[.int .i64 sum, .slice (some ⟨gf, 0, none⟩) es.length es.length, .slice (some ⟨gb, 0, none⟩) n n]) ∧ FlowOk (nes es) n s t fl sum ∧ (∀ v, b v ≠ (es.length : Int) ↔ Lead (arcs fl (nes es) 0) posA s v) ∧ ¬ Lead (arcs fl (nes es) 0) posA s t ∧
    Own encI 1 3 w' w.heap.size (.slice (some ⟨gf, 0, none⟩) es.length es.length) (LI es.length fl) ∧ Own encI 1 3 w' w.heap.size (.slice (some ⟨gb, 0, none⟩) n n) (LI n b) ∧ Below w.heap.size w w'
structure FU (w0 : World) (n m : Nat) (a : Option Addr) (cap gf : Nat) (fl : Nat → Int) (wr : World) : Prop where
  c0 : wr.cell? ⟨w0.heap.size, 0, none⟩ = some (.int .i64 (n : Int))
  c1 : wr.cell? ⟨w0.heap.size, 1, none⟩ = some (.slice a m cap)
  fo : Own encI 1 3 wr w0.heap.size (.slice (some ⟨gf, 0, none⟩) m m) (LI m fl)
  bel : Below w0.heap.size w0 wr
theorem FU.stays {w0 wr w' : World} {n m cap gf : Nat} {a : Option Addr} {fl : Nat → Int} (h : FU w0 n m a cap gf fl wr) (hb : Below wr.heap.size wr w') : FU w0 n m a cap gf fl w' :=
  ⟨cu_below hb h.c0 (cell_lt h.c0), cu_below hb h.c1 (cell_lt h.c1), h.fo.stays hb, h.bel.trans (hb.mono h.bel.size)⟩
theorem pos_edges' {n : Nat} {es : List Ed} (h : Right n es) (hp : ∀ e ∈ es, 1 ≤ e.c) : ∀ e ∈ nes es, 1 ≤ e.c ∧ e.c ≤ 10000 := by
  intro e he
  obtain ⟨x, hx, rfl⟩ := nes_mem he
  exact ⟨hp x hx, (h x hx).2.2.2.2.2⟩
set_option maxRecDepth 100000 in
set_option maxHeartbeats 4000000 in
theorem full_flow (n s t : Nat) (a : Option Addr) (cap : Nat) (es : List Ed) (w : World) (B : Nat) (hB : B ≤ w.heap.size) (hE : Row encE 3 w B a es) (hn : n ≤ 64) (hl : es.length ≤ 600) (hes : Right n es) (hpos : ∀ e ∈ es, 1 ≤ e.c) (hs : s < n) (ht : t < n) (hst : s ≠ t) :
    Calls Try.prog 86 #[.agg #[.int .i64 (n : Int), .slice a es.length cap], .int .i64 (s : Int), .int .i64 (t : Int)] w (FullAns n s t es w) := by
  have hfz := hide (flow_zero (nes es) n s t (fun e he => by have := (pos_edges' hes hpos e he).1; omega))
  have hfb := hide (fun (fl : Nat → Int) (sum : Int) (h : FlowOk (nes es) n s t fl sum) => (by have := flow_bound h (fun e he => (pos_edges' hes hpos e he).2); rw [nes_len] at this; omega : sum ≤ 6000000))
  have hSk := hide (fun (gf : Nat) (fl : Nat → Int) (w' : World) (hb : Below w.heap.size w w') (hF : Row encI 1 w' w'.heap.size (some ⟨gf, 0, none⟩) (LI es.length fl)) => seek_any n s a (some ⟨gf, 0, none⟩) cap es.length es fl w' w'.heap.size (Nat.le_refl _) ((hE.below hb hB).mono (Nat.le_trans hB hb.size)) hF hn hl hes hs)
  have hPu := hide (fun (gf gy : Nat) (fl by_ b : Nat → Int) (sum : Int) (l : List Nat) (w' : World) (hb : Below w.heap.size w w') (hF : Own encI 1 3 w' w.heap.size (.slice (some ⟨gf, 0, none⟩) es.length es.length) (LI es.length fl)) (hY : Own encI 1 3 w' w.heap.size (.slice (some ⟨gy, 0, none⟩) n n) (LI n b)) (hne : gf ≠ gy) => push_flow n s t gf gy a cap es.length n es fl by_ b sum l w' w.heap.size B (Nat.le_trans hB hb.size) (hE.below hb hB) hB hF hY hne hn hl hes hs ht hst)
  replace hes := hide hes
  replace hpos := hide hpos
  clear hE
  obtain ⟨m, hm⟩ : ∃ m, m = es.length := ⟨_, rfl⟩
  unfold FullAns
  rw [← hm] at hl hSk hPu ⊢
  have hml := hide (show (nes es).length = m by rw [nes_len, hm])
  replace hm := hide hm
  have it : (0 : Int) ≤ (t : Int) ∧ (t : Int) < (n : Int) := by omega
  go_enter Try.func86, Try.ntmps86
  go_wp2_with (at_make; (refine wpList_mk (e := 3) (enc := encI) rfl (.tmp 14) 29 rfl (.int .i64 0) 8 (0 : Int) Try.underlying29 info_int rfl rfl (m) ?e11 ?e21 ?e31 (w.heap.size) ?e41 ?_); (case e11 => rfl); (case e21 => omega); (case e31 => unfold maxLen; omega); (case e41 => first | omega | (simp; done) | (simp; omega)); intro w1 own1 hb1 hsz1; have hU1 : Hid (FU w n m a cap (w.heap.size + 1) (fun _ => 0) w1) := hide ⟨cu_below hb1 (by simp [go_sem]) (by simp), cu_below hb1 (by simp [go_sem]) (by simp), by have h3 := own1; rw [li_rep] at h3; simpa using h3, (up_alloc (Below.refl _ _) (Nat.le_refl _)).trans (hb1.mono (by simp))⟩; clear hsz1; replace own1 := hide own1; replace hb1 := hide hb1)
  clear own1 hb1
  obtain ⟨gf, hgf⟩ : ∃ gf, gf = w.heap.size + 1 := ⟨_, rfl⟩
  rw [← hgf] at hU1
  simp only [← hgf]
  replace hgf := hide hgf
  go_loopg [10] 6000001 (fun gk s10 wr => ∃ (sum : Int) (fl : Nat → Int), s10 = .int .i64 sum ∧ Hid (FlowOk (nes es) n s t fl sum) ∧ Hid (FU w n m a cap gf fl wr) ∧ (gk : Int) + sum = 6000001 ∧ 0 ≤ sum)
  case atStart => exact ⟨0, _, rfl, hfz, hU1, by omega, by omega⟩
  case round =>
    clear hU1 hfz
    obtain ⟨sum, fl, rfl, hf, hU, hgs, hs0⟩ := hrel
    have hsb := hfb.out fl sum hf.out
    have c0 := hU.out.c0
    have c1 := hU.out.c1
    have zw := cell_lt c0
    simp only at zw
    have hgl := hU.out.fo.at_base
    have hseek := hide (hSk.out gf fl wr hU.out.bel (own_rowF hU.out.fo))
    obtain ⟨wi, hwi⟩ : ∃ wi : World, wi = wr := ⟨_, rfl⟩
    simp only [← hwi] at hU c0 c1 zw hgl hseek ⊢
    clear hwi
    go_wp2_with fail
    refine hseek.out.mono ?_
    rintro e w3 ⟨gb, b, rfl, ownb, hans, hb3⟩
    have hU3 := hide (hU.out.stays hb3)
    have c0 := hU3.out.c0
    have c1 := hU3.out.c1
    have zw := cell_lt c0
    simp only at zw
    have hgb := ownb.at_base
    have dT := ownb.atI t ht
    have hlead := hide (fun v => seek_lead hans v)
    rw [hml.out] at hlead
    replace ownb := hide ownb
    replace hans := hide hans
    replace hb3 := hide hb3
    clear hseek hU
    obtain ⟨y, hy⟩ : ∃ y, y = b t := ⟨_, rfl⟩
    rw [← hy] at dT
    have zT := cell_lt dT
    simp only at zT
    by_cases hym : y = (m : Int)
    · have q1 : (y == (m : Int)) = true := by simp [hym]
      have hnl := hide (show ¬ Lead (arcs fl (nes es) 0) posA s t from fun h => (hlead.out t).2 h (by rw [← hy, hym]))
      replace hym := hide hym
      replace hy := hide hy
      have hUn := hide (fun k => hU3.out.stays ((up_drewN (n := k) (Below.refl w3.heap.size w3))))
      have hon := hide (fun k => ownb.out.stays ((up_drewN (n := k) (Below.refl w3.heap.size w3))))
      go_wp2
      go_quiet (fail)
      go_wp2
      go_ret3
      exact ⟨sum, fl, b, gf, gb, rfl, hf.out, hlead.out, hnl.out, (hUn.out nq).fo, (hon.out nq).base_le (by omega), (hUn.out nq).bel⟩
    · have q1 : (y == (m : Int)) = false := by simp [hym]
      obtain ⟨by_, O, hqt, hqc, rfl⟩ := hans.out
      have htO : t ∈ O := by
        refine Classical.byContradiction fun h => hym ?_
        rw [hy, upz_other _ _ (fun e => hst e.symm), hqt.non t (.inl h), hml.out]
      obtain ⟨l, hpc, hdf, hll⟩ := qt_chain hqt htO
      have hpu := hide (fun k => hPu.out gf gb fl by_ _ sum l (w3.drewN k) (hU3.out.stays (up_drewN (n := k) (Below.refl w3.heap.size w3))).bel (hU3.out.stays (up_drewN (n := k) (Below.refl w3.heap.size w3))).fo ((ownb.out.stays (up_drewN (n := k) (Below.refl w3.heap.size w3))).base_le (by omega)) (by omega) hf.out hpc hdf hll (fun v hv => upz_other _ _ hv))
      replace hym := hide hym
      replace hy := hide hy
      have hUn := hide (fun k => hU3.out.stays ((up_drewN (n := k) (Below.refl w3.heap.size w3))))
      clear hqt hqc htO hpc hdf hll hans
      go_wp2
      go_quiet (fail)
      have hUq := hide (hUn.out nq)
      have hpq := hide (hpu.out nq)
      have hzq : w3.heap.size = (w3.drewN nq).heap.size := rfl
      clear hU3 hUn hpu c0 c1 zw
      generalize w3.drewN nq = w4 at hUq hpq hzq ⊢
      have c0 := hUq.out.c0
      have c1 := hUq.out.c1
      have zw := cell_lt c0
      simp only at zw
      go_wp2_with fail
      refine hpq.out.mono ?_
      rintro e w5 ⟨d, f2, rfl, hd0, hd1, hf2, own2, hk2⟩
      have hgfn : gf ≠ w.heap.size := by have := hgf.out; omega
      have hU5 := hide (show FU w n m a cap gf f2 w5 from ⟨hk2.cu hUq.out.c0 (fun h => hgfn h.symm), hk2.cu hUq.out.c1 (fun h => hgfn h.symm), own2, hUq.out.bel.trans (hk2.toBelow (fun j hj => by omega) (by omega))⟩)
      have hwr : IntKind.i64.wrap (sum + d) = sum + d := IntWalk.i64_in _ (by omega)
      have hsb2 := hfb.out _ _ hf2
      replace hf2 := hide hf2
      replace own2 := hide own2
      replace hk2 := hide hk2
      go_wp2
      go_roundg (gk - d.toNat)
      case measure => omega
      case rel => exact ⟨sum + d, f2, rfl, hf2, hU5, by omega, by omega⟩
def MaxAns (N : Int) (n s t : Nat) (es : List Ed) (w : World) (e : Ending) (w' : World) : Prop :=
  ∃ (sum : Int) (fl : Nat → Int) (gf : Nat), e = .returned (.tuple #[.int .i64 sum, .slice (some ⟨gf, 0, none⟩) es.length es.length, .int .i64 0]) ∧ FlowOk (nes es) n s t fl sum ∧ ¬ Lead (arcs fl (nes es) 0) posA s t ∧ Own encI 1 3 w' w.heap.size (.slice (some ⟨gf, 0, none⟩) es.length es.length) (LI es.length fl) ∧ Below w.heap.size w w'
set_option maxHeartbeats 2000000 in
theorem fmax_bad (N : Int) (a : Option Addr) (cap : Nat) (es : List Ed) (x1 x2 : Int) (w : World) (B : Nat) (hB : B ≤ w.heap.size) (hE : Row encE 3 w B a es) (hl : es.length ≤ 9223372036854775807) (h0 : flookErr N es x1 x2 ≠ 0) :
    Calls Try.prog 16 #[.agg #[.int .i64 N, .slice a es.length cap], .int .i64 x1, .int .i64 x2] w fun e w' => e = .returned (.tuple #[.int .i64 0, .slice none 0 0, .int .i64 (flookErr N es x1 x2)]) ∧ Below w.heap.size w w' := by
  have q0 : (flookErr N es x1 x2 != 0) = true := by simp [h0]
  have hL := hide (fun (w' : World) (hb : Below w.heap.size w w') => flook_any N a cap es x1 x2 w' B (Nat.le_trans hB hb.size) (hE.below hb hB) hl)
  clear hE h0
  go_enter Try.func16, Try.ntmps16
  go_wp2_with fail
  refine (hL.out _ (by exact (by repeat (first | with_reducible exact Below.refl _ _ | with_reducible assumption | with_reducible refine up_drewN ?_ | with_reducible refine up_drew ?_ | (with_reducible refine up_alloc ?_ ?_; rotate_left; (first | omega | (simp <;> omega) | simp)) | (with_reducible refine up_set ?_ ?_; rotate_left; (first | omega | (simp <;> omega) | simp)) | (with_reducible refine Below.trans ?_ (Below.mono (by with_reducible assumption) ?_); rotate_left; (first | omega | (simp <;> omega) | simp)))))).mono ?_
  rintro e w1 ⟨rfl, hb1⟩
  have hb2 := hide ((((by repeat (first | with_reducible exact Below.refl _ _ | with_reducible assumption | with_reducible refine up_drewN ?_ | with_reducible refine up_drew ?_ | (with_reducible refine up_alloc ?_ ?_; rotate_left; (first | omega | (simp <;> omega) | simp)) | (with_reducible refine up_set ?_ ?_; rotate_left; (first | omega | (simp <;> omega) | simp)) | (with_reducible refine Below.trans ?_ (Below.mono (by with_reducible assumption) ?_); rotate_left; (first | omega | (simp <;> omega) | simp)))) : Below w.heap.size w _)).trans (hb1.mono (by simp)))
  clear hb1 hL
  go_wp2
  go_ret3
  exact ⟨rfl, hb2.out⟩
set_option maxHeartbeats 2000000 in
theorem fmax_ok (n s t : Nat) (a : Option Addr) (cap : Nat) (es : List Ed) (w : World) (B : Nat) (hB : B ≤ w.heap.size) (hE : Row encE 3 w B a es) (h0 : flookErr (n : Int) es (s : Int) (t : Int) = 0) :
    Calls Try.prog 16 #[.agg #[.int .i64 (n : Int), .slice a es.length cap], .int .i64 (s : Int), .int .i64 (t : Int)] w (MaxAns (n : Int) n s t es w) := by
  obtain ⟨n', s', t', e1, e2, e3, a1, a2, a3, a4, a5, a6, a7, a8⟩ := flook_ok h0
  obtain rfl : n = n' := by omega
  obtain rfl : s = s' := by omega
  obtain rfl : t = t' := by omega
  have hL := hide (fun (w' : World) (hb : Below w.heap.size w w') => by have := flook_any (n : Int) a cap es (s : Int) (t : Int) w' B (Nat.le_trans hB hb.size) (hE.below hb hB) (by omega); rw [h0] at this; exact this)
  have hU := hide (fun (w' : World) (hb : Below w.heap.size w w') => full_flow n s t a cap es w' B (Nat.le_trans hB hb.size) (hE.below hb hB) a2 a3 a4 a5 a6 a7 a8)
  clear hE h0 e1 e2 e3 a4 a5
  unfold MaxAns
  go_enter Try.func16, Try.ntmps16
  go_wp2_with fail
  refine (hL.out _ (by exact (by repeat (first | with_reducible exact Below.refl _ _ | with_reducible assumption | with_reducible refine up_drewN ?_ | with_reducible refine up_drew ?_ | (with_reducible refine up_alloc ?_ ?_; rotate_left; (first | omega | (simp <;> omega) | simp)) | (with_reducible refine up_set ?_ ?_; rotate_left; (first | omega | (simp <;> omega) | simp)) | (with_reducible refine Below.trans ?_ (Below.mono (by with_reducible assumption) ?_); rotate_left; (first | omega | (simp <;> omega) | simp)))))).mono ?_
  rintro e w1 ⟨rfl, hb1⟩
  have k0 := cu_below hb1 (p := ⟨w.heap.size, 0, none⟩) (v := .int .i64 (n : Int)) (by simp [go_sem]) (by simp)
  have k1 := cu_below hb1 (p := ⟨w.heap.size, 1, none⟩) (v := .slice a es.length cap) (by simp [go_sem]) (by simp)
  have hb2 := hide ((((by repeat (first | with_reducible exact Below.refl _ _ | with_reducible assumption | with_reducible refine up_drewN ?_ | with_reducible refine up_drew ?_ | (with_reducible refine up_alloc ?_ ?_; rotate_left; (first | omega | (simp <;> omega) | simp)) | (with_reducible refine up_set ?_ ?_; rotate_left; (first | omega | (simp <;> omega) | simp)) | (with_reducible refine Below.trans ?_ (Below.mono (by with_reducible assumption) ?_); rotate_left; (first | omega | (simp <;> omega) | simp)))) : Below w.heap.size w _)).trans (hb1.mono (by simp)))
  have hz := hb1.size
  simp at hz
  clear hb1 hL
  go_wp2_with fail
  refine (hU.out _ hb2.out).mono ?_
  rintro e w2 ⟨sum, fl, b, gf, gb, rfl, h1, h2, h3, h4, h5, hb3⟩
  replace h1 := hide h1
  replace h2 := hide h2
  replace h3 := hide h3
  replace h4 := hide h4
  replace h5 := hide h5
  have hb4 := hide (hb2.out.trans (hb3.mono (by omega)))
  clear hb3 hU
  go_wp2
  go_ret3
  exact ⟨sum, fl, gf, rfl, h1.out, h3.out, h4.out.base_le (by omega), hb4.out⟩
def CutAns (n s t : Nat) (es : List Ed) (w : World) (e : Ending) (w' : World) : Prop :=
  ∃ (sum : Int) (fl : Nat → Int) (S : Nat → Bool) (av : Option Addr) (cv : Nat), e = .returned (.tuple #[.slice av n cv, .int .i64 0]) ∧ FlowOk (nes es) n s t fl sum ∧ ¬ Lead (arcs fl (nes es) 0) posA s t ∧ (∀ v, S v = true ↔ Lead (arcs fl (nes es) 0) posA s v) ∧ Own encB 1 4 w' w.heap.size (.slice av n cv) (RW n S) ∧ Below w.heap.size w w'
set_option maxHeartbeats 2000000 in
theorem fcut_bad (N : Int) (a : Option Addr) (cap : Nat) (es : List Ed) (x1 x2 : Int) (w : World) (B : Nat) (hB : B ≤ w.heap.size) (hE : Row encE 3 w B a es) (hl : es.length ≤ 9223372036854775807) (h0 : flookErr N es x1 x2 ≠ 0) :
    Calls Try.prog 26 #[.agg #[.int .i64 N, .slice a es.length cap], .int .i64 x1, .int .i64 x2] w fun e w' => e = .returned (.tuple #[.slice none 0 0, .int .i64 (flookErr N es x1 x2)]) ∧ Below w.heap.size w w' := by
  have q0 : (flookErr N es x1 x2 != 0) = true := by simp [h0]
  have hL := hide (fun (w' : World) (hb : Below w.heap.size w w') => flook_any N a cap es x1 x2 w' B (Nat.le_trans hB hb.size) (hE.below hb hB) hl)
  clear hE h0
  go_enter Try.func26, Try.ntmps26
  go_wp2_with fail
  refine (hL.out _ (by exact (by repeat (first | with_reducible exact Below.refl _ _ | with_reducible assumption | with_reducible refine up_drewN ?_ | with_reducible refine up_drew ?_ | (with_reducible refine up_alloc ?_ ?_; rotate_left; (first | omega | (simp <;> omega) | simp)) | (with_reducible refine up_set ?_ ?_; rotate_left; (first | omega | (simp <;> omega) | simp)) | (with_reducible refine Below.trans ?_ (Below.mono (by with_reducible assumption) ?_); rotate_left; (first | omega | (simp <;> omega) | simp)))))).mono ?_
  rintro e w1 ⟨rfl, hb1⟩
  have hb2 := hide ((((by repeat (first | with_reducible exact Below.refl _ _ | with_reducible assumption | with_reducible refine up_drewN ?_ | with_reducible refine up_drew ?_ | (with_reducible refine up_alloc ?_ ?_; rotate_left; (first | omega | (simp <;> omega) | simp)) | (with_reducible refine up_set ?_ ?_; rotate_left; (first | omega | (simp <;> omega) | simp)) | (with_reducible refine Below.trans ?_ (Below.mono (by with_reducible assumption) ?_); rotate_left; (first | omega | (simp <;> omega) | simp)))) : Below w.heap.size w _)).trans (hb1.mono (by simp)))
  clear hb1 hL
  go_wp2
  go_ret2
  exact ⟨rfl, hb2.out⟩
theorem newB (w : World) (t : TypeId) (x : Bool) (g : Nat) (hg : g = w.heap.size) : ∀ j u, (encB x)[j]? = some u → (w.alloc (.cells #[.bool x] t)).cell? ((⟨g, 0, none⟩ : Addr).add j) = some u := by
  intro j u hj; subst hg
  match j, hj with
  | 0, hj => simp [encB] at hj; subst hj; simp [Addr.add]
theorem rw_succ (k : Nat) (f : Nat → Bool) : RW (k + 1) f = RW k f ++ [f k] := by simp [RW, List.range_succ]
set_option maxRecDepth 100000 in
set_option maxHeartbeats 2000000 in
theorem fcut_ok (n s t : Nat) (a : Option Addr) (cap : Nat) (es : List Ed) (w : World) (B : Nat) (hB : B ≤ w.heap.size) (hE : Row encE 3 w B a es) (h0 : flookErr (n : Int) es (s : Int) (t : Int) = 0) :
    Calls Try.prog 26 #[.agg #[.int .i64 (n : Int), .slice a es.length cap], .int .i64 (s : Int), .int .i64 (t : Int)] w (CutAns n s t es w) := by
  obtain ⟨n', s', t', e1, e2, e3, a1, a2, a3, a4, a5, a6, a7, a8⟩ := flook_ok h0
  obtain rfl : n = n' := by omega
  obtain rfl : s = s' := by omega
  obtain rfl : t = t' := by omega
  have hL := hide (fun (w' : World) (hb : Below w.heap.size w w') => by have := flook_any (n : Int) a cap es (s : Int) (t : Int) w' B (Nat.le_trans hB hb.size) (hE.below hb hB) (by omega); rw [h0] at this; exact this)
  have hU := hide (fun (w' : World) (hb : Below w.heap.size w w') => full_flow n s t a cap es w' B (Nat.le_trans hB hb.size) (hE.below hb hB) a2 a3 a4 a5 a6 a7 a8)
  clear hE h0 e1 e2 e3 a4 a5
  unfold CutAns
  go_enter Try.func26, Try.ntmps26
  go_wp2_with fail
  refine (hL.out _ (by exact (by repeat (first | with_reducible exact Below.refl _ _ | with_reducible assumption | with_reducible refine up_drewN ?_ | with_reducible refine up_drew ?_ | (with_reducible refine up_alloc ?_ ?_; rotate_left; (first | omega | (simp <;> omega) | simp)) | (with_reducible refine up_set ?_ ?_; rotate_left; (first | omega | (simp <;> omega) | simp)) | (with_reducible refine Below.trans ?_ (Below.mono (by with_reducible assumption) ?_); rotate_left; (first | omega | (simp <;> omega) | simp)))))).mono ?_
  rintro e w1 ⟨rfl, hb1⟩
  have k0 := cu_below hb1 (p := ⟨w.heap.size, 0, none⟩) (v := .int .i64 (n : Int)) (by simp [go_sem]) (by simp)
  have k1 := cu_below hb1 (p := ⟨w.heap.size, 1, none⟩) (v := .slice a es.length cap) (by simp [go_sem]) (by simp)
  have hb2 := hide ((((by repeat (first | with_reducible exact Below.refl _ _ | with_reducible assumption | with_reducible refine up_drewN ?_ | with_reducible refine up_drew ?_ | (with_reducible refine up_alloc ?_ ?_; rotate_left; (first | omega | (simp <;> omega) | simp)) | (with_reducible refine up_set ?_ ?_; rotate_left; (first | omega | (simp <;> omega) | simp)) | (with_reducible refine Below.trans ?_ (Below.mono (by with_reducible assumption) ?_); rotate_left; (first | omega | (simp <;> omega) | simp)))) : Below w.heap.size w _)).trans (hb1.mono (by simp)))
  have hz := hb1.size
  simp at hz
  clear hb1 hL
  go_wp2_with fail
  refine (hU.out _ hb2.out).mono ?_
  rintro e w2 ⟨sum, fl, b, gf, gb, rfl, h1, h2, h3, h4, h5, hb3⟩
  replace h1 := hide h1
  replace h2 := hide h2
  replace h3 := hide h3
  replace h5 := hide h5
  clear h4
  have k1 := cu_below hb3 k1 (by simp; omega)
  have zk : w.heap.size < w2.heap.size := cell_lt k1
  have hb4 := hide (hb2.out.trans (hb3.mono (by omega)))
  have hgb : w.heap.size < gb ∧ gb < w2.heap.size := by have := h5.out.at_base; omega
  obtain ⟨m, hm⟩ : ∃ m, m = es.length := ⟨_, rfl⟩
  rw [← hm] at k1 h2
  simp only [← hm]
  replace hm := hide hm
  clear hb3 hU k0 hz
  obtain ⟨S, hS⟩ : ∃ S : Nat → Bool, S = fun v => (b v != (m : Int)) := ⟨_, rfl⟩
  have hSl := hide (show ∀ v, S v = true ↔ Lead (arcs fl (nes es) 0) posA s v from fun v => by rw [← h2.out v, hS]; simp)
  replace hS := hide hS
  go_wp2
  go_loopw [12, 32] (fun s12 i wr => ∃ (k : Nat) (av : Option Addr) (cv : Nat), k ≤ n ∧ i = .int .i64 (k : Int) ∧ s12 = .slice av k cv ∧ Hid (Own encB 1 4 wr w2.heap.size (.slice av k cv) (RW k S)) ∧ Hid (Below w2.heap.size w2 wr)) (fun _ i _ => n - (intOf i).toNat)
  case atStart => exact ⟨0, none, 0, Nat.zero_le _, rfl, rfl, hide (Own.nil _ _), hide (Below.refl _ _)⟩
  case round =>
    obtain ⟨k, av, cv, hk, rfl, rfl, hO, hb⟩ := hrel
    by_cases hlt : k < n
    · have k2 := cu_below hb.out k1 zk
      have hz := hb.out.size
      have d0 := (h5.out.below hb.out (Nat.le_refl _)).atI k hlt
      have zd := cell_lt d0
      have zk2 := cell_lt k2
      simp only at zd zk2
      have ik : (0 : Int) ≤ (k : Int) ∧ (k : Int) < (n : Int) := by omega
      have hSk : S k = (b k != (m : Int)) := by rw [hS.out]
      obtain ⟨y, hy⟩ : ∃ y, y = b k := ⟨_, rfl⟩
      rw [← hy] at d0 hSk
      obtain ⟨x, hx⟩ : ∃ x, x = (y != (m : Int)) := ⟨_, rfl⟩
      rw [← hx] at hSk
      have hkl : (RW k S).length = k := rw_len k S
      have hrs := hide (show RW (k + 1) S = RW k S ++ [x] by rw [rw_succ, hSk])
      have hx' := hx.symm
      replace hy := hide hy
      replace hx := hide hx
      replace hSk := hide hSk
      go_wp2_with (at_builtin; (refine wpList_push (e := 4) (enc := encB) (xs := (RW k S)) (v := .slice av (k) cv) (base := w2.heap.size) rfl (.tmp 36) (.tmp 42) 52 rfl _ 1 Try.underlying52 info_bool rfl ?d17 lenB oneB (k) ?d27 ?d37 ?d47 ⟨wr.heap.size, 0, none⟩ 1 x ?d57 ?d67 ?d77 ?d87 ?d97 ?_); (case d17 => omega); (case d27 => exact hkl); (case d37 => rfl); (case d47 => exact (hO.out.alloc _)); (case d57 => rfl); (case d67 => exact newB _ _ _ _ rfl); (case d77 => omega); (case d87 => unfold maxLen; omega); (case d97 => first | omega | (simp; done) | (simp; omega)); intro g7 c7 w7 own7 hb7 hgr7 hg7 hgl7; rw [← hrs.out] at own7; replace own7 := hide own7; have hb8 := hide (hb.out.trans ((up_alloc (Below.refl w2.heap.size wr) hz).trans hb7)); replace hgr7 := hide hgr7; replace hb7 := hide hb7)
      go_roundw
      case rel => exact ⟨k + 1, _, _, by omega, by go_num, rfl, own7, hb8⟩
      case measure => simp [intOf]; omega
    · obtain rfl : n = k := by omega
      have hb9 := hide (hb4.out.trans (hb.out.mono (by omega)))
      go_wp2
      go_ret2
      exact ⟨sum, fl, S, av, cv, rfl, h1.out, h3.out, hSl.out, hO.out.base_le (by omega), hb9.out⟩
end Go.Proofs.Ytcehdpeeaogpiaa
