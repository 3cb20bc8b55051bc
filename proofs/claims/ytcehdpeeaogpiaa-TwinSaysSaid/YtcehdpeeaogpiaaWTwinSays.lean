/-
  The walk of felllaw.TwinSays: it returns true. Conditions: the arguments read as data.
-/
import Derived.Test.YtcehdpeeaogpiaaTwiE
import Derived.Test.YtcehdpeeaogpiaaRTwo
import Derived.Test.YtcehdpeeaogpiaaRCost
import Derived.Test.YtcehdpeeaogpiaaHeldEnd
import Derived.Test.YtcehdpeeaogpiaaOpen
import Derived.Deep.DeepCutAuto
namespace Go.Proofs.Ytcehdpeeaogpiaa
open Go.RowKit
set_option linter.unusedSimpArgs false
set_option linter.unusedVariables false
theorem pb_zero (w : World) : PB w ⟨none, 0, 0, 0, []⟩ := ⟨rfl, Nat.le_refl _, by simp, Row.nil _ _ _ _ _⟩
theorem zero_same (w : World) : Calls Try.prog 53 #[.agg #[.slice none 0 0, .int .i64 0], .agg #[.slice none 0 0, .int .i64 0]] w fun e w' => e = .returned (.bool true) ∧ Below w.heap.size w w' :=
  sameway_any ⟨none, 0, 0, 0, []⟩ ⟨none, 0, 0, 0, []⟩ w (pb_zero w) (pb_zero w) true (by simp)
/-- one of the two ways in memory -/
structure OneW (n : Nat) (es : List Ed) (f t : Nat) (w : World) (a : Option Addr) (m : Nat) (p : List Int) : Prop where
  row : Row encI 1 w w.heap.size a p
  len : p.length = m
  pos : 1 ≤ m ∧ m ≤ 64
  cost : (wcost (n : Int) es p).2 = 0
  hd : p[0]? = some (f : Int)
  ls : p[m - 1]? = some (t : Int)
theorem OneW.stays {n : Nat} {es : List Ed} {f t : Nat} {w w' : World} {a : Option Addr} {m : Nat} {p : List Int} (h : OneW n es f t w a m p) (hb : Below w.heap.size w w') : OneW n es f t w' a m p := ⟨(h.row.below hb (Nat.le_refl _)).mono hb.size, h.len, h.pos, h.cost, h.hd, h.ls⟩
theorem one_of {n : Nat} {es : List Ed} {f t : Nat} {A : List Nat} {w : World} {x : Yv} (h : WayOk n es f t A) (hx : PB w x) (hp : x.p = plc es f A) : OneW n es f t w x.a x.n (NI x.p) := by
  have hl : x.n = A.length + 1 := by rw [← hx.len, hp, plc_len]
  have hl2 := h.len
  rw [plc_len] at hl2
  refine ⟨hx.row, by rw [ni_len]; exact hx.len, by omega, by rw [hp]; exact h.cost, ?_, ?_⟩
  · rw [hp]
    unfold NI
    rw [List.getElem?_map, h.hd]
    rfl
  · rw [hp, hl]
    unfold NI
    rw [List.getElem?_map, Nat.add_sub_cancel, h.ls]
    rfl
/-- what the law's frame keeps: the net's box and the two ways' -/
structure TF (w : World) (N : Int) (m : Nat) (a : Option Addr) (cap b7 : Nat) (va vb : Value) (ka kb : Int) (wr : World) : Prop where
  c0 : wr.cell? ⟨w.heap.size, 0, none⟩ = some (.int .i64 N)
  c1 : wr.cell? ⟨w.heap.size, 1, none⟩ = some (.slice a m cap)
  p0 : wr.cell? ⟨b7, 0, none⟩ = some va
  p1 : wr.cell? ⟨b7, 1, none⟩ = some (.int .i64 ka)
  q0 : wr.cell? ⟨b7 + 1, 0, none⟩ = some vb
  q1 : wr.cell? ⟨b7 + 1, 1, none⟩ = some (.int .i64 kb)
  bel : Below w.heap.size w wr
theorem TF.stays {w wr w' : World} {N : Int} {m : Nat} {a : Option Addr} {cap b7 : Nat} {va vb : Value} {ka kb : Int} (h : TF w N m a cap b7 va vb ka kb wr) (hb : Below wr.heap.size wr w') : TF w N m a cap b7 va vb ka kb w' :=
  ⟨cu_below hb h.c0 (cell_lt h.c0), cu_below hb h.c1 (cell_lt h.c1), cu_below hb h.p0 (cell_lt h.p0), cu_below hb h.p1 (cell_lt h.p1), cu_below hb h.q0 (cell_lt h.q0), cu_below hb h.q1 (cell_lt h.q1), h.bel.trans (hb.mono h.bel.size)⟩
theorem TF.lt {w wr : World} {N : Int} {m : Nat} {a : Option Addr} {cap b7 : Nat} {va vb : Value} {ka kb : Int} (h : TF w N m a cap b7 va vb ka kb wr) : w.heap.size < wr.heap.size ∧ b7 < wr.heap.size ∧ b7 + 1 < wr.heap.size := ⟨cell_lt h.c0, cell_lt h.p0, cell_lt h.q0⟩
theorem tf_start {w w1 : World} {N : Int} {m : Nat} {a : Option Addr} {cap : Nat} (va vb : Value) (ka kb : Int) (k0 : w1.cell? ⟨w.heap.size, 0, none⟩ = some (.int .i64 N)) (k1 : w1.cell? ⟨w.heap.size, 1, none⟩ = some (.slice a m cap)) (hB : Below w.heap.size w w1) :
    TF w N m a cap w1.heap.size va vb ka kb ((w1.alloc (.cells #[va, .int .i64 ka] 36)).alloc (.cells #[vb, .int .i64 kb] 36)) :=
  ⟨cu_alloc (cu_alloc k0), cu_alloc (cu_alloc k1), by simp [go_sem], by simp [go_sem], by simp [go_sem], by simp [go_sem], up_alloc (up_alloc hB hB.size) (by simp; have := hB.size; omega)⟩
set_option maxRecDepth 100000 in
set_option maxHeartbeats 8000000 in
theorem walk_TwinSays (x0 : Int) (a0 : Option Addr) (cap0 : Nat) (es0 : List Ed) (x1 : Int) (x2 : Int) (w : World) (b0 : Bd x0) (l0 : es0.length ≤ cap0) (m0 : cap0 ≤ maxLen) (r0 : Row encE 3 w w.heap.size a0 es0) (be0 : ∀ x ∈ es0, BdE x) (b1 : Bd x1) (b2 : Bd x2) :
    Calls Try.prog 14 #[.agg #[.int .i64 x0, .slice a0 es0.length cap0], .int .i64 x1, .int .i64 x2] w fun e w' => e = .returned (.bool true) ∧ Below w.heap.size w w' := by
  have hl : es0.length ≤ 9223372036854775807 := by unfold maxLen at m0; omega
  have hZ := hide (fun (w' : World) => zero_same w')
  obtain ⟨z, hz⟩ : ∃ z, z = lookErr x0 es0 [x1, x2] := ⟨_, rfl⟩
  have hLk := hide (fun (w' : World) (b : Nat) (hb : Below w.heap.size w w') (c0 : w'.cell? ⟨b, 0, none⟩ = some (.int .i64 x1)) (c1 : w'.cell? ⟨b, 1, none⟩ = some (.int .i64 x2)) => (show Calls Try.prog 45 #[.agg #[.int .i64 x0, .slice a0 es0.length cap0], .slice (some ⟨b, 0, none⟩) 2 2] w' (fun e w'' => e = .returned (.int .i64 z) ∧ Below w'.heap.size w' w'') from by
    rw [hz]
    exact rlook_any x0 a0 cap0 es0 (some ⟨b, 0, none⟩) 2 2 [x1, x2] rfl w' w'.heap.size (Nat.le_refl _) ((r0.below hb (Nat.le_refl _)).mono hb.size) (row2t c0 c1) hl (by omega)))
  by_cases h0 : tlookErr x0 es0 x1 x2 = 0
  · obtain ⟨n, s, t, rfl, rfl, rfl, n1, n2, n3, hes, hpe, hs, ht, hst, hlk⟩ := tlook_ok h0
    have hne : netErr (n : Int) es0 = 0 := (posErr_ok (look_ok hlk).1).1
    have hz0 : z = 0 := by rw [hz, hlk]
    subst hz0
    have hT := hide (fun (w' : World) (hb : Below w.heap.size w w') => two_ok n a0 cap0 es0 s t w' w.heap.size hb.size (r0.below hb (Nat.le_refl _)) n1 n2 n3 hes hpe hs ht hst hlk)
    have hR := hide (fun (hn6 : n ≤ 6) (hE12 : es0.length ≤ 12) (r : Int) (hr : r = twoF es0 (simF es0 t 6 s [])) (w' : World) (hb : Below w.heap.size w w') => rtwo_any n a0 cap0 es0 s t w' w.heap.size hb.size (r0.below hb (Nat.le_refl _)) hes hE12 hn6 hs r hr)
    have hst2 : ((s : Int) == (t : Int)) = false := by simp; omega
    have hNone := hide (fun (hn6 : n ≤ 6) (h : TwoNo es0 s t) => two_none hes hn6 hs h)
    have hWay := hide (fun (A B : List Nat) (h : TwoYes es0 s t A B) => two_way hne hpe hs h)
    have hCost := hide (fun (A B : List Nat) (h : TwoYes es0 s t A B) => two_costs hne hpe hs h)
    have hAp := hide (fun (pa qa : Option Addr) (pc qc m k : Nat) (p q : List Int) (wr w' : World) (hbw : Below w.heap.size w wr) (hb : Below wr.heap.size wr w') (h1 : OneW n es0 s t wr pa m p) (h2 : OneW n es0 s t wr qa k q) (ha : ApartA n es0 p q) => (show Calls Try.prog 78 #[.agg #[.int .i64 (n : Int), .slice a0 es0.length cap0], .slice pa m pc, .slice qa k qc] w' (fun e w'' => e = .returned (.bool true) ∧ Below w'.heap.size w' w'') from by
      have h3 := rapart_any n a0 cap0 es0 pa qa pc qc p q w' w'.heap.size (Nat.le_refl _) ((r0.below (hbw.trans (hb.mono hbw.size)) (Nat.le_refl _)).mono (Nat.le_trans hbw.size hb.size)) (h1.stays hb).row (h2.stays hb).row n2 n3 (wcost_walked h1.cost).2 (wcost_walked h2.cost).2
      rw [h1.len, h2.len] at h3
      exact h3.mono fun e w'' ⟨t, h4, h5, h6⟩ => ⟨by rw [h4, h5.2 ha], h6⟩))
    have hCo := hide (fun (pa qa : Option Addr) (pc qc m k : Nat) (p q : List Int) (r : Int) (wr w' : World) (hbw : Below w.heap.size w wr) (hb : Below wr.heap.size wr w') (h1 : OneW n es0 s t wr pa m p) (h2 : OneW n es0 s t wr qa k q) (hr : r = costTwoF es0 n p q) => (show Calls Try.prog 79 #[.agg #[.int .i64 (n : Int), .slice a0 es0.length cap0], .slice pa m pc, .slice qa k qc] w' (fun e w'' => e = .returned (.int .i64 r) ∧ Below w'.heap.size w' w'') from by
      have h3 := rcost_any n a0 cap0 es0 pa qa pc qc p q w' w'.heap.size (Nat.le_refl _) ((r0.below (hbw.trans (hb.mono hbw.size)) (Nat.le_refl _)).mono (Nat.le_trans hbw.size hb.size)) (h1.stays hb).row (h2.stays hb).row n2 n3 hes (wcost_walked h1.cost).2 (wcost_walked h2.cost).2 r hr
      rw [h1.len, h2.len] at h3
      exact h3))
    have hWc := hide (fun (pa : Option Addr) (pc m : Nat) (p : List Int) (w' : World) (hb : Below w.heap.size w w') (h1 : OneW n es0 s t w' pa m p) => (show Calls Try.prog 54 #[.agg #[.int .i64 (n : Int), .slice a0 es0.length cap0], .slice pa m pc] w' (fun e w'' => ∃ c : Int, e = .returned (.tuple #[.int .i64 c, .int .i64 0]) ∧ Below w'.heap.size w' w'') from by
      have h3 := rwcost_any (n : Int) a0 cap0 es0 pa pc p w' w'.heap.size (Nat.le_refl _) ((r0.below hb (Nat.le_refl _)).mono hb.size) h1.row hl (by have := h1.len; have := h1.pos; omega)
      rw [h1.len] at h3
      exact h3.mono fun e w'' h4 => ⟨(wcost (n : Int) es0 p).1, by have h5 := h4.1; rw [h1.cost] at h5; exact h5, h4.2⟩))
    obtain ⟨sm, hsm⟩ : ∃ sm, sm = decide (n ≤ 6 ∧ es0.length ≤ 12) := ⟨_, rfl⟩
    have hsz : ((n : Int) ≤ 6 ∧ n ≤ 6 ∧ es0.length ≤ 12 ∧ (es0.length : Int) ≤ 12 ∧ sm = true) ∨ ((n : Int) ≤ 6 ∧ n ≤ 6 ∧ ¬ es0.length ≤ 12 ∧ ¬ (es0.length : Int) ≤ 12 ∧ sm = false) ∨ (¬ (n : Int) ≤ 6 ∧ ¬ n ≤ 6 ∧ sm = false) := by
      rw [hsm]
      by_cases h1 : n ≤ 6
      · by_cases h2 : es0.length ≤ 12
        · exact .inl ⟨by omega, h1, h2, by omega, by simp [h1, h2]⟩
        · exact .inr (.inl ⟨by omega, h1, h2, by omega, by simp [h2]⟩)
      · exact .inr (.inr ⟨by omega, h1, by simp [h1]⟩)
    have hsmT := hide (show sm = true → n ≤ 6 ∧ es0.length ≤ 12 from fun h => by rw [hsm] at h; simpa using h)
    replace hsm := hide hsm
    replace hsz := hide hsz
    replace hz := hide hz
    replace hes := hide hes
    replace hpe := hide hpe
    clear r0 be0 h0 hlk hne
    go_enter Try.func14, Try.ntmps14
    go_wp2_with fail
    refine (hT.out _ (by repeat (first | with_reducible exact Below.refl _ _ | with_reducible assumption | with_reducible refine up_drewN ?_ | with_reducible refine up_drew ?_ | (with_reducible refine up_alloc ?_ ?_; rotate_left; (first | omega | (simp <;> omega) | simp)) | (with_reducible refine up_set ?_ ?_; rotate_left; (first | omega | (simp <;> omega) | simp)) | (with_reducible refine Below.trans ?_ (Below.mono (by with_reducible assumption) ?_); rotate_left; (first | omega | (simp <;> omega) | simp))))).mono ?_
    rintro e w1 ⟨hb1, (⟨hno, rfl⟩ | ⟨A, B, x, y, hY, rfl, hPx, hPy, hxp, hyp, hxk, hyk⟩)⟩
    · have hB1 := hide (show Below w.heap.size w w1 from (by repeat (first | with_reducible exact Below.refl _ _ | with_reducible assumption | with_reducible refine up_drewN ?_ | with_reducible refine up_drew ?_ | (with_reducible refine up_alloc ?_ ?_; rotate_left; (first | omega | (simp <;> omega) | simp)) | (with_reducible refine up_set ?_ ?_; rotate_left; (first | omega | (simp <;> omega) | simp)) | (with_reducible refine Below.trans ?_ (Below.mono (by with_reducible assumption) ?_); rotate_left; (first | omega | (simp <;> omega) | simp)))))
      have k0 : w1.cell? ⟨w.heap.size, 0, none⟩ = some (.int .i64 n) := cu_below hb1 (by simp [go_sem]) (by simp)
      have k1 : w1.cell? ⟨w.heap.size, 1, none⟩ = some (.slice a0 es0.length cap0) := cu_below hb1 (by simp [go_sem]) (by simp)
      have hz1 : w.heap.size < w1.heap.size := cell_lt k0
      replace hno := hide hno
      clear hb1 hT
      have hF2 := hide (tf_start (.slice none 0 0) (.slice none 0 0) 0 0 k0 k1 hB1.out)
      obtain ⟨W2, hW2⟩ : ∃ W2, W2 = ((w1.alloc (.cells #[.slice none 0 0, .int .i64 0] 36)).alloc (.cells #[.slice none 0 0, .int .i64 0] 36)) := ⟨_, rfl⟩
      have hz2 : W2.heap.size = w1.heap.size + 1 + 1 := by rw [hW2]; simp
      rw [← hW2] at hF2
      go_wp2_with fail
      simp only [← hW2]
      simp only [← hz2]
      replace hW2 := hide hW2
      refine (hLk.out _ W2.heap.size (up_alloc hF2.out.bel hF2.out.bel.size) (by simp [go_sem]) (by simp [go_sem])).mono ?_
      rintro e w2 ⟨rfl, hb2⟩
      have hF3 := hide (hF2.out.stays ((up_alloc (Below.refl W2.heap.size W2) (Nat.le_refl _)).trans (hb2.mono (by simp))))
      obtain ⟨b7, hb7⟩ : ∃ b7, b7 = w1.heap.size := ⟨_, rfl⟩
      rw [← hb7] at hF3
      simp only [← hb7]
      replace hb7 := hide hb7
      replace hz2 := hide hz2
      clear hF2 hB1 k0 k1 hz1 hb2 hLk
      have c0 := hF3.out.c0
      have c1 := hF3.out.c1
      have z0 := hF3.out.lt.1
      go_upto_region 7 with fail
      go_cut [11] (fun s11 wx => s11 = .bool sm ∧ Hid (TF w n es0.length a0 cap0 b7 (.slice none 0 0) (.slice none 0 0) 0 0 wx))
      case first =>
        rcases hsz.out with ⟨h1, h2, h3, h4, rfl⟩ | ⟨h1, h2, h3, h4, rfl⟩ | ⟨h1, h2, rfl⟩
        all_goals
          go_wp2
          go_meet
          case rel => exact ⟨by first | rfl | (simp; omega), hF3⟩
      case rest =>
        obtain ⟨rfl, hF⟩ := hcut
        clear hF3 c0 c1 z0
        have p0 := hF.out.p0
        have p1 := hF.out.p1
        have z1 := hF.out.lt.2.1
        go_wp2_with fail
        refine (hZ.out _).mono ?_
        rintro e w3 ⟨rfl, hb3⟩
        have hF4 := hide (hF.out.stays hb3)
        clear hF p0 p1 z1 hb3
        have q0 := hF4.out.q0
        have q1 := hF4.out.q1
        have z1 := hF4.out.lt.2.2
        go_wp2_with fail
        refine (hZ.out _).mono ?_
        rintro e w4 ⟨rfl, hb4⟩
        have hF5 := hide (hF4.out.stays hb4)
        clear hF4 q0 q1 z1 hb4
        have c0 := hF5.out.c0
        have c1 := hF5.out.c1
        have z0 := hF5.out.lt.1
        cases sm with
        | false =>
          go_wp2
          go_ret
          exact ⟨rfl, hF5.out.bel⟩
        | true =>
          obtain ⟨hn6, he12⟩ := hsmT.out rfl
          have hR2 := hide (hR.out hn6 he12 FAR (hNone.out hn6 hno.out) w4 hF5.out.bel)
          unfold FAR at hR2
          go_wp2_with fail
          refine hR2.out.mono ?_
          rintro e w5 ⟨rfl, hb5⟩
          have hB5 := hide (hF5.out.bel.trans (hb5.mono hF5.out.bel.size))
          go_wp2
          go_ret
          exact ⟨rfl, hB5.out⟩
    · have hB1 := hide (show Below w.heap.size w w1 from (by repeat (first | with_reducible exact Below.refl _ _ | with_reducible assumption | with_reducible refine up_drewN ?_ | with_reducible refine up_drew ?_ | (with_reducible refine up_alloc ?_ ?_; rotate_left; (first | omega | (simp <;> omega) | simp)) | (with_reducible refine up_set ?_ ?_; rotate_left; (first | omega | (simp <;> omega) | simp)) | (with_reducible refine Below.trans ?_ (Below.mono (by with_reducible assumption) ?_); rotate_left; (first | omega | (simp <;> omega) | simp)))))
      have k0 : w1.cell? ⟨w.heap.size, 0, none⟩ = some (.int .i64 n) := cu_below hb1 (by simp [go_sem]) (by simp)
      have k1 : w1.cell? ⟨w.heap.size, 1, none⟩ = some (.slice a0 es0.length cap0) := cu_below hb1 (by simp [go_sem]) (by simp)
      have hz1 : w.heap.size < w1.heap.size := cell_lt k0
      have oA1 := hide (one_of (hWay.out A B hY) hPx hxp)
      have oB1 := hide (one_of (hWay.out B A (two_swap hY)) hPy hyp)
      obtain ⟨cA, cC, cT⟩ := hCost.out A B hY
      obtain ⟨ax, mx, cx, kx, px⟩ := x
      obtain ⟨ay, my, cy, ky, py⟩ := y
      simp only at oA1 oB1 hxp hyp hxk hyk ⊢
      subst hxp hyp
      rw [← hxk, ← hyk] at cC cT
      obtain ⟨P, hP⟩ : ∃ P, P = NI (plc es0 s A) := ⟨_, rfl⟩
      obtain ⟨Q, hQ⟩ : ∃ Q, Q = NI (plc es0 s B) := ⟨_, rfl⟩
      rw [← hP] at oA1 cA cC
      rw [← hQ] at oB1 cA cC
      have bA := sum_bd hes.out A (wkl_lt hY.wa)
      have bB := sum_bd hes.out B (wkl_lt hY.wb)
      have lA := nodup_fits0 A (List.nodup_append.1 hY.nd).1 (wkl_lt hY.wa)
      have lB := nodup_fits0 B (List.nodup_append.1 hY.nd).2.1 (wkl_lt hY.wb)
      rw [← hxk] at bA
      rw [← hyk] at bB
      have hbk : -7000000 ≤ kx ∧ kx ≤ 7000000 ∧ -7000000 ≤ ky ∧ ky ≤ 7000000 := by omega
      have hwk : IntKind.i64.wrap (kx + ky) = kx + ky := by rw [IntKind.wrap_i64]; omega
      replace hwk := hide hwk
      replace cA := hide cA
      replace cC := hide cC
      replace cT := hide cT
      replace hP := hide hP
      replace hQ := hide hQ
      replace hxk := hide hxk
      replace hyk := hide hyk
      clear hb1 hT hPx hPy hY bA bB lA lB hWay hCost hNone
      have hF2 := hide (tf_start (.slice ax mx cx) (.slice ay my cy) kx ky k0 k1 hB1.out)
      obtain ⟨W2, hW2⟩ : ∃ W2, W2 = ((w1.alloc (.cells #[.slice ax mx cx, .int .i64 kx] 36)).alloc (.cells #[.slice ay my cy, .int .i64 ky] 36)) := ⟨_, rfl⟩
      have hz2 : W2.heap.size = w1.heap.size + 1 + 1 := by rw [hW2]; simp
      have hb12 : Below w1.heap.size w1 W2 := by rw [hW2]; exact up_alloc (up_alloc (Below.refl _ _) (Nat.le_refl _)) (by simp)
      rw [← hW2] at hF2
      go_wp2_with fail
      simp only [← hW2]
      simp only [← hz2]
      replace hW2 := hide hW2
      refine (hLk.out _ W2.heap.size (up_alloc hF2.out.bel hF2.out.bel.size) (by simp [go_sem]) (by simp [go_sem])).mono ?_
      rintro e w2 ⟨rfl, hb2⟩
      have hb22 := (up_alloc (Below.refl W2.heap.size W2) (Nat.le_refl _) : Below W2.heap.size W2 (W2.alloc (.cells #[.int .i64 (s : Int), .int .i64 (t : Int)] 3))).trans (hb2.mono (by simp))
      have hF3 := hide (hF2.out.stays hb22)
      have oA3 := hide ((oA1.out.stays hb12).stays hb22)
      have oB3 := hide ((oB1.out.stays hb12).stays hb22)
      obtain ⟨b7, hb7⟩ : ∃ b7, b7 = w1.heap.size := ⟨_, rfl⟩
      rw [← hb7] at hF3
      simp only [← hb7]
      replace hb7 := hide hb7
      replace hz2 := hide hz2
      clear hF2 hB1 k0 k1 hz1 hb2 hLk hb22 hb12 oA1 oB1
      have c0 := hF3.out.c0
      have c1 := hF3.out.c1
      have z0 := hF3.out.lt.1
      go_upto_region 7 with fail
      go_cut [11] (fun s11 wx => s11 = .bool sm ∧ Hid (TF w n es0.length a0 cap0 b7 (.slice ax mx cx) (.slice ay my cy) kx ky wx) ∧ Hid (OneW n es0 s t wx ax mx P) ∧ Hid (OneW n es0 s t wx ay my Q))
      case first =>
        rcases hsz.out with ⟨h1, h2, h3, h4, rfl⟩ | ⟨h1, h2, h3, h4, rfl⟩ | ⟨h1, h2, rfl⟩
        all_goals
          go_wp2
          go_meet
          case rel => exact ⟨by first | rfl | (simp; omega), hF3, oA3, oB3⟩
      case rest =>
        obtain ⟨rfl, hF, oA, oB⟩ := hcut
        clear hF3 c0 c1 z0 oA3 oB3
        have p0 := hF.out.p0
        have p1 := hF.out.p1
        have q0 := hF.out.q0
        have q1 := hF.out.q1
        have z1 := hF.out.lt.2.1
        have z2 := hF.out.lt.2.2
        go_wp2_with fail
        obtain ⟨bl, hbl⟩ : ∃ bl, bl = wc.heap.size := ⟨_, rfl⟩
        obtain ⟨Wl, hWl⟩ : ∃ Wl, Wl = wc.alloc (.cells #[.slice ax mx cx, .int .i64 kx, .slice ay my cy, .int .i64 ky] 36) := ⟨_, rfl⟩
        have hbw : Below wc.heap.size wc Wl := by rw [hWl]; exact up_alloc (Below.refl _ _) (Nat.le_refl _)
        have hF4 := hide (hF.out.stays hbw)
        have oA4 := hide (oA.out.stays hbw)
        have oB4 := hide (oB.out.stays hbw)
        have hsel := hide (show ∀ k : Nat, k < 2 → ∃ a m c kk p, Wl.cell? ⟨bl, k * 2, none⟩ = some (.slice a m c) ∧ Wl.cell? ⟨bl, k * 2 + 1, none⟩ = some (.int .i64 kk) ∧ OneW n es0 s t Wl a m p from fun k hk => by
          obtain rfl | rfl : k = 0 ∨ k = 1 := by omega
          · exact ⟨ax, mx, cx, kx, P, by rw [hWl, hbl]; simp [go_sem], by rw [hWl, hbl]; simp [go_sem], oA4.out⟩
          · exact ⟨ay, my, cy, ky, Q, by rw [hWl, hbl]; simp [go_sem], by rw [hWl, hbl]; simp [go_sem], oB4.out⟩)
        simp only [← hWl]
        simp only [← hbl]
        replace hWl := hide hWl
        replace hbl := hide hbl
        clear hF oA oB p0 p1 q0 q1 z1 z2 hbw
        go_loopw [89] (fun s89 wr => ∃ k : Nat, k ≤ 2 ∧ s89 = .int .i64 (k : Int) ∧ Hid (Below Wl.heap.size Wl wr)) (fun s89 _ => 2 - (intOf s89).toNat)
        case atStart => exact ⟨0, by omega, rfl, hide (Below.refl _ _)⟩
        case round =>
          obtain ⟨k, hk, rfl, hb⟩ := hrel
          have hF := hide (hF4.out.stays hb.out)
          by_cases hk2 : k < 2
          · obtain ⟨a, m, c, kk, p, d0, d1, hO⟩ := hsel.out k hk2
            have zl := cell_lt d0
            simp only at zl
            have d0 := cu_below hb.out d0 zl
            have d1 := cu_below hb.out d1 zl
            have hO2 := hO.stays hb.out
            have hpl := hO2.len
            have hpm := hO2.pos
            obtain ⟨b0, o0, rfl, hb0, e0⟩ := hO2.row.int 0 (by omega)
            obtain ⟨b1', o1, e1, _, f0⟩ := hO2.row.int (m - 1) (by omega)
            simp only [Option.some.injEq, Addr.mk.injEq] at e1
            obtain ⟨rfl, rfl, _⟩ := e1
            have hh := hO2.hd
            have hl2 := hO2.ls
            rw [List.getElem?_eq_getElem (by omega)] at hh hl2
            rw [Option.some.inj hh] at e0
            rw [Option.some.inj hl2] at f0
            rw [Nat.add_zero] at e0
            have hWk := hide (fun (w' : World) (hb' : Below wr.heap.size wr w') => hWc.out (some ⟨b0, o0, none⟩) c m p w' (hF.out.bel.trans (hb'.mono hF.out.bel.size)) (hO2.stays hb'))
            have hBr := hide (fun (w' : World) (hb' : Below wr.heap.size wr w') => hb.out.trans (hb'.mono hb.out.size))
            have c0 := hF.out.c0
            have c1 := hF.out.c1
            have z0 := hF.out.lt.1
            have z9 : bl < wr.heap.size := cell_lt d0
            have hb0' : b0 < wr.heap.size := hb0
            have e0' := hide e0
            have f0' := hide f0
            have i1 : (0 : Int) ≤ (k : Int) ∧ (k : Int) < 2 := by omega
            have i2 : (1 : Int) ≤ (m : Int) := by omega
            have i3 : ((m : Int) - 1).toNat = m - 1 := by omega
            have i4 : (0 : Int) ≤ (m : Int) - 1 ∧ (m : Int) - 1 < (m : Int) := by omega
            have i5 : (0 : Int) < (m : Int) := by omega
            have i6 : IntKind.i64.wrap ((m : Int) - 1) = (m : Int) - 1 := by rw [IntKind.wrap_i64]; omega
            have q3 : ((s : Int) != (s : Int)) = false := by simp
            have q4 : ((t : Int) != (t : Int)) = false := by simp
            clear hO hO2 hpl hh hl2 e0 f0
            obtain ⟨wo, rfl⟩ : ∃ wo : World, wo = wr := ⟨_, rfl⟩
            go_wp2_with fail
            refine (hWk.out _ (up_alloc (Below.refl _ _) (Nat.le_refl _))).mono ?_
            rintro e w5 ⟨cc, rfl, hb5⟩
            have hb6 : Below wo.heap.size wo w5 := (up_alloc (Below.refl wo.heap.size wo) (Nat.le_refl _)).trans (hb5.mono (by simp))
            have g0 : w5.cell? ⟨wo.heap.size, 0, none⟩ = some (.slice (some ⟨b0, o0, none⟩) m c) := cu_below hb5 (by simp [go_sem]) (by simp)
            have zg : wo.heap.size < w5.heap.size := cell_lt g0
            have e0 := cu_below hb6 e0'.out hb0
            have f0 := cu_below hb6 f0'.out hb0
            have zb : b0 < w5.heap.size := by omega
            have hBr2 := hide (hBr.out _ hb6)
            clear hb5 hb6 d0 d1 c0 c1 hWk hBr e0' f0'
            go_wp2
            go_roundw
            case rel => exact ⟨k + 1, by omega, by go_num, hBr2⟩
            case measure => simp [intOf]; omega
          · have oA5 := hide (oA4.out.stays hb.out)
            have oB5 := hide (oB4.out.stays hb.out)
            obtain ⟨c0, c1, p0, p1, q0, q1, hbel⟩ := hF.out
            have hlt := hF.out.lt
            have key := hide (show ∀ w', Below wr.heap.size wr w' → ((fun w' => Below wr.heap.size wr w' ∧ w'.cell? ⟨w.heap.size, 0, none⟩ = some (.int .i64 (n : Int)) ∧ w'.cell? ⟨w.heap.size, 1, none⟩ = some (.slice a0 es0.length cap0) ∧ w'.cell? ⟨b7, 0, none⟩ = some (.slice ax mx cx) ∧ w'.cell? ⟨b7, 1, none⟩ = some (.int .i64 kx) ∧ w'.cell? ⟨b7 + 1, 0, none⟩ = some (.slice ay my cy) ∧ w'.cell? ⟨b7 + 1, 1, none⟩ = some (.int .i64 ky))) w' from fun w' hb => ⟨hb, cu_below hb c0 hlt.1, cu_below hb c1 hlt.1, cu_below hb p0 hlt.2.1, cu_below hb p1 hlt.2.1, cu_below hb q0 hlt.2.2, cu_below hb q1 hlt.2.2⟩)
            have hAp2 := hide (fun (w' : World) (hb' : Below wr.heap.size wr w') => hAp.out ax ay cx cy mx my P Q wr w' hbel hb' oA5.out oB5.out cA.out)
            have hCo2 := hide (fun (w' : World) (hb' : Below wr.heap.size wr w') => hCo.out ax ay cx cy mx my P Q (kx + ky) wr w' hbel hb' oA5.out oB5.out cC.out)
            have hbel2 := hide hbel
            have hwk2 := hwk.out
            have q5 : ((kx + ky : Int) == kx + ky) = true := by simp
            clear c0 c1 p0 p1 q0 q1 hbel oA5 oB5 hF hb hF4 oA4 oB4 hsel
            go_upto_region 17 with fail
            cases sm with
            | false =>
              refine wp_region_held_drew (S := (fun w' => Below wr.heap.size wr w' ∧ w'.cell? ⟨w.heap.size, 0, none⟩ = some (.int .i64 (n : Int)) ∧ w'.cell? ⟨w.heap.size, 1, none⟩ = some (.slice a0 es0.length cap0) ∧ w'.cell? ⟨b7, 0, none⟩ = some (.slice ax mx cx) ∧ w'.cell? ⟨b7, 1, none⟩ = some (.int .i64 kx) ∧ w'.cell? ⟨b7 + 1, 0, none⟩ = some (.slice ay my cy) ∧ w'.cell? ⟨b7 + 1, 1, none⟩ = some (.int .i64 ky))) (by kernel_rfl) ?_ (fun hHeld => ?_)
              · exact key.out _ (below_drew _)
              (try dsimp only at hHeld)
              refine planH [0, 1, 2, 3, 4] ?_
              iterate 5
                refine PlanH.take (v := ?_) (List.getElem?_toArray.trans rfl) (by kernel_rfl) (fun _ _ _ h => h) (Or.inl ⟨by rfl, ?_⟩) hHeld ?_
                rotate_left
                · intro w hSw; (try dsimp only at hSw); go_simp; (try with_reducible rfl)
                try simp only [Act.put, List.setIfInBounds_toArray, List.set_cons_zero, List.set_cons_succ]
              refine wpAnyH_ready (rs := [5]) (by kernel_rfl) (by simp) (AllReadyH.cons (List.getElem?_toArray.trans rfl) (fun K hK => ?_) AllReadyH.nil)
              (go_simp; refine (hAp2.out _ hHeld.1).mono ?_; rintro e w4 ⟨rfl, hb4⟩)
              have hHeld := key.out _ (below_step hHeld.1 hb4)
              refine hK.out _ _ hHeld (fun _ => ?_)
              clear hK K; try simp only [Act.put, List.setIfInBounds_toArray, List.set_cons_zero, List.set_cons_succ]
              refine planH [6, 7, 8, 9, 10, 11, 12, 13, 14, 15, 16] ?_
              iterate 11
                refine PlanH.take (v := ?_) (List.getElem?_toArray.trans rfl) (by kernel_rfl) (fun _ _ _ h => h) (Or.inl ⟨by rfl, ?_⟩) hHeld ?_
                rotate_left
                · intro w hSw; (try dsimp only at hSw); go_simp; (try with_reducible rfl)
                try simp only [Act.put, List.setIfInBounds_toArray, List.set_cons_zero, List.set_cons_succ]
              refine wpAnyH_ready (rs := [17]) (by kernel_rfl) (by simp) (AllReadyH.cons (List.getElem?_toArray.trans rfl) (fun K hK => ?_) AllReadyH.nil)
              (go_simp; refine (hCo2.out _ hHeld.1).mono ?_; rintro e w5 ⟨rfl, hb5⟩)
              have hHeld := key.out _ (below_step hHeld.1 hb5)
              refine hK.out _ _ hHeld (fun _ => ?_)
              clear hK K; try simp only [Act.put, List.setIfInBounds_toArray, List.set_cons_zero, List.set_cons_succ]
              refine planH [18, 19, 20, 21, 22, 23] ?_
              iterate 6
                refine PlanH.take (v := ?_) (List.getElem?_toArray.trans rfl) (by kernel_rfl) (fun _ _ _ h => h) (Or.inl ⟨by rfl, ?_⟩) hHeld ?_
                rotate_left
                · intro w hSw; (try dsimp only at hSw); go_simp; (try with_reducible rfl)
                try simp only [Act.put, List.setIfInBounds_toArray, List.set_cons_zero, List.set_cons_succ]
              refine planH [24, 25, 26, 27, 28, 29, 30, 31, 32, 33] ?_
              iterate 10
                refine PlanH.take (v := undef) (List.getElem?_toArray.trans rfl) (by kernel_rfl) (fun _ _ _ h => h) (Or.inr ⟨by rfl, rfl⟩) hHeld ?_; try simp only [Act.put, List.setIfInBounds_toArray, List.set_cons_zero, List.set_cons_succ]
              refine planH [34, 35, 36] ?_
              iterate 3
                refine PlanH.take (v := ?_) (List.getElem?_toArray.trans rfl) (by kernel_rfl) (fun _ _ _ h => h) (Or.inl ⟨by rfl, ?_⟩) hHeld ?_
                rotate_left
                · intro w hSw; (try dsimp only at hSw); go_simp; (try with_reducible rfl)
                try simp only [Act.put, List.setIfInBounds_toArray, List.set_cons_zero, List.set_cons_succ]
              refine wpAnyH_done (by kernel_rfl) ?_ _
              have hfin := hide (hbel2.out.trans (hHeld.1.mono hbel2.out.size))
              clear hHeld
              go_wp2
              go_ret
              exact ⟨rfl, hfin.out⟩
            | true =>
              obtain ⟨hn6, he12⟩ := hsmT.out rfl
              have hR2 := hide (fun (w' : World) (hb' : Below wr.heap.size wr w') => hR.out hn6 he12 (kx + ky) (cT.out hn6) w' (hbel2.out.trans (hb'.mono hbel2.out.size)))
              refine wp_region_held_drew (S := (fun w' => Below wr.heap.size wr w' ∧ w'.cell? ⟨w.heap.size, 0, none⟩ = some (.int .i64 (n : Int)) ∧ w'.cell? ⟨w.heap.size, 1, none⟩ = some (.slice a0 es0.length cap0) ∧ w'.cell? ⟨b7, 0, none⟩ = some (.slice ax mx cx) ∧ w'.cell? ⟨b7, 1, none⟩ = some (.int .i64 kx) ∧ w'.cell? ⟨b7 + 1, 0, none⟩ = some (.slice ay my cy) ∧ w'.cell? ⟨b7 + 1, 1, none⟩ = some (.int .i64 ky))) (by kernel_rfl) ?_ (fun hHeld => ?_)
              · exact key.out _ (below_drew _)
              (try dsimp only at hHeld)
              refine planH [0, 1, 2, 3, 4] ?_
              iterate 5
                refine PlanH.take (v := ?_) (List.getElem?_toArray.trans rfl) (by kernel_rfl) (fun _ _ _ h => h) (Or.inl ⟨by rfl, ?_⟩) hHeld ?_
                rotate_left
                · intro w hSw; (try dsimp only at hSw); go_simp; (try with_reducible rfl)
                try simp only [Act.put, List.setIfInBounds_toArray, List.set_cons_zero, List.set_cons_succ]
              refine wpAnyH_ready (rs := [5]) (by kernel_rfl) (by simp) (AllReadyH.cons (List.getElem?_toArray.trans rfl) (fun K hK => ?_) AllReadyH.nil)
              (go_simp; refine (hAp2.out _ hHeld.1).mono ?_; rintro e w4 ⟨rfl, hb4⟩)
              have hHeld := key.out _ (below_step hHeld.1 hb4)
              refine hK.out _ _ hHeld (fun _ => ?_)
              clear hK K; try simp only [Act.put, List.setIfInBounds_toArray, List.set_cons_zero, List.set_cons_succ]
              refine planH [6, 7, 8, 9, 10, 11, 12, 13, 14, 15, 16] ?_
              iterate 11
                refine PlanH.take (v := ?_) (List.getElem?_toArray.trans rfl) (by kernel_rfl) (fun _ _ _ h => h) (Or.inl ⟨by rfl, ?_⟩) hHeld ?_
                rotate_left
                · intro w hSw; (try dsimp only at hSw); go_simp; (try with_reducible rfl)
                try simp only [Act.put, List.setIfInBounds_toArray, List.set_cons_zero, List.set_cons_succ]
              refine wpAnyH_ready (rs := [17]) (by kernel_rfl) (by simp) (AllReadyH.cons (List.getElem?_toArray.trans rfl) (fun K hK => ?_) AllReadyH.nil)
              (go_simp; refine (hCo2.out _ hHeld.1).mono ?_; rintro e w5 ⟨rfl, hb5⟩)
              have hHeld := key.out _ (below_step hHeld.1 hb5)
              refine hK.out _ _ hHeld (fun _ => ?_)
              clear hK K; try simp only [Act.put, List.setIfInBounds_toArray, List.set_cons_zero, List.set_cons_succ]
              refine planH [18, 19, 20, 21, 22, 23, 24, 25, 26, 27, 28, 29, 30, 31] ?_
              iterate 14
                refine PlanH.take (v := ?_) (List.getElem?_toArray.trans rfl) (by kernel_rfl) (fun _ _ _ h => h) (Or.inl ⟨by rfl, ?_⟩) hHeld ?_
                rotate_left
                · intro w hSw; (try dsimp only at hSw); go_simp; (try with_reducible rfl)
                try simp only [Act.put, List.setIfInBounds_toArray, List.set_cons_zero, List.set_cons_succ]
              refine wpAnyH_ready (rs := [32]) (by kernel_rfl) (by simp) (AllReadyH.cons (List.getElem?_toArray.trans rfl) (fun K hK => ?_) AllReadyH.nil)
              (go_simp; refine (hR2.out _ hHeld.1).mono ?_; rintro e w6 ⟨rfl, hb6⟩)
              have hHeld := key.out _ (below_step hHeld.1 hb6)
              refine hK.out _ _ hHeld (fun _ => ?_)
              clear hK K; try simp only [Act.put, List.setIfInBounds_toArray, List.set_cons_zero, List.set_cons_succ]
              refine planH [33, 34, 35, 36] ?_
              iterate 4
                refine PlanH.take (v := ?_) (List.getElem?_toArray.trans rfl) (by kernel_rfl) (fun _ _ _ h => h) (Or.inl ⟨by rfl, ?_⟩) hHeld ?_
                rotate_left
                · intro w hSw; (try dsimp only at hSw); go_simp; (try with_reducible rfl)
                try simp only [Act.put, List.setIfInBounds_toArray, List.set_cons_zero, List.set_cons_succ]
              refine wpAnyH_done (by kernel_rfl) ?_ _
              have hfin := hide (hbel2.out.trans (hHeld.1.mono hbel2.out.size))
              clear hHeld
              go_wp2
              go_ret
              exact ⟨rfl, hfin.out⟩
  · obtain ⟨r, hr⟩ : ∃ r, r = tlookErr x0 es0 x1 x2 := ⟨_, rfl⟩
    have hT := hide (fun (w' : World) (hb : Below w.heap.size w w') => two_bad x0 a0 cap0 es0 x1 x2 w' w.heap.size hb.size (r0.below hb (Nat.le_refl _)) hl h0)
    rw [← hr] at hT h0
    unfold tlookErr at hr
    rw [← hz] at hr
    replace hz := hide hz
    clear r0 be0
    by_cases hz0 : z = 0
    · subst hz0
      rw [if_neg (by simp)] at hr
      by_cases h12 : x1 = x2
      · subst h12
        rw [if_pos rfl] at hr
        subst hr
        have q9 : (x1 == x1) = true := by simp
        clear h0

        go_enter Try.func14, Try.ntmps14
        go_wp2_with fail
        refine (hT.out _ (by repeat (first | with_reducible exact Below.refl _ _ | with_reducible assumption | with_reducible refine up_drewN ?_ | with_reducible refine up_drew ?_ | (with_reducible refine up_alloc ?_ ?_; rotate_left; (first | omega | (simp <;> omega) | simp)) | (with_reducible refine up_set ?_ ?_; rotate_left; (first | omega | (simp <;> omega) | simp)) | (with_reducible refine Below.trans ?_ (Below.mono (by with_reducible assumption) ?_); rotate_left; (first | omega | (simp <;> omega) | simp))))).mono ?_
        rintro e w1 ⟨rfl, hb1⟩
        have hB1 := hide (show Below w.heap.size w w1 from (by repeat (first | with_reducible exact Below.refl _ _ | with_reducible assumption | with_reducible refine up_drewN ?_ | with_reducible refine up_drew ?_ | (with_reducible refine up_alloc ?_ ?_; rotate_left; (first | omega | (simp <;> omega) | simp)) | (with_reducible refine up_set ?_ ?_; rotate_left; (first | omega | (simp <;> omega) | simp)) | (with_reducible refine Below.trans ?_ (Below.mono (by with_reducible assumption) ?_); rotate_left; (first | omega | (simp <;> omega) | simp)))))
        have k0 : w1.cell? ⟨w.heap.size, 0, none⟩ = some (.int .i64 x0) := cu_below hb1 (by simp [go_sem]) (by simp)
        have k1 : w1.cell? ⟨w.heap.size, 1, none⟩ = some (.slice a0 es0.length cap0) := cu_below hb1 (by simp [go_sem]) (by simp)
        have hz1 : w.heap.size < w1.heap.size := cell_lt k0
        clear hb1 hT
        have hF2 := hide (tf_start (.slice none 0 0) (.slice none 0 0) 0 0 k0 k1 hB1.out)
        obtain ⟨W2, hW2⟩ : ∃ W2, W2 = ((w1.alloc (.cells #[.slice none 0 0, .int .i64 0] 36)).alloc (.cells #[.slice none 0 0, .int .i64 0] 36)) := ⟨_, rfl⟩
        have hz2 : W2.heap.size = w1.heap.size + 1 + 1 := by rw [hW2]; simp
        rw [← hW2] at hF2
        go_wp2_with fail
        simp only [← hW2]
        simp only [← hz2]
        replace hW2 := hide hW2
        refine (hLk.out _ W2.heap.size (up_alloc hF2.out.bel hF2.out.bel.size) (by simp [go_sem]) (by simp [go_sem])).mono ?_
        rintro e w2 ⟨rfl, hb2⟩
        have hF3 := hide (hF2.out.stays ((up_alloc (Below.refl W2.heap.size W2) (Nat.le_refl _)).trans (hb2.mono (by simp))))
        obtain ⟨b7, hb7⟩ : ∃ b7, b7 = w1.heap.size := ⟨_, rfl⟩
        rw [← hb7] at hF3
        simp only [← hb7]
        replace hb7 := hide hb7
        replace hz2 := hide hz2
        clear hF2 hB1 k0 k1 hz1 hb2 hLk
        have p0 := hF3.out.p0
        have p1 := hF3.out.p1
        have z1 := hF3.out.lt.2.1
        go_wp2_with fail
        refine (hZ.out _).mono ?_
        rintro e w3 ⟨rfl, hb3⟩
        have hF4 := hide (hF3.out.stays hb3)
        clear hF3 p0 p1 z1 hb3
        have q0 := hF4.out.q0
        have q1 := hF4.out.q1
        have z1 := hF4.out.lt.2.2
        go_wp2_with fail
        refine (hZ.out _).mono ?_
        rintro e w4 ⟨rfl, hb4⟩
        have hF5 := hide (hF4.out.stays hb4)
        clear hF4 q0 q1 z1 hb4
        go_wp2
        go_ret
        exact ⟨rfl, hF5.out.bel⟩
      · rw [if_neg h12] at hr
        exact absurd hr h0
    · rw [if_pos (by simpa using hz0)] at hr
      subst hr
      have q7 : (r == 0) = false := by simp [hz0]
      have q8 : (r != 0) = true := by simp [hz0]
      have q9 : (r == r) = true := by simp
      replace hz0 := hide hz0
      clear h0

      go_enter Try.func14, Try.ntmps14
      go_wp2_with fail
      refine (hT.out _ (by repeat (first | with_reducible exact Below.refl _ _ | with_reducible assumption | with_reducible refine up_drewN ?_ | with_reducible refine up_drew ?_ | (with_reducible refine up_alloc ?_ ?_; rotate_left; (first | omega | (simp <;> omega) | simp)) | (with_reducible refine up_set ?_ ?_; rotate_left; (first | omega | (simp <;> omega) | simp)) | (with_reducible refine Below.trans ?_ (Below.mono (by with_reducible assumption) ?_); rotate_left; (first | omega | (simp <;> omega) | simp))))).mono ?_
      rintro e w1 ⟨rfl, hb1⟩
      have hB1 := hide (show Below w.heap.size w w1 from (by repeat (first | with_reducible exact Below.refl _ _ | with_reducible assumption | with_reducible refine up_drewN ?_ | with_reducible refine up_drew ?_ | (with_reducible refine up_alloc ?_ ?_; rotate_left; (first | omega | (simp <;> omega) | simp)) | (with_reducible refine up_set ?_ ?_; rotate_left; (first | omega | (simp <;> omega) | simp)) | (with_reducible refine Below.trans ?_ (Below.mono (by with_reducible assumption) ?_); rotate_left; (first | omega | (simp <;> omega) | simp)))))
      have k0 : w1.cell? ⟨w.heap.size, 0, none⟩ = some (.int .i64 x0) := cu_below hb1 (by simp [go_sem]) (by simp)
      have k1 : w1.cell? ⟨w.heap.size, 1, none⟩ = some (.slice a0 es0.length cap0) := cu_below hb1 (by simp [go_sem]) (by simp)
      have hz1 : w.heap.size < w1.heap.size := cell_lt k0
      clear hb1 hT
      have hF2 := hide (tf_start (.slice none 0 0) (.slice none 0 0) 0 0 k0 k1 hB1.out)
      obtain ⟨W2, hW2⟩ : ∃ W2, W2 = ((w1.alloc (.cells #[.slice none 0 0, .int .i64 0] 36)).alloc (.cells #[.slice none 0 0, .int .i64 0] 36)) := ⟨_, rfl⟩
      have hz2 : W2.heap.size = w1.heap.size + 1 + 1 := by rw [hW2]; simp
      rw [← hW2] at hF2
      go_wp2_with fail
      simp only [← hW2]
      simp only [← hz2]
      replace hW2 := hide hW2
      refine (hLk.out _ W2.heap.size (up_alloc hF2.out.bel hF2.out.bel.size) (by simp [go_sem]) (by simp [go_sem])).mono ?_
      rintro e w2 ⟨rfl, hb2⟩
      have hF3 := hide (hF2.out.stays ((up_alloc (Below.refl W2.heap.size W2) (Nat.le_refl _)).trans (hb2.mono (by simp))))
      obtain ⟨b7, hb7⟩ : ∃ b7, b7 = w1.heap.size := ⟨_, rfl⟩
      rw [← hb7] at hF3
      simp only [← hb7]
      replace hb7 := hide hb7
      replace hz2 := hide hz2
      clear hF2 hB1 k0 k1 hz1 hb2 hLk
      have p0 := hF3.out.p0
      have p1 := hF3.out.p1
      have z1 := hF3.out.lt.2.1
      go_wp2_with fail
      refine (hZ.out _).mono ?_
      rintro e w3 ⟨rfl, hb3⟩
      have hF4 := hide (hF3.out.stays hb3)
      clear hF3 p0 p1 z1 hb3
      have q0 := hF4.out.q0
      have q1 := hF4.out.q1
      have z1 := hF4.out.lt.2.2
      go_wp2_with fail
      refine (hZ.out _).mono ?_
      rintro e w4 ⟨rfl, hb4⟩
      have hF5 := hide (hF4.out.stays hb4)
      clear hF4 q0 q1 z1 hb4
      go_wp2
      go_ret
      exact ⟨rfl, hF5.out.bel⟩
end Go.Proofs.Ytcehdpeeaogpiaa
