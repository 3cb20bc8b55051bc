/-
  The walk of felllaw.JohnFlats on a right net and right heights. Conditions: the arguments read as data.
-/
import Derived.Test.YtjidomfnngdomaaJFlat
import Derived.Test.YtjidomfnngdomaaSameNet
import Derived.Test.YtjidomfnngdomaaOpen
import Derived.Deep.RegionHeld3
namespace Go.Proofs.Ytjidomfnngdomaa
open Go.RowKit
set_option linter.unusedSimpArgs false
set_option linter.unusedVariables false
/-- what holds while the law makes its own net at D8: w4 is the world ahead of the loop, f's net stands at D5 -/
structure JW (w w4 : World) (D5 D8 : Nat) (n : Nat) (a0 : Option Addr) (m cap : Nat) (Nf : Int) (vf v : Value) (es : List Ed) (wr : World) : Prop where
  b0 : wr.cell? ⟨w.heap.size, 0, none⟩ = some (.int .i64 (n : Int))
  b1 : wr.cell? ⟨w.heap.size, 1, none⟩ = some (.slice a0 m cap)
  p0 : wr.cell? ⟨D5, 0, none⟩ = some (.int .i64 Nf)
  p1 : wr.cell? ⟨D5, 1, none⟩ = some vf
  q0 : wr.cell? ⟨D8, 0, none⟩ = some (.int .i64 (n : Int))
  q1 : wr.cell? ⟨D8, 1, none⟩ = some v
  fq : wr.frozen? ⟨D8, 1, none⟩ = false
  own : Own encE 3 39 wr (D8 + 1) v es
  bel : Below w.heap.size w wr
  bel2 : Below D8 w4 wr
  low : w.heap.size < D5 ∧ D5 < D8
section
variable {w w4 wr w' : World} {D5 D8 n m cap : Nat} {Nf : Int} {a0 : Option Addr} {vf v : Value} {es : List Ed}
theorem JW.lt (h : JW w w4 D5 D8 n a0 m cap Nf vf v es wr) : D8 < wr.heap.size := cell_lt h.q0
theorem JW.stays (h : JW w w4 D5 D8 n a0 m cap Nf vf v es wr) (b : Below wr.heap.size wr w') : JW w w4 D5 D8 n a0 m cap Nf vf v es w' :=
  ⟨cu_below b h.b0 (cell_lt h.b0), cu_below b h.b1 (cell_lt h.b1), cu_below b h.p0 (cell_lt h.p0), cu_below b h.p1 (cell_lt h.p1), cu_below b h.q0 (cell_lt h.q0), cu_below b h.q1 (cell_lt h.q1), fu_below b h.fq (cell_lt h.q1), h.own.stays b, h.bel.trans (b.mono h.bel.size), h.bel2.trans (b.mono (Nat.le_of_lt h.lt)), h.low⟩
theorem JW.ap (h : JW w w4 D5 D8 n a0 m cap Nf vf v es wr) {b : Nat} (hb : b ≤ D8) : v.ownBlock ≠ some b := fun e => by
  have := (h.own.block_lt b e).1
  omega
theorem JW.grew (h : JW w w4 D5 D8 n a0 m cap Nf vf v es wr) {v' : Value} {es' : List Ed} (own' : Own encE 3 39 w' (D8 + 1) v' es') (hg : wr.grownBy w' v.ownBlock) : JW w w4 D5 D8 n a0 m cap Nf vf v' es' (w'.setCell ⟨D8, 1, none⟩ v') := by
  have hl := h.lt
  have hlow := h.low
  have kc : ∀ {b o : Nat} {u : Value}, b ≤ D8 → wr.cell? ⟨b, o, none⟩ = some u → w'.cell? ⟨b, o, none⟩ = some u := fun hb hc => hg.cell hc (fun e => h.ap hb e.symm)
  have hne : ∀ {b o : Nat} {u : Value}, b < D8 → w'.cell? ⟨b, o, none⟩ = some u → (w'.setCell ⟨D8, 1, none⟩ v').cell? ⟨b, o, none⟩ = some u := fun hb hc => cu_set hc (by simp; omega)
  refine ⟨hne (by omega) (kc (by omega) h.b0), hne (by omega) (kc (by omega) h.b1), hne (by omega) (kc (by omega) h.p0), hne (by omega) (kc (by omega) h.p1), cu_set_off (kc (Nat.le_refl _) h.q0) (by omega), World.cell?_setCell_same _ _ _ (kc (Nat.le_refl _) h.q1), fu_set ((hg.frozen_far ⟨D8, 1, none⟩ (by simp; omega) (fun e => h.ap (Nat.le_refl _) e.symm)).trans h.fq), own'.elsewhere (fun e => by have := (own'.block_lt D8 e).1; omega) _, ?_, ?_, h.low⟩
  · refine Below.setCell (h.bel.grown hg h.bel.size (fun k hk => by have := (h.own.block_lt k hk).1; omega)) ?_ _
    simp; omega
  · refine Below.setCell (h.bel2.grown hg (Nat.le_of_lt hl) (fun k hk => by have := (h.own.block_lt k hk).1; omega)) ?_ _
    simp
end
theorem flE_alt (f : Nat → Int) (e : Ed) {u v : Nat} (hu : e.u = (u : Int)) (hv : e.v = (v : Int)) : flE f e = ⟨(u : Int), (v : Int), e.c - f v + f u⟩ := by
  unfold flE
  rw [hu, hv]
  simp only [Int.toNat_natCast, Ed.mk.injEq, true_and]
  omega
set_option maxRecDepth 100000 in
set_option maxHeartbeats 4000000 in
theorem jf_good (a0 : Option Addr) (cap0 : Nat) (es0 : List Ed) (a1 : Option Addr) (cap1 : Nat) (x1 : List Int) (w : World) (hl : es0.length ≤ 9223372036854775807) (hl1 : x1.length ≤ 9223372036854775807)
    (r0 : Hid (Row encE 3 w w.heap.size a0 es0)) (r1 : Hid (Row encI 1 w w.heap.size a1 x1)) (h0 : netErr (x1.length : Int) es0 = 0) (hz0 : lErr x1 = 0) :
    Calls Try.prog 4 #[.agg #[.int .i64 (x1.length : Int), .slice a0 es0.length cap0], .slice a1 x1.length cap1] w fun e w' => e = .returned (.bool true) ∧ Below w.heap.size w w' := by
  obtain ⟨n1, n2, n3, n4⟩ := netErr_ok h0
  have hes := hide (show Right x1.length es0 from n4)
  have hC := hide (fun w B hB hE => by have := rnet_any (x1.length : Int) a0 cap0 es0 w B hB hE hl; rw [h0] at this; exact this)
  have hJ0 := hide (fun w B hB hE hH => jflat_ok x1.length a0 cap0 es0 a1 cap1 x1 w B hB hE hH hl1 h0)
  have hj0 := hide (show jErr (x1.length : Int) es0 x1 = if (x1.length : Int) ≠ x1.length then 1 else if lErr x1 ≠ 0 then 1 else flErr (es0.map (flE (lAt x1))) by unfold jErr; rw [if_neg (by simp [h0])])
  clear h0 n4
  have hmm := hide (lErr_minmax (h := x1) (by omega))
  have hMin := hide (fun w B hE => smin_any a1 cap1 x1 w B hE (by omega) hl1)
  have hMax := hide (fun w B hE => smax_any a1 cap1 x1 w B hE (by omega) hl1)
  obtain ⟨mi, hmi⟩ : ∃ m, m = minL x1 := ⟨_, rfl⟩
  obtain ⟨ma, hma⟩ : ∃ m, m = maxL x1 := ⟨_, rfl⟩
  rw [← hmi] at hMin hmm
  rw [← hma] at hMax hmm
  replace hmi := hide hmi
  replace hma := hide hma
  have q1' : -1000000 ≤ mi := (hmm.out.1 hz0).1
  have q2' : ma ≤ 1000000 := (hmm.out.1 hz0).2
  have hf := hide (lAt_range hz0)
  have hjr : jErr (x1.length : Int) es0 x1 = flErr (es0.map (flE (lAt x1))) := by rw [hj0.out, if_neg (by simp), if_neg (by simp [hz0])]
  obtain ⟨er, her⟩ : ∃ er, er = flErr (es0.map (flE (lAt x1))) := ⟨_, rfl⟩
  obtain ⟨es2, he2⟩ : ∃ es2, es2 = es0.map (flE (lAt x1)) := ⟨_, rfl⟩
  have hJ := hide (fun w B hB hE hH => by have := hJ0.out w B hB hE hH; rw [hjr, ← her, ← he2] at this; unfold FlatBack at this; exact this)
  rw [← he2] at her
  have hm2 : es2.length = es0.length := by rw [he2]; simp
  obtain ⟨Nf, hNf⟩ : ∃ Nf : Int, Nf = if er = 0 then (x1.length : Int) else 0 := ⟨_, rfl⟩
  obtain ⟨esf, hesf⟩ : ∃ esf, esf = if er = 0 then es2 else [] := ⟨_, rfl⟩
  rw [← hNf, ← hesf] at hJ
  obtain ⟨mf, hmf⟩ : ∃ mf, mf = esf.length := ⟨_, rfl⟩
  have hmfl : mf ≤ 600 := by rw [hmf, hesf]; split <;> (try simp) <;> omega
  obtain ⟨m, hm⟩ : ∃ m, m = es0.length := ⟨_, rfl⟩
  rw [← hm] at n3 hJ hC hm2 ⊢
  have hHL : Row encI 1 w w.heap.size a1 (LI x1.length (lAt x1)) := by rw [li_lAt]; exact r1.out
  replace hHL := hide hHL
  replace her := hide her
  replace he2 := hide he2
  replace hNf := hide hNf
  replace hesf := hide hesf
  replace hmf := hide hmf
  replace hm := hide hm
  replace hm2 := hide hm2
  clear hjr hz0 hJ0 hj0 hmm hl
  go_enter Try.func4, Try.ntmps4
  go_wp2_with fail
  refine (hJ.out _ w.heap.size (by simp) (r0.out.below ((by repeat (first | with_reducible exact Below.refl _ _ | with_reducible assumption | with_reducible refine up_drewN ?_ | with_reducible refine up_drew ?_ | (with_reducible refine up_alloc ?_ ?_; rotate_left; (first | omega | (simp <;> omega) | simp)) | (with_reducible refine up_set ?_ ?_; rotate_left; (first | omega | (simp <;> omega) | simp)) | (with_reducible refine Below.trans ?_ (Below.mono (by with_reducible assumption) ?_); rotate_left; (first | omega | (simp <;> omega) | simp)))) : Below w.heap.size w _) (Nat.le_refl _)) (r1.out.below ((by repeat (first | with_reducible exact Below.refl _ _ | with_reducible assumption | with_reducible refine up_drewN ?_ | with_reducible refine up_drew ?_ | (with_reducible refine up_alloc ?_ ?_; rotate_left; (first | omega | (simp <;> omega) | simp)) | (with_reducible refine up_set ?_ ?_; rotate_left; (first | omega | (simp <;> omega) | simp)) | (with_reducible refine Below.trans ?_ (Below.mono (by with_reducible assumption) ?_); rotate_left; (first | omega | (simp <;> omega) | simp)))) : Below w.heap.size w _) (Nat.le_refl _))).mono ?_
  rintro e w1 ⟨v, rfl, own, hb1⟩
  obtain ⟨av, cv, rfl⟩ := own.shape hmf.out.symm
  have k0 : w1.cell? ⟨w.heap.size, 0, none⟩ = some (.int .i64 (x1.length : Int)) := cu_below hb1 (by simp [go_sem]) (by simp)
  have k1 : w1.cell? ⟨w.heap.size, 1, none⟩ = some (.slice a0 m cap0) := cu_below hb1 (by simp [go_sem]) (by simp)
  have hbw1 := hide (unalloc (hb1.mono (by simp)) (Nat.le_refl _) : Below w.heap.size w w1)
  have hz1 : w.heap.size < w1.heap.size := cell_lt k0
  have hb2 : Below w1.heap.size w1 (w1.alloc (.cells #[.int .i64 Nf, .slice av mf cv] 27)) := (Below.refl _ _).alloc (Nat.le_refl _) _
  have k0 := cu_below hb2 k0 hz1
  have k1 := cu_below hb2 k1 hz1
  have p0 : (w1.alloc (.cells #[.int .i64 Nf, .slice av mf cv] 27)).cell? ⟨w1.heap.size, 0, none⟩ = some (.int .i64 Nf) := by simp [go_sem]
  have p1 : (w1.alloc (.cells #[.int .i64 Nf, .slice av mf cv] 27)).cell? ⟨w1.heap.size, 1, none⟩ = some (.slice av mf cv) := by simp [go_sem]
  have hbw2 := hide (hbw1.out.trans (hb2.mono (by omega)))
  have hrf : Row encE 3 (w1.alloc (.cells #[.int .i64 Nf, .slice av mf cv] 27)) w1.heap.size av esf := by
    obtain ⟨a', c', hv, hr, _⟩ := own.row lenE
    simp only [Value.slice.injEq] at hv
    obtain ⟨rfl, _⟩ := hv
    exact hr.below hb2 (Nat.le_refl _)
  replace hrf := hide hrf
  clear own hb1 hb2
  go_wp2_with fail
  generalize (w1.alloc (.cells #[.int .i64 Nf, .slice av mf cv] 27)) = w2 at k0 k1 p0 p1 hbw2 hrf ⊢
  have hz2 : w1.heap.size < w2.heap.size := cell_lt p0
  refine (hC.out _ w.heap.size (by omega) (r0.out.below hbw2.out (Nat.le_refl _))).mono ?_
  rintro e w3 ⟨rfl, hb3⟩
  have k0 := cu_below hb3 k0 (by simp; omega)
  have k1 := cu_below hb3 k1 (by simp; omega)
  have p0 := cu_below hb3 p0 hz2
  have p1 := cu_below hb3 p1 hz2
  have hbw3 := hide (hbw2.out.trans (hb3.mono (by omega)))
  have hrf := hide (hrf.out.below hb3 (by omega))
  have hz3 : w1.heap.size < w3.heap.size := cell_lt p0
  have hz3' : w.heap.size < w3.heap.size := by omega
  clear hb3
  go_wp2_with fail
  refine (hMin.out _ w.heap.size (r1.out.below hbw3.out (Nat.le_refl _))).mono ?_
  rintro e w8 ⟨rfl, m2, rfl⟩
  have hb9 : Below w3.heap.size w3 (w3.drewN m2) := up_drewN (Below.refl _ _)
  have k0 := cu_below hb9 k0 (by simp; omega)
  have k1 := cu_below hb9 k1 (by simp; omega)
  have p0 := cu_below hb9 p0 hz3
  have p1 := cu_below hb9 p1 hz3
  have hbw3 := hide (hbw3.out.trans (hb9.mono (by omega)))
  have hrf := hide (hrf.out.below hb9 (by omega))
  have hz3 : w1.heap.size < (w3.drewN m2).heap.size := cell_lt p0
  have hz3' : w.heap.size < (w3.drewN m2).heap.size := by omega
  clear hb9
  generalize w3.drewN m2 = w8 at k0 k1 p0 p1 hbw3 hz3 hz3' hrf ⊢
  go_wp2_with fail
  refine (hMax.out _ w.heap.size (r1.out.below hbw3.out (Nat.le_refl _))).mono ?_
  rintro e w9 ⟨rfl, m3, rfl⟩
  have hb9 : Below w8.heap.size w8 (w8.drewN m3) := up_drewN (Below.refl _ _)
  have k0 := cu_below hb9 k0 (by simp; omega)
  have k1 := cu_below hb9 k1 (by simp; omega)
  have p0 := cu_below hb9 p0 hz3
  have p1 := cu_below hb9 p1 hz3
  have hbw3 := hide (hbw3.out.trans (hb9.mono (by omega)))
  have hrf := hide (hrf.out.below hb9 (by omega))
  have hz3 : w1.heap.size < (w8.drewN m3).heap.size := cell_lt p0
  have hz3' : w.heap.size < (w8.drewN m3).heap.size := by omega
  clear hb9
  generalize w8.drewN m3 = w9 at k0 k1 p0 p1 hbw3 hz3 hz3' hrf ⊢
  have hb4 : Below w9.heap.size w9 (w9.alloc (.cells #[.int .i64 (x1.length : Int), .slice none 0 0] 27)) := up_alloc (Below.refl _ _) (Nat.le_refl _)
  have hI0 : JW w (w9.alloc (.cells #[.int .i64 (x1.length : Int), .slice none 0 0] 27)) w1.heap.size w9.heap.size x1.length a0 m cap0 Nf (.slice av mf cv) (.slice none 0 0) [] (w9.alloc (.cells #[.int .i64 (x1.length : Int), .slice none 0 0] 27)) :=
    ⟨cu_below hb4 k0 (by simp; omega), cu_below hb4 k1 (by simp; omega), cu_below hb4 p0 hz3, cu_below hb4 p1 hz3, by simp [go_sem], by simp [go_sem], by simp [go_sem], Own.nil _ _, hbw3.out.trans (hb4.mono (by omega)), Below.refl _ _, hz1, hz3⟩
  have hrf4 := hide (hrf.out.below hb4 (by omega))
  replace hI0 := hide hI0
  go_wp2
  clear k0 k1 p0 p1 hb4 hrf
  generalize (w9.alloc (.cells #[.int .i64 (x1.length : Int), .slice none 0 0] 27)) = w4 at hI0 hrf4 ⊢
  go_loopw [7, 9] (fun s7 s9 wr => ∃ (k c0 : Nat) (b0 : Option Addr) (wv : Int), k ≤ m ∧ s9 = .int .i64 k ∧ s7 = .int .i64 wv ∧ Hid (JW w w4 w1.heap.size w9.heap.size x1.length a0 m cap0 Nf (.slice av mf cv) (.slice b0 k c0) (es2.take k) wr) ∧ Hid ((wv = 0 ∧ er = flErr (es2.drop k)) ∨ (wv ≠ 0 ∧ er = wv))) (fun _ s9 _ => m - (intOf s9).toNat)
  case atStart => exact ⟨0, 0, none, 0, Nat.zero_le _, rfl, rfl, by rw [List.take_zero]; exact hI0, .inl ⟨rfl, by rw [List.drop_zero]; exact her.out⟩⟩
  case round =>
    obtain ⟨k, c0, b0, wv, hk, rfl, rfl, hI, hw⟩ := hrel
    clear hI0
    have kb0 := hI.out.b0
    have kb1 := hI.out.b1
    have kp0 := hI.out.p0
    have kp1 := hI.out.p1
    have kq0 := hI.out.q0
    have kq1 := hI.out.q1
    have kfq := hI.out.fq
    have hzr := hI.out.lt
    have hlow := hI.out.low
    have hbl1 : w1.heap.size < wr.heap.size := by omega
    have hbl0 : w.heap.size < wr.heap.size := by omega
    by_cases hw0 : wv = 0
    · subst hw0
      have hw2 := hide (show er = flErr (es2.drop k) by rcases hw.out with h | h; exact h.2; exact absurd rfl h.1)
      clear hw
      by_cases hlt : k < m
      · have hlt0 : k < es0.length := by have := hm.out; omega
        have hlt2 : k < es2.length := by have := hm2.out; omega
        obtain ⟨u, v, d1, d2, d3, d4, d5, d6, -⟩ := right_edge hes.out k hlt0
        obtain ⟨e1, o1, rfl, hbB, x0', x1', x2'⟩ := r0.out.ed k hlt0
        have x0' := cu_below hI.out.bel x0' (by simp; omega)
        have x1' := cu_below hI.out.bel x1' (by simp; omega)
        have x2' := cu_below hI.out.bel x2' (by simp; omega)
        rw [d1] at x0'
        rw [d2] at x1'
        have hHr := hHL.out.below hI.out.bel (Nat.le_refl _)
        obtain ⟨b3, o3, rfl, hb3, y1⟩ := hHr.atI u d3
        obtain ⟨b4, o4, e4, _, y2⟩ := hHr.atI v d4
        simp only [Option.some.injEq, Addr.mk.injEq] at e4
        obtain ⟨rfl, rfl, _⟩ := e4
        have g1 := hf.out u
        have g2 := hf.out v
        have hfl : es2[k] = ⟨(u : Int), (v : Int), es0[k].c - lAt x1 v + lAt x1 u⟩ := by
          have e5 : es2[k]? = some (flE (lAt x1) es0[k]) := by rw [he2.out]; simp [List.getElem?_eq_getElem hlt0]
          rw [List.getElem?_eq_getElem hlt2] at e5
          rw [Option.some.inj e5, flE_alt _ _ d1 d2]
        have hit := flErr_hit (es := es2) hlt2
        have miss := flErr_miss (es := es2) hlt2
        have htk := List.take_succ_eq_append_getElem hlt2
        rw [hfl] at hit miss htk
        simp only at hit miss
        obtain ⟨c, hc⟩ : ∃ c, c = es0[k].c := ⟨_, rfl⟩
        obtain ⟨p, hp⟩ : ∃ p, p = lAt x1 u := ⟨_, rfl⟩
        obtain ⟨r, hr⟩ : ∃ r, r = lAt x1 v := ⟨_, rfl⟩
        rw [← hc] at x2' d5 d6 hit miss htk
        rw [← hp] at y1 g1 hit miss htk
        rw [← hr] at y2 g2 hit miss htk
        have wr1 := hide (show IntKind.i64.wrap (c - r) = c - r from IntWalk.i64_in _ (by omega))
        have wr2 := hide (show IntKind.i64.wrap (c - r + p) = c - r + p from IntWalk.i64_in _ (by omega))
        obtain ⟨C, hC2⟩ : ∃ C, C = c - r + p := ⟨_, rfl⟩
        rw [← hC2] at hit miss htk
        have hCb : -3000000 ≤ C ∧ C ≤ 3000000 := by omega
        replace hc := hide hc
        replace hp := hide hp
        replace hr := hide hr
        replace d1 := hide d1
        replace d2 := hide d2
        replace hfl := hide hfl
        replace hit := hide hit
        replace miss := hide miss
        replace htk := hide htk
        have hC3 := hide hC2.symm
        replace hC2 := hide hC2
        have l3 := cell_lt y1
        have l4 := cell_lt x0'
        have iu : (0 : Int) ≤ (u : Int) ∧ (u : Int) < (x1.length : Int) := by omega
        have iv : (0 : Int) ≤ (v : Int) ∧ (v : Int) < (x1.length : Int) := by omega
        have ik : (0 : Int) ≤ (k : Int) ∧ (k : Int) < (m : Int) := by omega
        clear hHr
        go_wp2
        replace wr1 := wr1.out
        replace wr2 := wr2.out
        go_quiet (fail)
        clear wr1 wr2
        simp only [hC3.out]
        have hbx : Below wr.heap.size wr ((wr.alloc (.cells #[.int .i64 (u : Int), .int .i64 (v : Int), .int .i64 c] 39)).drewN nq) := up_drewN (up_alloc (Below.refl _ _) (Nat.le_refl _))
        have hIx := hide (hI.out.stays hbx)
        have xa : ((wr.alloc (.cells #[.int .i64 (u : Int), .int .i64 (v : Int), .int .i64 c] 39)).drewN nq).cell? ⟨wr.heap.size, 0, none⟩ = some (.int .i64 (u : Int)) := cu_drewN (by simp [go_sem])
        have xb : ((wr.alloc (.cells #[.int .i64 (u : Int), .int .i64 (v : Int), .int .i64 c] 39)).drewN nq).cell? ⟨wr.heap.size, 1, none⟩ = some (.int .i64 (v : Int)) := cu_drewN (by simp [go_sem])
        generalize ((wr.alloc (.cells #[.int .i64 (u : Int), .int .i64 (v : Int), .int .i64 c] 39)).drewN nq) = wx at hIx xa xb ⊢
        clear kb0 kb1 kp0 kp1 kq0 kq1 kfq x0' x1' x2' y1 y2 hbx hI
        have kq1 := hIx.out.q1
        have kfq := hIx.out.fq
        have kl := hIx.out.lt
        have hxl : wr.heap.size < wx.heap.size := cell_lt xa
        have htl : (es2.take k).length = k := by simp; omega
        replace htl := hide htl
        have hcase : (C < 0) ∨ (0 ≤ C ∧ 10000 < C) ∨ (0 ≤ C ∧ C ≤ 10000) := by omega
        rcases hcase with q1 | ⟨q1, q2⟩ | ⟨q1, q2⟩
        · have e1 : flErr1 C = 4 := by unfold flErr1; rw [if_pos q1]
          have hq := hide (show er = 4 by rw [hw2.out, hit.out (by rw [e1]; omega), e1])
          replace e1 := hide e1
          go_wp2_with (at_builtin; (refine wpList_push (e := 39) (enc := encE) (xs := (es2.take k)) (v := .slice b0 (k) c0) (base := (w9.heap.size + 1)) rfl (.tmp 77) (.tmp 84) 25 rfl _ 24 Try.underlying25 info_ed rfl ?d17 lenE oneE (k) ?d27 ?d37 ?d47 ⟨wx.heap.size, 0, none⟩ 1 ⟨u, v, C⟩ ?d57 ?d67 ?d77 ?d87 ?d97 ?_); (case d17 => omega); (case d27 => exact htl.out); (case d37 => rfl); (case d47 => exact (hIx.out.own.alloc _)); (case d57 => rfl); (case d67 => exact newE _ _ _ _ rfl); (case d77 => omega); (case d87 => unfold maxLen; omega); (case d97 => first | omega | (simp; done) | (simp; omega)); intro g7 c7 w7 own7 hb7 hgr7 hg7 hgl7; have hIy := (hIx.out.stays (w' := wx.alloc (.cells #[.int .i64 (u : Int), .int .i64 (v : Int), .int .i64 C] 39)) (up_alloc (Below.refl _ _) (Nat.le_refl _))); have hgr8 := hIy.grew own7 hgr7; rw [← htk.out] at hgr8; replace hgr8 := hide hgr8; have k4 := hgr7.cell hIy.q1 (fun e => hIy.ap (Nat.le_refl _) e.symm); have f4 := (hgr7.frozen_far ⟨w9.heap.size, 1, none⟩ (by simp; omega) (fun e => hIy.ap (Nat.le_refl _) e.symm)).trans hIy.fq; replace own7 := hide own7; replace hb7 := hide hb7; replace hgr7 := hide hgr7; replace hIy := hide hIy)
          go_roundw
          case rel => exact ⟨k + 1, _, _, 4, by omega, by go_num, rfl, hgr8, hide (.inr ⟨by omega, hq.out⟩)⟩
          case measure => simp [intOf]; omega
        · have e1 : flErr1 C = 2 := by unfold flErr1; rw [if_neg (by omega), if_pos q2]
          have hq := hide (show er = 2 by rw [hw2.out, hit.out (by rw [e1]; omega), e1])
          replace e1 := hide e1
          go_wp2_with (at_builtin; (refine wpList_push (e := 39) (enc := encE) (xs := (es2.take k)) (v := .slice b0 (k) c0) (base := (w9.heap.size + 1)) rfl (.tmp 77) (.tmp 84) 25 rfl _ 24 Try.underlying25 info_ed rfl ?d17 lenE oneE (k) ?d27 ?d37 ?d47 ⟨wx.heap.size, 0, none⟩ 1 ⟨u, v, C⟩ ?d57 ?d67 ?d77 ?d87 ?d97 ?_); (case d17 => omega); (case d27 => exact htl.out); (case d37 => rfl); (case d47 => exact (hIx.out.own.alloc _)); (case d57 => rfl); (case d67 => exact newE _ _ _ _ rfl); (case d77 => omega); (case d87 => unfold maxLen; omega); (case d97 => first | omega | (simp; done) | (simp; omega)); intro g7 c7 w7 own7 hb7 hgr7 hg7 hgl7; have hIy := (hIx.out.stays (w' := wx.alloc (.cells #[.int .i64 (u : Int), .int .i64 (v : Int), .int .i64 C] 39)) (up_alloc (Below.refl _ _) (Nat.le_refl _))); have hgr8 := hIy.grew own7 hgr7; rw [← htk.out] at hgr8; replace hgr8 := hide hgr8; have k4 := hgr7.cell hIy.q1 (fun e => hIy.ap (Nat.le_refl _) e.symm); have f4 := (hgr7.frozen_far ⟨w9.heap.size, 1, none⟩ (by simp; omega) (fun e => hIy.ap (Nat.le_refl _) e.symm)).trans hIy.fq; replace own7 := hide own7; replace hb7 := hide hb7; replace hgr7 := hide hgr7; replace hIy := hide hIy)
          go_roundw
          case rel => exact ⟨k + 1, _, _, 2, by omega, by go_num, rfl, hgr8, hide (.inr ⟨by omega, hq.out⟩)⟩
          case measure => simp [intOf]; omega
        · have e1 : flErr1 C = 0 := by unfold flErr1; rw [if_neg (by omega), if_neg (by omega)]
          have hq := hide (show er = flErr (es2.drop (k + 1)) by rw [hw2.out]; exact miss.out e1)
          replace e1 := hide e1
          go_wp2_with (at_builtin; (refine wpList_push (e := 39) (enc := encE) (xs := (es2.take k)) (v := .slice b0 (k) c0) (base := (w9.heap.size + 1)) rfl (.tmp 77) (.tmp 84) 25 rfl _ 24 Try.underlying25 info_ed rfl ?d17 lenE oneE (k) ?d27 ?d37 ?d47 ⟨wx.heap.size, 0, none⟩ 1 ⟨u, v, C⟩ ?d57 ?d67 ?d77 ?d87 ?d97 ?_); (case d17 => omega); (case d27 => exact htl.out); (case d37 => rfl); (case d47 => exact (hIx.out.own.alloc _)); (case d57 => rfl); (case d67 => exact newE _ _ _ _ rfl); (case d77 => omega); (case d87 => unfold maxLen; omega); (case d97 => first | omega | (simp; done) | (simp; omega)); intro g7 c7 w7 own7 hb7 hgr7 hg7 hgl7; have hIy := (hIx.out.stays (w' := wx.alloc (.cells #[.int .i64 (u : Int), .int .i64 (v : Int), .int .i64 C] 39)) (up_alloc (Below.refl _ _) (Nat.le_refl _))); have hgr8 := hIy.grew own7 hgr7; rw [← htk.out] at hgr8; replace hgr8 := hide hgr8; have k4 := hgr7.cell hIy.q1 (fun e => hIy.ap (Nat.le_refl _) e.symm); have f4 := (hgr7.frozen_far ⟨w9.heap.size, 1, none⟩ (by simp; omega) (fun e => hIy.ap (Nat.le_refl _) e.symm)).trans hIy.fq; replace own7 := hide own7; replace hb7 := hide hb7; replace hgr7 := hide hgr7; replace hIy := hide hIy)
          go_roundw
          case rel => exact ⟨k + 1, _, _, 0, by omega, by go_num, rfl, hgr8, hide (.inl ⟨rfl, hq.out⟩)⟩
          case measure => simp [intOf]; omega
      · obtain rfl : k = m := by omega
        have her0 : er = 0 := by rw [hw2.out, List.drop_eq_nil_of_le (by have := hm2.out; omega)]; rfl
        have e1 : Nf = (x1.length : Int) := by rw [hNf.out, if_pos her0]
        have e2 : esf = es2 := by rw [hesf.out, if_pos her0]
        have e3 : mf = k := by rw [hmf.out, e2, hm2.out]
        have e4 : es2.take k = es2 := by rw [List.take_of_length_le (by have := hm2.out; omega)]
        clear hNf hesf hmf her hw2
        subst e1 e2 e3
        have hro : Row encE 3 wr wr.heap.size b0 esf := by
          obtain ⟨a', c', hv, hr, _⟩ := hI.out.own.row lenE
          simp only [Value.slice.injEq] at hv
          obtain ⟨rfl, _⟩ := hv
          rw [e4] at hr
          exact hr
        have hrf5 := hide ((hrf4.out.below hI.out.bel2 (by omega)).mono (show w1.heap.size ≤ wr.heap.size by omega))
        replace hro := hide hro
        replace e4 := hide e4
        have hbf := hide hI.out.bel
        clear hI hJ hrf4
        subst her0
        go_wp2_with fail
        refine (samenet_len (x1.length : Int) (x1.length : Int) av b0 cv c0 esf esf mf wr hm2.out hm2.out hrf5.out hro.out (by omega) true (by simp)).mono ?_
        rintro e w10 ⟨rfl, hb10⟩
        go_wp2
        go_ret
        exact ⟨rfl, hbf.out.trans (hb10.mono hbf.out.size)⟩
    · have hw2 := hide (show er = wv by rcases hw.out with h | h; exact absurd h.1 hw0; exact h.2)
      have hr0 : ¬ er = 0 := by rw [hw2.out]; exact hw0
      have e1 : Nf = 0 := by rw [hNf.out, if_neg hr0]
      have e2 : esf = [] := by rw [hesf.out, if_neg hr0]
      have e3 : mf = 0 := by rw [hmf.out, e2]; rfl
      have e5 := hw2.out
      have q1 : (wv != 0) = true := by simp [hw0]
      have q2 : (wv == 0) = false := by simpa using hw0
      have hbf := hide hI.out.bel
      clear hNf hesf hmf her hw2 hw hr0 hw0 hI hJ hrf4 hrf
      subst e5
      subst e1 e2 e3
      rcases Nat.lt_or_ge k m with hlt | hge
      all_goals
        go_wp2_with fail
        refine (samenet_any 0 0 av none cv 0 [] [] _ (Row.nil _ _ _ _ _) (Row.nil _ _ _ _ _) (by simp) (by simp) true (by simp)).mono ?_
        rintro e w10 ⟨rfl, hb10⟩
        go_wp2
        go_ret
        exact ⟨rfl, hbf.out.trans (hb10.mono hbf.out.size)⟩
end Go.Proofs.Ytjidomfnngdomaa
