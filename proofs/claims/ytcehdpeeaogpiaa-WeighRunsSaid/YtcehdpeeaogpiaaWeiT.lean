/-
  What the reference's Search returns (key: felllaw.WeighRuns$1). Conditions: a right net of costs above 0, guesses within their bounds.
-/
import Derived.Test.YtcehdpeeaogpiaaWeiF
import Derived.Test.YtcehdpeeaogpiaaRegInv
import Derived.Test.YtcehdpeeaogpiaaStarO
import Derived.Test.YtcehdpeeaogpiaaStarB
import Derived.Deep.RegionHeld3
import Derived.Deep.DeepCutAuto
import Derived.BigRegion
namespace Go.Proofs.Ytcehdpeeaogpiaa
open Go.RowKit
set_option linter.unusedSimpArgs false
set_option linter.unusedVariables false
set_option maxRecDepth 100000 in
set_option maxHeartbeats 20000000 in
theorem rsearch_anyW (kb : Nat) (n v tg : Nat) (a ha : Option Addr) (cap hc : Nat) (es : List Ed) (h : Nat → Int) (w : World) (B : Nat) (hB : B ≤ w.heap.size) (hE : Row encE 3 w B a es) (hH : Row encI 1 w B ha (LI n h)) (hn1 : 1 ≤ n) (hn : n ≤ 64) (hl : es.length ≤ 600) (hes : Right n es) (hpos : ∀ e ∈ es, 1 ≤ e.c)
    (hv : v < n) (ht : tg < n) (hh : ∀ u, u < n → 0 ≤ h u ∧ h u ≤ 1099511627776) (key : Int → Int → Int) (hF : ∀ w', Below w.heap.size w w' → KeyLwW kb key w') :
    Calls Try.prog 42 #[.agg #[.int .i64 (n : Int), .slice a es.length cap], .int .i64 (v : Int), .int .i64 (tg : Int), .slice ha n hc, .func (.func 59) #[] #[.pointer (some ⟨kb, 0, none⟩)]] w (FoundAns key (nes es) h n tg (sStart h v) w) := by
  replace hes := hide hes
  replace hpos := hide hpos
  replace hF := hide hF
  replace hh := hide hh
  have hmm := @run_makeMap Try.prog
  have iv : (0 : Int) ≤ (v : Int) ∧ (v : Int) < (n : Int) := by omega
  go_enter Try.func42, Try.ntmps42
  go_upto_region 1 with fail
  obtain ⟨w0, h0⟩ : ∃ w0, w0 = (((w.alloc (.cells #[.int .i64 (n : Int), .slice a es.length cap] 24)).alloc (.cells #[.slice ha n hc] 29)).alloc (.cells #[.func (.func 59) #[] #[.pointer (some ⟨kb, 0, none⟩)]] 71)).alloc (.cells #[.slice none 0 0, .int .i64 0, .slice none 0 0] 47) := ⟨_, rfl⟩
  have hB0 : Below w.heap.size w w0 := by rw [h0]; exact (by repeat (first | with_reducible exact Below.refl _ _ | with_reducible assumption | with_reducible refine up_drewN ?_ | with_reducible refine up_drew ?_ | (with_reducible refine up_alloc ?_ ?_; rotate_left; (first | omega | (simp <;> omega) | simp)) | (with_reducible refine up_set ?_ ?_; rotate_left; (first | omega | (simp <;> omega) | simp)) | (with_reducible refine Below.trans ?_ (Below.mono (by with_reducible assumption) ?_); rotate_left; (first | omega | (simp <;> omega) | simp))))
  have hs0 : w0.heap.size = w.heap.size + 1 + 1 + 1 + 1 := by rw [h0]; simp
  obtain ⟨bf, hbf⟩ : ∃ b, b = w.heap.size + 1 + 1 + 1 := ⟨_, rfl⟩
  obtain ⟨bk, hbk⟩ : ∃ b, b = w.heap.size + 1 + 1 := ⟨_, rfl⟩
  obtain ⟨bh, hbh⟩ : ∃ b, b = w.heap.size + 1 := ⟨_, rfl⟩
  have nc0 : w0.cell? ⟨w.heap.size, 0, none⟩ = some (.int .i64 (n : Int)) := by rw [h0]; simp [go_sem]
  have nc1 : w0.cell? ⟨w.heap.size, 1, none⟩ = some (.slice a es.length cap) := by rw [h0]; simp [go_sem]
  have hc1 : w0.cell? ⟨bh, 0, none⟩ = some (.slice ha n hc) := by rw [h0, hbh]; simp [go_sem]
  have kc1 : w0.cell? ⟨bk, 0, none⟩ = some (.func (.func 59) #[] #[.pointer (some ⟨kb, 0, none⟩)]) := by rw [h0, hbk]; simp [go_sem]
  have d0 : w0.cell? ⟨bf, 0, none⟩ = some (.slice none 0 0) := by rw [h0, hbf]; simp [go_sem]
  have d1 : w0.cell? ⟨bf, 1, none⟩ = some (.int .i64 0) := by rw [h0, hbf]; simp [go_sem]
  have d2 : w0.cell? ⟨bf, 2, none⟩ = some (.slice none 0 0) := by rw [h0, hbf]; simp [go_sem]
  have e0 : w0.frozen? ⟨bf, 0, none⟩ = false := by rw [h0, hbf]; simp [go_sem]
  have e1 : w0.frozen? ⟨bf, 1, none⟩ = false := by rw [h0, hbf]; simp [go_sem]
  have e2 : w0.frozen? ⟨bf, 2, none⟩ = false := by rw [h0, hbf]; simp [go_sem]
  have hE0 := hide (hE.below hB0 hB)
  have hH0 := hide (hH.below hB0 hB)
  have hF0 := hide (show ∀ w', Below w0.heap.size w0 w' → KeyLwW kb key w' from fun w' hb => hF.out w' (hB0.trans (hb.mono (by omega))))
  replace hB0 := hide hB0
  simp only [← h0]
  simp only [← hbf]
  simp only [← hbk]
  simp only [← hbh]
  have hbl : w.heap.size < w0.heap.size ∧ bh < w0.heap.size ∧ bk < w0.heap.size ∧ bf < w0.heap.size ∧ w.heap.size ≤ bf := by omega
  replace h0 := hide h0
  replace hs0 := hide hs0
  replace hbf := hide hbf
  replace hbk := hide hbk
  replace hbh := hide hbh
  clear hE hH
  have hBv : Bd (v : Int) := by unfold Bd; omega
  have hB0' : Bd 0 := by unfold Bd; omega
  have hM0 := hide (IMap.made w0)
  go_upto_region 2 with (refine wpList_imap_ins rfl (.tmp 22) (.tmp 23) (.const (.int .i64 0)) 109 rfl Try.underlying109 hM0.out (by omega) (v : Int) 0 hBv hB0' rfl rfl rfl ?_; intro w2 hM2 hg2; rw [costM_start hv] at hM2; replace hM2 := hide hM2; replace hg2 := hide hg2)
  obtain ⟨wm, hwm⟩ : ∃ wm, wm = (w2.alloc (.map #[] 0)).alloc (.cells #[.map (some w0.heap.size)] 109) := ⟨_, rfl⟩
  have hb2 : Below w0.heap.size w0 w2 := ((up_alloc (Below.refl _ _) (Nat.le_refl _) : Below w0.heap.size w0 (w0.alloc (.map #[] 0)))).grown hg2.out (by simp) (fun j hj => by cases hj; exact Nat.le_refl _)
  have hz2 : w0.heap.size + 1 ≤ w2.heap.size := by have := hg2.out.size; simpa using this
  have hbm : Below w0.heap.size w0 wm := by rw [hwm]; exact up_alloc (up_alloc hb2 (by omega)) (by simp; omega)
  have hzm : wm.heap.size = w2.heap.size + 1 + 1 := by rw [hwm]; simp
  obtain ⟨mb, hmb⟩ : ∃ b, b = w0.heap.size := ⟨_, rfl⟩
  obtain ⟨pb, hpb⟩ : ∃ b, b = w2.heap.size := ⟨_, rfl⟩
  obtain ⟨bm, hbmm⟩ : ∃ b, b = w2.heap.size + 1 := ⟨_, rfl⟩
  have hMm := hide (show IMap wm mb (0 + 1) (costM n (upz (fun _ => FAR) v 0)) by rw [hwm, hmb]; exact (hM2.out.alloc _).alloc _)
  have hPm := hide (show IMap wm pb (0 + 1) (predM n (fun _ => -1)) by rw [hwm, hpb, predM_start]; exact ((IMap.made w2).alloc _).mono (by omega))
  have bc1 : wm.cell? ⟨bm, 0, none⟩ = some (.map (some mb)) := by rw [hwm, hbmm, hmb]; simp [go_sem]
  have hlt2 : mb < wm.heap.size ∧ pb < wm.heap.size ∧ bm < wm.heap.size ∧ mb ≠ pb ∧ bm ≠ mb ∧ bm ≠ pb ∧ w0.heap.size ≤ mb ∧ w0.heap.size ≤ pb := by omega
  simp only [← hwm]
  simp only [← hbmm]
  simp only [← hmb, ← hpb]
  have nc0 := cu_below hbm nc0 (by simp; omega)
  have nc1 := cu_below hbm nc1 (by simp; omega)
  have hc1 := cu_below hbm hc1 (by simp; omega)
  have kc1 := cu_below hbm kc1 (by simp; omega)
  have d0 := cu_below hbm d0 (by simp; omega)
  have d1 := cu_below hbm d1 (by simp; omega)
  have d2 := cu_below hbm d2 (by simp; omega)
  have e0 := fu_below hbm e0 (by simp; omega)
  have e1 := fu_below hbm e1 (by simp; omega)
  have e2 := fu_below hbm e2 (by simp; omega)
  have hBw := hide (hB0.out.trans (hbm.mono (by have := hs0.out; omega)))
  have hzw : w.heap.size ≤ w0.heap.size := by have := hs0.out; omega
  have hzw2 : w0.heap.size ≤ wm.heap.size := by omega
  have hK0 := hide (show ∀ w', Keep (fun j => j = mb ∨ j = pb) wm w' → Below w.heap.size w w' from fun w' hk => hBw.out.trans (hk.toBelow (fun j hj => by rcases hj with h1 | h1 <;> omega) (by omega)))
  have hKm := hide (show ∀ w', Keep (fun j => j = mb ∨ j = pb) wm w' → Below w0.heap.size w0 w' from fun w' hk => hbm.trans (hk.toBelow (fun j hj => by rcases hj with h1 | h1 <;> omega) (by omega)))
  have hEm := hide (show ∀ w', Keep (fun j => j = mb ∨ j = pb) wm w' → Row encE 3 w' B a es from fun w' hk => hE0.out.below (hKm.out w' hk) (by omega))
  have hHm := hide (show ∀ w', Keep (fun j => j = mb ∨ j = pb) wm w' → Row encI 1 w' B ha (LI n h) from fun w' hk => hH0.out.below (hKm.out w' hk) (by omega))
  have hFm := hide (show ∀ w', Keep (fun j => j = mb ∨ j = pb) wm w' → KeyLwW kb key w' from fun w' hk => hF0.out w' (hKm.out w' hk))
  replace hwm := hide hwm
  replace hmb := hide hmb
  replace hpb := hide hpb
  replace hbmm := hide hbmm
  replace hzm := hide hzm
  clear hb2 hz2 hbm hM2 hg2 hM0 hE0 hH0 hF0 hBw
  obtain ⟨b0, o0, rfl, hb0, f0⟩ := (hHm.out wm (Keep.refl _ _)).atI v hv
  have hb0m : b0 < wm.heap.size := by omega
  have zg : w.heap.size < wm.heap.size := by omega
  have zh : bh < wm.heap.size := by omega
  have zk : bk < wm.heap.size := by omega
  have zf : bf < wm.heap.size := by omega
  have zm : bm < wm.heap.size := by omega
  obtain ⟨y0, hy0⟩ : ∃ y, y = h v := ⟨_, rfl⟩
  rw [← hy0] at f0
  by_cases hfar : y0 = 1099511627776
  · have hs00 : sStart h v = s00 := by unfold sStart; rw [if_pos (by rw [← hy0, hfar]; rfl)]
    subst hfar
    replace hs00 := hide hs00
    replace hy0 := hide hy0
    clear hMm hPm hEm hHm hFm
    go_wp2
    go_loopg [14, 15] 1 (fun gk s14 s15 wr => s14 = .slice none 0 0 ∧ Hid (Keep (fun j => j = mb ∨ j = pb) wm wr))
    case atStart => exact ⟨rfl, hide (Keep.new (up_alloc (Below.refl _ _) (Nat.le_refl _)))⟩
    case round =>
      obtain ⟨rfl, hkp⟩ := hrel
      have hfm : ¬ (bf = mb ∨ bf = pb) := by omega
      have r0 := hkp.out.cu d0 hfm
      have r1 := hkp.out.cu d1 hfm
      have r2 := hkp.out.cu d2 hfm
      have g0 := (hkp.out.frozen (p := ⟨bf, 0, none⟩) (by simp; omega) hfm).trans e0
      have g1 := (hkp.out.frozen (p := ⟨bf, 1, none⟩) (by simp; omega) hfm).trans e1
      have g2 := (hkp.out.frozen (p := ⟨bf, 2, none⟩) (by simp; omega) hfm).trans e2
      have hbw2 := hide (hK0.out _ hkp.out)
      go_wp2
      refine bodyPost_ret (v := .tuple #[FoundNone, .int .i64 5]) (by simp [results, Try.results42, go_sem, FoundNone, r0, r1, r2, g0, g1, g2]) rfl ?_
      rw [hs00.out]
      refine ⟨none, .none s00 (fun u hu => by have := hu.2.1; simp [s00] at this), ?_, rfl⟩
      exact ((hbw2.out.setCell (by simp; omega) _).setCell (by simp; omega) _).setCell (by simp; omega) _
  · have hs1 : sStart h v = ⟨upz (fun _ => FAR) v 0, fun _ => -1, []⟩ := by unfold sStart; rw [if_neg (by rw [← hy0]; exact hfar)]
    have hne0 : h v ≠ FAR := by rw [← hy0]; exact hfar
    have hq0 : (y0 == 1099511627776) = false := by simpa using hfar
    obtain ⟨s0, hs0e⟩ : ∃ s0, s0 = sStart h v := ⟨_, rfl⟩
    rw [← hs0e] at hs1
    have hok0 := hide (show SOk n v h s0 by
      rw [hs1]
      refine ⟨by simp, fun u hu => by simp at hu, fun u => ?_, fun u hu => ?_⟩
      · by_cases huv : u = v
        · subst huv; right; simp [upz_same]
        · left; show upz (fun _ => FAR) v 0 u = FAR; rw [upz_other _ _ huv]
      · by_cases huv : u = v
        · subst huv; exact hne0
        · have : upz (fun _ => FAR) v 0 u < FAR := hu
          rw [upz_other _ _ huv] at this
          omega)
    have hwy0 := hide (show Ways s0 by
      rw [hs1]
      intro u hu
      by_cases huv : u = v
      · subst huv; exact ⟨[u], .top u (by simp), fun x hx => by simp at hx⟩
      · have : upz (fun _ => FAR) v 0 u < FAR := hu
        rw [upz_other _ _ huv] at this
        omega)
    have hwl0 := hide (show WL n s0 [v] by
      rw [hs1]
      refine ⟨by simp, fun u => ?_⟩
      simp only [List.mem_singleton, Waits]
      constructor
      · rintro rfl
        exact ⟨hv, by rw [upz_same]; unfold FAR; omega, by simp⟩
      · intro hu
        refine Classical.byContradiction fun hne => ?_
        have := hu.2.1
        rw [upz_other _ _ hne] at this
        omega)
    have hord0 : s0.ord.length = 0 := by rw [hs1]; rfl
    have hT0 := hide (show TX n mb pb 1 (.slice (some ⟨wm.heap.size, 0, none⟩) 1 1) (.slice none 0 0) [v] s0 wm (wm.alloc (.cells #[.int .i64 (v : Int)] 3)) by
      rw [hs1]
      exact ⟨hMm.out.alloc _, hPm.out.alloc _, own_one wm wm.heap.size 3 (v : Int) (Nat.le_refl _), Own.nil _ _, fun j hj => by simp [Value.ownBlock] at hj, Keep.new (up_alloc (Below.refl _ _) (Nat.le_refl _)), by omega⟩)
    have hrun0 := hide (show ∀ o, SRun key (nes es) h n tg s0 o → SRun key (nes es) h n tg s0 o from fun o h => h)
    replace hs1 := hide hs1
    replace hs0e := hide hs0e
    replace hy0 := hide hy0
    clear hMm hPm hfar hne0
    go_wp2
    go_loopg [14, 15] 65 (fun gk s14 s15 wr => ∃ (s : SR) (ws : List Nat) (aw ao : Option Addr) (cw co W K k : Nat), s14 = .slice aw W cw ∧ s15 = .slice ao K co ∧ Hid (W = ws.length) ∧ Hid (K = s.ord.length) ∧ Hid (TX n mb pb k (.slice aw W cw) (.slice ao K co) ws s wm wr) ∧ Hid (WL n s ws) ∧ Hid (SOk n v h s) ∧ Hid (Ways s) ∧ Hid (∀ o, SRun key (nes es) h n tg s o → SRun key (nes es) h n tg s0 o) ∧ K + gk = 65 ∧ k ≤ 1 + 600 * K)
    case atStart => exact ⟨s0, [v], _, _, _, _, 1, 0, 1, rfl, rfl, hide rfl, hide hord0.symm, hT0, hwl0, hok0, hwy0, hrun0, by omega, by omega⟩
    case round =>
      clear hT0 hwl0 hok0 hwy0 hrun0 f0
      obtain ⟨s, ws, aw, ao, cw, co, W, K, k, rfl, rfl, hW, hK, hT, hwl, hsok, hwy, hrun, hKg, hkK⟩ := hrel
      by_cases hW0 : W = 0
      · subst hW0
        have hws : ws = [] := List.eq_nil_of_length_eq_zero hW.out.symm
        have hnw := hide (show ∀ u, ¬ Waits n s u from fun u hu => by have := (hwl.out.iff u).2 hu; rw [hws] at this; cases this)
        have hkp := hide hT.out.keep
        have hfm : ¬ (bf = mb ∨ bf = pb) := by omega
        have r0 := hkp.out.cu d0 hfm
        have r1 := hkp.out.cu d1 hfm
        have r2 := hkp.out.cu d2 hfm
        have g0 := (hkp.out.frozen (p := ⟨bf, 0, none⟩) (by simp; omega) hfm).trans e0
        have g1 := (hkp.out.frozen (p := ⟨bf, 1, none⟩) (by simp; omega) hfm).trans e1
        have g2 := (hkp.out.frozen (p := ⟨bf, 2, none⟩) (by simp; omega) hfm).trans e2
        have hbw2 := hide (hK0.out _ hkp.out)
        replace hws := hide hws
        go_wp2
        refine bodyPost_ret (v := .tuple #[FoundNone, .int .i64 5]) (by simp [results, Try.results42, go_sem, FoundNone, r0, r1, r2, g0, g1, g2]) rfl ?_
        rw [← hs0e.out]
        refine ⟨none, hrun.out _ (.none s hnw.out), ?_, rfl⟩
        exact ((hbw2.out.setCell (by simp; omega) _).setCell (by simp; omega) _).setCell (by simp; omega) _
      · have hwne : ws ≠ [] := fun e => hW0 (by rw [hW.out, e]; rfl)
        obtain ⟨u, hfu, hum, hmin⟩ := firstR_mem (plOf key h s.cost) hwne
        have hnx := hide (wl_next hwl.out hum hmin)
        have hun : u < n := hnx.out.1.1
        have hWn : W ≤ n := by have := wl_len hwl.out; have := hW.out; omega
        have hwp : (0 : Int) < (W : Int) := by omega
        have x1 := hT.out.cu hc1 (by simp; omega) (by simp; omega)
        have x2 := hT.out.cu kc1 (by simp; omega) (by simp; omega)
        have x3 := hT.out.cu bc1 (by simp; omega) (by simp; omega)
        have hFi := hide (rfirst_anyW kb bk bm bh mb k n hc B W cw (some ⟨b0, o0, none⟩) aw ws s.cost h key wr ⟨x2, x3, x1, hT.out.cm, hHm.out _ hT.out.keep⟩ (fun m => hFm.out _ (hT.out.keep.trans (Keep.new (up_drewN (Below.refl _ _))))) hn hW.out (by omega) (own_rowL hT.out.wt) (fun z hz => ⟨((hwl.out.iff z).1 hz).1, ((hwl.out.iff z).1 hz).2.1⟩) (fun z hz hzc => by
          have h1 := sok_len hsok.out
          rcases hsok.out.cb z with h2 | h2
          · omega
          · omega) hh.out)
        rw [hfu] at hFi
        have hT5 := hide (fun m => hT.out.stays (up_drewN (n := m) (Below.refl _ _)))
        have hzr : wm.heap.size ≤ wr.heap.size := hT.out.keep.size
        replace hmin := hide hmin
        replace hfu := hide hfu
        replace hwne := hide hwne
        replace hum := hide hum
        clear hT
        go_wp2_with fail
        refine hFi.out.mono ?_
        rintro e w5 ⟨rfl, m5, rfl⟩
        have hT5 := hide (hT5.out m5)
        have hz5 : (wr.drewN m5).heap.size = wr.heap.size := rfl
        clear hFi x1 x2 x3
        generalize wr.drewN m5 = w5 at hT5 hz5 ⊢
        have hz5' : wm.heap.size ≤ w5.heap.size := by omega
        have hT6 := hide (hT5.out.stays ((Below.refl _ _).alloc (Nat.le_refl _) (.cells #[.int .i64 (u : Int)] 3)))
        have hab := hide (fun j hj => (hT5.out.wt.block_lt j hj).2)
        have hob := hide (fun j hj => (hT5.out.od.block_lt j hj).2)
        have hlW : (LP ws).length = W := by rw [lp_len]; exact hW.out.symm
        have hdel := hide (delI_any (u : Int) w5.heap.size aw cw W wm.heap.size (LP ws) hlW _ hT6.out.wt (fun e => by have := hab.out _ e; omega) (by simp [go_sem]) (by omega))
        obtain ⟨ws7, hws7⟩ : ∃ l, l = ws.filter fun x => decide (x ≠ u) := ⟨_, rfl⟩
        have hwl7 := hide (show WL n (look1 s u) ws7 by rw [hws7]; exact wl_look hwl.out u)
        have hdl : dels (u : Int) (LP ws) = LP ws7 := by rw [hws7]; exact dels_lp u ws
        obtain ⟨W7, hW7⟩ : ∃ m, m = ws7.length := ⟨_, rfl⟩
        have hdn : (dels (u : Int) (LP ws)).length = W7 := by rw [hdl, lp_len, hW7]
        have hdel2 := hide (hdel.out.mono (R' := fun e w' => ∃ a7 c7, e = .returned (.slice a7 W7 c7) ∧ Own encI 1 3 w' wm.heap.size (.slice a7 W7 c7) (LP ws7) ∧ Keep (fun j => (Value.slice aw W cw).ownBlock = some j) (w5.alloc (.cells #[.int .i64 (u : Int)] 3)) w' ∧ ∀ b, (Value.slice a7 W7 c7).ownBlock = some b → (Value.slice aw W cw).ownBlock = some b) (by
          rintro e w' ⟨a7, c7, rfl, k1, k2, k3⟩
          simp only [hdn] at k1 k3 ⊢
          rw [hdl] at k1
          exact ⟨a7, c7, rfl, k1, k2, k3⟩))
        replace hws7 := hide hws7
        replace hW7 := hide hW7
        have hkl : (LP s.ord).length = K := by rw [lp_len]; exact hK.out.symm
        have hlp := hide (show LP (look1 s u).ord = LP s.ord ++ [(u : Int)] by simp [LP, look1])
        have hKn : K ≤ 64 := by have := sok_len hsok.out; have := hK.out; omega
        clear hT5 hz5 hdel hdl hdn hlW
        go_wp2_with fail
        refine hdel2.out.mono ?_
        rintro e w7 ⟨a7, c7, rfl, hO7, hK7, hb7⟩
        have hT7 := hide (hT6.out.setW hK7 hO7 (fun j hj => .inl (hb7 j hj)))
        have xc7 : w7.cell? ⟨w5.heap.size, 0, none⟩ = some (.int .i64 (u : Int)) := hK7.cu (by simp [go_sem]) (fun e => by have := hab.out _ e; simp at this)
        have hz7 : w5.heap.size < w7.heap.size := cell_lt xc7
        have hav7 := hide (show (Value.slice a7 W7 c7).ownBlock ≠ some w5.heap.size from fun e => by have := hab.out _ (hb7 _ e); omega)
        clear hdel2 hO7 hK7 hb7 hT6
        go_upto_region 10 with (at_builtin; (refine wpList_pushL (e := 3) (enc := encI) (xs := (LP s.ord)) (v := .slice ao (K) co) (base := wm.heap.size) rfl (.tmp 43) (.tmp 45) 29 rfl _ 8 Try.underlying29 info_int rfl ?d19 lenI oneI (K) ?d29 ?d39 ?d49 ⟨w7.heap.size, 0, none⟩ 1 (u : Int) ?d59 ?d69 ?d79 ?d89 ?d99 ?_); (case d19 => omega); (case d29 => exact hkl); (case d39 => rfl); (case d49 => exact (hT7.out.od.alloc _)); (case d59 => rfl); (case d69 => exact newI _ _ _ _ rfl); (case d79 => omega); (case d89 => unfold maxLen; omega); (case d99 => first | omega | (simp; done) | (simp; omega)); intro g9 c9 w9 own9 hb9 hgr9 hat9 hgl9; rw [← hlp.out] at own9; have kp9 := Keep.grown (S := fun j => (Value.slice ao K co).ownBlock = some j) (Keep.refl _ _) hgr9 (fun j hj => .inl hj); have xc9 := kp9.cu (cu_alloc xc7) (fun e => by have := hob.out _ e; simp at this); have hT9 := hide ((hT7.out.stays ((Below.refl _ _).alloc (Nat.le_refl _) (.cells #[.int .i64 (u : Int)] 3))).setO (look1 s u).ord kp9 own9 (fun j hj => by simp only [Value.ownBlock, Option.some.injEq] at hj; subst hj; exact hat9.imp id (fun e => Nat.le_of_eq e.symm))); have hao9 := hide (show (Value.slice (some ⟨g9, 0, none⟩) (K + 1) c9).ownBlock ≠ some w5.heap.size from fun e => by simp only [Value.ownBlock, Option.some.injEq] at e; rcases hat9 with h1 | h1; (have := hob.out _ h1; omega); (simp at h1; omega)); replace hgr9 := hide hgr9; replace hb9 := hide hb9; clear kp9 own9 hat9)
        have hz9 : wm.heap.size ≤ w9.heap.size := hT9.out.keep.size
        have hx9 : w5.heap.size < w9.heap.size := cell_lt xc9
        have hok9 := hide (sok_look hsok.out hnx.out.1)
        have hwy9 := hide (ways_look hwy.out u)
        have hsm9 := hide (smid_start hsok.out hnx.out.1)
        have hK9 := hide (show K + 1 = (look1 s u).ord.length by simp [look1, hK.out])
        have hKb := hK0.out _ hT9.out.keep
        clear hT7 xc7 hgr9 hb9
        have hT9 : Hid (TX n mb pb k (.slice a7 W7 c7) (.slice (some ⟨g9, 0, none⟩) (K + 1) c9) ws7 (look1 s u) wm w9) := hT9
        by_cases hut : u = tg
        · have q2 : ((u : Int) == (tg : Int)) = true := by rw [hut]; simp
          have x3 := hT9.out.cu bc1 (by simp; omega) (by simp; omega)
          have zm9 : bm < w9.heap.size := by omega
          have hw : Waits n s u := hnx.out.1
          obtain ⟨lc, hch, hct⟩ := hwy9.out tg (by rw [← hut]; exact hw.2.1)
          obtain ⟨hll, hlm⟩ := ways_len hok9.out ht hch hct
          obtain ⟨cst, hcst⟩ : ∃ cst, cst = (look1 s u).cost tg := ⟨_, rfl⟩
          have hlk := ((hT9.out.cm).look 109 Try.underlying109 (x := (tg : Int)) (by unfold Bd; omega))
          rw [costM_at ht (by rw [← hut]; exact hw.2.1), ← hcst] at hlk
          simp only [Option.getD_some] at hlk
          have hcmm := hide (show ∀ w', Below w9.heap.size w9 w' → (Instr.lookup 109 (.map (some mb)) (.int .i64 (tg : Int)) false).run Try.prog w' = .ok (.int .i64 cst) w' from fun w' hb => by
            have h1 := ((hT9.out.stays hb).cm).look 109 Try.underlying109 (x := (tg : Int)) (by unfold Bd; omega)
            rw [costM_at ht (by rw [← hut]; exact hw.2.1)] at h1
            rw [hcst]
            exact h1)
          have key1 := hide (show ∀ w', Below w9.heap.size w9 w' → (Below w9.heap.size w9 w' ∧ w'.cell? ⟨bm, 0, none⟩ = some (.map (some mb)) ∧ (Instr.lookup 109 (.map (some mb)) (.int .i64 (tg : Int)) false).run Try.prog w' = .ok (.int .i64 cst) w' ∧ w9.heap.size ≤ w'.heap.size) from
            fun w' hb => ⟨hb, cu_below hb x3 zm9, hcmm.out w' hb, hb.size⟩)
          have hpm9 := hide hT9.out.pm
          have hch2 := hide hch
          have hlm2 := hide hlm
          have hut2 := hide hut
          have hkp9 := hide hT9.out.keep
          have hod9 := hide hT9.out.od
          replace hcst := hide hcst
          clear hch hlm hct hut hw x3 hlk hcmm hT9
          go_upto_region 11 with fail
          refine wp_region_inv 9 (by kernel_rfl) [some 50, some 51, some 52, some 53, some 54, some 55, some 56, some 57, some 58] (FRb mb pb n tg (v : Int) cst (.slice (some ⟨g9, 0, none⟩) (K + 1) c9) lc w9.heap.size) (fun w' => Below w9.heap.size w9 w' ∧ w'.cell? ⟨bm, 0, none⟩ = some (.map (some mb)) ∧ (Instr.lookup 109 (.map (some mb)) (.int .i64 (tg : Int)) false).run Try.prog w' = .ok (.int .i64 cst) w' ∧ w9.heap.size ≤ w'.heap.size) (fun w w' => Below w.heap.size w w') (by kernel_rfl) (by kernel_rfl) (by kernel_rfl) (by kernel_rfl) (frb_stays) (fun _ _ h => h.size) (key1.out _ (below_drew _)) ?steps ?hend
          case steps =>
            refine ⟨?_, ?_, ?_, ?_, ?_, ?_, ?_, ?_, ?_, trivial⟩
            · intro X L H wI hS hd K hK
              have hS0 := hide hS
              (try dsimp only at hS)
              simp only [putAll, Act.put, List.setIfInBounds_toArray, List.set_cons_zero, List.set_cons_succ]
              go_simp
              refine hK _ _ wI.heap.size wI.heap.size _ ?_ (Nat.le_refl _) (Nat.le_refl _) (Nat.le_refl _) (Below.refl _ _) hS0.out rfl
              simp only [putAll, Act.put, List.setIfInBounds_toArray, List.set_cons_zero, List.set_cons_succ]
            · intro X L H wI hS hd K hK
              have hS0 := hide hS
              (try dsimp only at hS)
              simp only [putAll, Act.put, List.setIfInBounds_toArray, List.set_cons_zero, List.set_cons_succ]
              go_simp
              refine hK _ _ wI.heap.size wI.heap.size _ ?_ (Nat.le_refl _) (Nat.le_refl _) (Nat.le_refl _) (Below.refl _ _) hS0.out rfl
              simp only [putAll, Act.put, List.setIfInBounds_toArray, List.set_cons_zero, List.set_cons_succ]
            · intro X L H wI hS hd K hK
              have hS0 := hide hS
              (try dsimp only at hS)
              simp only [putAll, Act.put, List.setIfInBounds_toArray, List.set_cons_zero, List.set_cons_succ]
              go_simp
              refine hK _ _ wI.heap.size wI.heap.size _ ?_ (Nat.le_refl _) (Nat.le_refl _) (Nat.le_refl _) (Below.refl _ _) hS0.out rfl
              simp only [putAll, Act.put, List.setIfInBounds_toArray, List.set_cons_zero, List.set_cons_succ]
            · intro X L H wI hS hd K hK
              (try have h0 : X 0 = _ := hd 0 (by kernel_rfl))
              (try have h1 : X 1 = _ := hd 1 (by kernel_rfl))
              (try have h2 : X 2 = _ := hd 2 (by kernel_rfl))
              have hS0 := hide hS
              (try dsimp only at hS)
              simp only [putAll, Act.put, List.setIfInBounds_toArray, List.set_cons_zero, List.set_cons_succ]
              (go_simp; go_at_call 113; refine (rback_any n k tg pb (v : Int) (look1 s u).pred lc _ (hpm9.out.stays hS0.out.1) hch2.out hn hll hlm2.out).mono ?_; rintro e wB ⟨ba, bk2, rfl, oB, hbB⟩; exact hK _ _ wI.heap.size wB.heap.size _ (by simp only [putAll, Act.put, List.setIfInBounds_toArray, List.set_cons_zero, List.set_cons_succ, h0, h1, h2]) (Nat.le_refl _) hbB.size (Nat.le_refl _) hbB (key1.out _ (hS0.out.1.trans (hbB.mono hS0.out.2.2.2))) ⟨ba, bk2, rfl, oB.base_le hS0.out.2.2.2⟩)
            · intro X L H wI hS hd K hK
              have hS0 := hide hS
              (try dsimp only at hS)
              simp only [putAll, Act.put, List.setIfInBounds_toArray, List.set_cons_zero, List.set_cons_succ]
              go_simp
              refine hK _ _ wI.heap.size wI.heap.size _ ?_ (Nat.le_refl _) (Nat.le_refl _) (Nat.le_refl _) (Below.refl _ _) hS0.out rfl
              simp only [putAll, Act.put, List.setIfInBounds_toArray, List.set_cons_zero, List.set_cons_succ]
            · intro X L H wI hS hd K hK
              have hS0 := hide hS
              (try dsimp only at hS)
              simp only [putAll, Act.put, List.setIfInBounds_toArray, List.set_cons_zero, List.set_cons_succ]
              go_simp
              refine hK _ _ wI.heap.size wI.heap.size _ ?_ (Nat.le_refl _) (Nat.le_refl _) (Nat.le_refl _) (Below.refl _ _) hS0.out rfl
              simp only [putAll, Act.put, List.setIfInBounds_toArray, List.set_cons_zero, List.set_cons_succ]
            · intro X L H wI hS hd K hK
              have h4 : X 4 = _ := hd 4 (by kernel_rfl)
              have h5 : X 5 = _ := hd 5 (by kernel_rfl)
              have hS0 := hide hS
              (try dsimp only at hS)
              simp only [putAll, Act.put, List.setIfInBounds_toArray, List.set_cons_zero, List.set_cons_succ]
              go_simp
              refine hK _ _ wI.heap.size wI.heap.size _ ?_ (Nat.le_refl _) (Nat.le_refl _) (Nat.le_refl _) (Below.refl _ _) hS0.out rfl
              simp only [putAll, Act.put, List.setIfInBounds_toArray, List.set_cons_zero, List.set_cons_succ, h4, h5]
            · intro X L H wI hS hd K hK
              (try have h3 : X 3 = _ := hd 3 (by kernel_rfl))
              (try have h6 : X 6 = _ := hd 6 (by kernel_rfl))
              have hS0 := hide hS
              (try dsimp only at hS)
              simp only [putAll, Act.put, List.setIfInBounds_toArray, List.set_cons_zero, List.set_cons_succ]
              (obtain ⟨ba, bk2, h3', o3⟩ := hd 3 (by kernel_rfl); have h6' : X 6 = _ := hd 6 (by kernel_rfl); go_simp; refine hK _ _ wI.heap.size wI.heap.size _ ?_ (Nat.le_refl _) (Nat.le_refl _) (Nat.le_refl _) (Below.refl _ _) hS0.out ⟨ba, bk2, rfl, o3⟩; simp only [putAll, Act.put, List.setIfInBounds_toArray, List.set_cons_zero, List.set_cons_succ, h3', h6'])
            · intro X L H wI hS hd K hK
              have hS0 := hide hS
              (try dsimp only at hS)
              simp only [putAll, Act.put, List.setIfInBounds_toArray, List.set_cons_zero, List.set_cons_succ]
              go_simp
              refine hK _ _ wI.heap.size wI.heap.size _ ?_ (Nat.le_refl _) (Nat.le_refl _) (Nat.le_refl _) (Below.refl _ _) hS0.out rfl
              simp only [putAll, Act.put, List.setIfInBounds_toArray, List.set_cons_zero, List.set_cons_succ]
          case hend =>
            intro X L H wI hS hF hP
            (obtain ⟨ba, bk2, f7, o7⟩ := (hF 7 (by omega)).1; have f8 : X 8 = _ := (hF 8 (by omega)).1; have hbI := hS.1; clear hS hF hP; replace o7 := hide o7; have hfm : ¬ (bf = mb ∨ bf = pb) := (by omega); have r0 := cu_below hbI (hkp9.out.cu d0 hfm) (by first | omega | (simp; done) | (simp; omega)); have r1 := cu_below hbI (hkp9.out.cu d1 hfm) (by first | omega | (simp; done) | (simp; omega)); have r2 := cu_below hbI (hkp9.out.cu d2 hfm) (by first | omega | (simp; done) | (simp; omega)); have g0 := fu_below hbI ((hkp9.out.frozen (p := ⟨bf, 0, none⟩) (by first | omega | (simp; done) | (simp; omega)) hfm).trans e0) (by first | omega | (simp; done) | (simp; omega)); have g1 := fu_below hbI ((hkp9.out.frozen (p := ⟨bf, 1, none⟩) (by first | omega | (simp; done) | (simp; omega)) hfm).trans e1) (by first | omega | (simp; done) | (simp; omega)); have g2 := fu_below hbI ((hkp9.out.frozen (p := ⟨bf, 2, none⟩) (by first | omega | (simp; done) | (simp; omega)) hfm).trans e2) (by first | omega | (simp; done) | (simp; omega)); have hbI2 := hide hbI; clear hbI)
            simp only [putAll, Act.put, List.setIfInBounds_toArray, List.set_cons_zero, List.set_cons_succ, f7, f8]
            change wpAny _ _ _ _ (2 + 1) _ _ _
            refine wpAny_ready (rs := [9]) (by kernel_rfl) (by simp) (AllReady.cons rfl (fun K hK => ?_) AllReady.nil)
            go_simp
            refine hK _ _ ?_
            clear hK K
            change wpAny _ _ _ _ (1 + 1) _ _ _
            refine wpAny_ready (rs := [10]) (by kernel_rfl) (by simp) (AllReady.cons rfl (fun K hK => ?_) AllReady.nil)
            go_simp
            refine hK _ _ ?_
            clear hK K
            change wpAny _ _ _ _ (0 + 1) _ _ _
            refine wpAny_ready (rs := [11]) (by kernel_rfl) (by simp) (AllReady.cons rfl (fun K hK => ?_) AllReady.nil)
            go_simp
            refine hK _ _ ?_
            clear hK K
            refine wpAny_done (by kernel_rfl) ?_ _
            go_wp2_with fail
            refine bodyPost_ret (v := .tuple #[.agg #[.slice ba lc.length bk2, .int .i64 cst, .slice (some ⟨g9, 0, none⟩) (K + 1) c9], .int .i64 0]) (by simp [results, Try.results42, go_sem, r0, r1, r2, g0, g1, g2]) rfl ?_
            have hux := hut2.out
            subst hux
            rw [← hs0e.out]
            have hbw9 := hKb.trans (hbI2.out.mono (by omega))
            refine ⟨some (look1 s u), hrun.out _ (.hit s hnx.out), ?_, lc, ba, bk2, some ⟨g9, 0, none⟩, c9, hch2.out, ?_, ?_, ?_⟩
            · exact ((hbw9.setCell (by simp; omega) _).setCell (by simp; omega) _).setCell (by simp; omega) _
            · rw [← hK9.out, ← hcst.out]
            · have hzf : bf < w9.heap.size := by omega
              exact (((o7.out.setCell hzf _).setCell hzf _).setCell hzf _).base_le (by omega)
            · have hzf : bf < wm.heap.size := by omega
              rw [← hK9.out]
              exact ((((hod9.out.stays hbI2.out).setCell (a := ⟨bf, 0, none⟩) hzf (.slice ba lc.length bk2)).setCell (a := ⟨bf, 1, none⟩) hzf (.int .i64 cst)).setCell (a := ⟨bf, 2, none⟩) hzf (.slice (some ⟨g9, 0, none⟩) (K + 1) c9)).base_le (by omega)
        · have q2 : ((u : Int) == (tg : Int)) = false := by simp; omega
          have hfold0 := hide (show (nes (es.take 0)).foldl (sedge h u) (look1 s u) = look1 s u from rfl)
          have hstep := hide (show ∀ o, SRun key (nes es) h n tg (expand (nes es) h u s) o → SRun key (nes es) h n tg s0 o from fun o ho => hrun.out o (.step s u o hnx.out hut ho))
          have hexp := hide (show expand (nes es) h u s = (nes es).foldl (sedge h u) (look1 s u) from rfl)
          have hTn : Hid (TX n mb pb k (.slice a7 W7 c7) (.slice (some ⟨g9, 0, none⟩) (K + 1) c9) ws7 (look1 s u) wm w9) := hT9
          obtain ⟨s1, hs1'⟩ : ∃ x, x = look1 s u := ⟨_, rfl⟩
          rw [← hs1'] at hTn hwl7 hsm9 hwy9 hfold0 hexp hK9
          replace hs1' := hide hs1'
          have x0 := hTn.out.cu nc1 (by simp; omega) (by simp; omega)
          have zg9 : w.heap.size < w9.heap.size := by omega
          have hKs := hide (show s1.ord.length = K + 1 from hK9.out.symm)
          have hmp : mb ≠ pb := hlt2.2.2.2.1
          clear hnx hrun hab hob hzr hT9 hfu hmin hwl hsok hwy hKb hok9 hum hwne hK9 hws7 hlp hkl hK hW
          go_wp2
          go_loopw [14, 63] (fun s14 i wr => ∃ (j k2 : Nat) (s2 : SR) (ws2 : List Nat) (a2 : Option Addr) (c2 W2 : Nat), j ≤ es.length ∧ i = .int .i64 (j : Int) ∧ s14 = .slice a2 W2 c2 ∧ Hid (W2 = ws2.length) ∧ Hid (TX n mb pb k2 (.slice a2 W2 c2) (.slice (some ⟨g9, 0, none⟩) (K + 1) c9) ws2 s2 wm wr) ∧ Hid (WL n s2 ws2) ∧ Hid (SMid n v h u s2) ∧ Hid (Ways s2) ∧ Hid ((nes (es.take j)).foldl (sedge h u) s1 = s2) ∧ Hid (s2.ord = s1.ord) ∧ k2 ≤ 1 + 600 * K + j ∧ wr.cell? ⟨w5.heap.size, 0, none⟩ = some (.int .i64 (u : Int)) ∧ Hid ((Value.slice a2 W2 c2).ownBlock ≠ some w5.heap.size)) (fun _ i _ => es.length - (intOf i).toNat)
          case atStart => exact ⟨0, k, s1, ws7, a7, c7, W7, Nat.zero_le _, rfl, rfl, hW7, hTn, hwl7, hsm9, hwy9, hfold0, hide rfl, by omega, xc9, hav7⟩
          case round =>
            clear hTn hwl7 hsm9 hwy9 hfold0 xc9 hav7 x0 hW7
            obtain ⟨j, k2, s2, ws2, a2, c2, W2, hj, rfl, rfl, hW2, hT, hwl, hsm, hwy, hfold, hof, hk2, xc, hap⟩ := hrel
            have hzr : wm.heap.size ≤ wr.heap.size := hT.out.keep.size
            have hxr : w5.heap.size < wr.heap.size := cell_lt xc
            have hW2n : W2 ≤ 64 := by have := wl_len hwl.out; have := hW2.out; omega
            by_cases hlt : j < es.length
            · obtain ⟨u2, vv, e1', e2', e3, e4, e5, e6, htk0⟩ := right_edge hes.out j hlt
              have e7 := hpos.out es[j] (List.getElem_mem hlt)
              obtain ⟨b, o, rfl, hbB, m1, m2, m3⟩ := (hEm.out wr hT.out.keep).ed j hlt
              obtain ⟨b1, o1, he1, hbB1, m4⟩ := (hHm.out wr hT.out.keep).atI vv e4
              simp only [Option.some.injEq, Addr.mk.injEq] at he1
              obtain ⟨rfl, rfl, -⟩ := he1
              obtain ⟨ec, hec⟩ : ∃ ec, ec = es[j].c := ⟨_, rfl⟩
              rw [e1'] at m1
              rw [e2'] at m2
              rw [← hec] at m3 e5 e6 e7 htk0
              have htk := hide (show (nes (es.take (j + 1))).foldl (sedge h u) s1 = sedge h u s2 ⟨u2, vv, ec⟩ by rw [htk0, List.foldl_append, hfold.out]; rfl)
              have zb : b < wr.heap.size := by omega
              have zb0 := cell_lt m4
              simp only at zb0
              have zh2 : bh < wr.heap.size := by omega
              have zm2 : bm < wr.heap.size := by omega
              have x1 := hT.out.cu hc1 (by simp; omega) (by simp; omega)
              have x3 := hT.out.cu bc1 (by simp; omega) (by simp; omega)
              have hcv := hsm.out.cv
              have hcb := hsm.out.ok.cb vv
              have hlen2 := sok_len hsm.out.ok
              have huF : s2.cost u < FAR := (hsm.out.ok.ordLt u hsm.out.inO).2
              obtain ⟨x2, hx2⟩ : ∃ x2, x2 = s2.cost u := ⟨_, rfl⟩
              have hgu0 := costM_at (cost := s2.cost) hun huF
              rw [← hx2] at hcv huF hgu0
              obtain ⟨y, hy⟩ : ∃ y, y = h vv := ⟨_, rfl⟩
              rw [← hy] at m4
              have ij : (0 : Int) ≤ (j : Int) ∧ (j : Int) < (es.length : Int) := by omega
              have iv2 : (0 : Int) ≤ (vv : Int) ∧ (vv : Int) < (n : Int) := by omega
              have hTa := hide (hT.out.stays ((Below.refl _ _).alloc (Nat.le_refl _) (.cells #[.int .i64 (u2 : Int), .int .i64 (vv : Int), .int .i64 ec] 34)))
              have xca := cu_alloc (o := .cells #[.int .i64 (u2 : Int), .int .i64 (vv : Int), .int .i64 ec] 34) xc
              have hlo : (LP s2.ord).length = K + 1 := by rw [lp_len, hof.out]; exact hKs.out
              have hro := hide (own_rowL hTa.out.od)
              have hcc := hide (contI_any (vv : Int) (some ⟨g9, 0, none⟩) c9 (K + 1) (LP s2.ord) _ _ hlo hro.out (by omega))
              have hgu := hide (show (costM n s2.cost (u : Int)).getD 0 = x2 by rw [hgu0]; rfl)
              have hBu : Bd (u : Int) := by unfold Bd; omega
              have hBvv : Bd (vv : Int) := by unfold Bd; omega
              have hcF : x2 + ec < FAR := by unfold FAR; omega
              have hwrap : IntKind.i64.wrap (x2 + ec) = x2 + ec := IntWalk.i64_in _ (by omega)
              replace hx2 := hide hx2
              replace hec := hide hec
              replace hy := hide hy
              replace e1' := hide e1'
              replace e2' := hide e2'
              replace hwrap := hide hwrap
              clear htk0 hgu0 hT hlo hfold
              by_cases huu : u2 = u
              · obtain rfl : u = u2 := huu.symm
                have q3 : ((u : Int) != (u : Int)) = false := by simp
                by_cases hyF : y = 1099511627776
                · have hfs := hide (show (nes (es.take (j + 1))).foldl (sedge h u) s1 = s2 by rw [htk.out]; exact sedge_no (fun hc => hc.2.1 (by show h vv = FAR; rw [← hy.out, hyF]; rfl)))
                  subst hyF
                  clear hcc
                  go_wp2
                  go_roundw
                  case rel => exact ⟨j + 1, k2, s2, ws2, a2, c2, W2, by omega, by go_num, rfl, hW2, hTa, hwl, hsm, hwy, hfs, hof, by omega, xca, hap⟩
                  case measure => simp [intOf]; omega
                · have q4 : (y == 1099511627776) = false := by simpa using hyF
                  have hyF2 := hide (show h vv ≠ FAR by rw [← hy.out]; exact hyF)
                  clear hyF
                  by_cases hino : vv ∈ s2.ord
                  · have hfs := hide (show (nes (es.take (j + 1))).foldl (sedge h u) s1 = s2 by rw [htk.out]; exact sedge_no (fun hc => hc.2.2.1 hino))
                    have hdq : decide ((vv : Int) ∈ LP s2.ord) = true := by simpa using lp_mem.2 hino
                    rw [hdq] at hcc
                    replace hino := hide hino
                    go_wp2_with fail
                    refine hcc.out.mono ?_
                    rintro e w8 ⟨rfl, rfl⟩
                    go_wp2
                    go_roundw
                    case rel => exact ⟨j + 1, k2, s2, ws2, a2, c2, W2, by omega, by go_num, rfl, hW2, hTa, hwl, hsm, hwy, hfs, hof, by omega, xca, hap⟩
                    case measure => simp [intOf]; omega
                  · have hdq : decide ((vv : Int) ∈ LP s2.ord) = false := by simpa using fun hc => hino (lp_mem.1 hc)
                    rw [hdq] at hcc
                    by_cases hless : x2 + ec < s2.cost vv
                    · have hsy := hide (show sedge h u s2 ⟨u, vv, ec⟩ = { s2 with cost := upz s2.cost vv (x2 + ec), pred := upz s2.pred vv (u : Int) } by rw [hx2.out]; exact sedge_yes (h := h) (v := u) (s := s2) (e := ⟨u, vv, ec⟩) rfl hyF2.out hino (by rw [← hx2.out]; exact hless))
                      have hsmB := hide (smid_edge hsm.out (e := ⟨u, vv, ec⟩) (by simp only; omega) (by omega))
                      have hwyB := hide (ways_edge (h := h) (v := u) (e := ⟨u, vv, ec⟩) hwy.out hsm.out.inO (hsm.out.ok.ordLt u hsm.out.inO).2)
                      rw [hsy.out] at hsmB hwyB
                      have hofB := hide (show ({ s2 with cost := upz s2.cost vv (x2 + ec), pred := upz s2.pred vv (u : Int) } : SR).ord = s1.ord from hof.out)
                      rcases costM_look (cost := s2.cost) e4 with ⟨hq1, hq2⟩ | ⟨hq1, hq2⟩
                      · obtain ⟨y2, hy2⟩ : ∃ y2, y2 = s2.cost vv := ⟨_, rfl⟩
                        have hgd := hide (show (costM n s2.cost (vv : Int)).getD 0 = y2 by rw [hq1, hy2]; rfl)
                        have his := hide (show (costM n s2.cost (vv : Int)).isSome = true by rw [hq1]; rfl)
                        rw [← hy2] at hless
                        replace hy2 := hide hy2
                        replace hq1 := hide hq1
                        clear hq2 hcb
                        go_wp2_with fail
                        refine hcc.out.mono ?_
                        rintro e w8 ⟨rfl, rfl⟩
                        have hT8 := hide (hTa.out.stays (below_drew _))
                        obtain ⟨wA, runA, imA, gA⟩ := hT8.out.cm.update 109 Try.underlying109 (by omega) (x := (vv : Int)) (y := x2 + ec) (by unfold Bd; omega) (by unfold Bd; omega)
                        obtain ⟨wB, runB, imB, gB⟩ := (hT8.out.pm.kept gA (fun e => hmp (Option.some.inj e).symm)).update 109 Try.underlying109 (by omega) (x := (vv : Int)) (y := (u : Int)) (by unfold Bd; omega) (by unfold Bd; omega)
                        have kpA := (Keep.refl (fun j => j = mb ∨ j = pb) (wr.alloc (.cells #[.int .i64 (u : Int), .int .i64 (vv : Int), .int .i64 ec] 34)).drew).grown gA (fun z hz => by cases hz; exact .inl (.inl rfl))
                        have xcA := kpA.cu (cu_drew (cu_alloc (o := .cells #[.int .i64 (u : Int), .int .i64 (vv : Int), .int .i64 ec] 34) xc)) (by simp; omega)
                        have x3A := kpA.cu (cu_drew (cu_alloc (o := .cells #[.int .i64 (u : Int), .int .i64 (vv : Int), .int .i64 ec] 34) x3)) (by simp; omega)
                        have eA : wA.cell? ⟨wr.heap.size, 1, none⟩ = some (.int .i64 (vv : Int)) := kpA.cu (cu_drew (by simp [go_sem])) (by simp; omega)
                        have zA : wr.heap.size < wA.heap.size := cell_lt eA
                        rw [costM_set e4 hcF] at imA
                        rw [predM_set e4] at imB
                        have kpB := ((Keep.refl (fun j => j = mb ∨ j = pb) (wr.alloc (.cells #[.int .i64 (u : Int), .int .i64 (vv : Int), .int .i64 ec] 34)).drew).grown gA (fun z hz => by cases hz; exact .inl (.inl rfl))).grown gB (fun z hz => by cases hz; exact .inl (.inr rfl))
                        have hTB := hide (hT8.out.setM _ _ kpB (imA.kept gB (fun e => hmp (Option.some.inj e))) imB)
                        have xcB := kpB.cu (cu_drew (cu_alloc (o := .cells #[.int .i64 (u : Int), .int .i64 (vv : Int), .int .i64 ec] 34) xc)) (by simp; omega)
                        have eB : wB.cell? ⟨wr.heap.size, 1, none⟩ = some (.int .i64 (vv : Int)) := kpB.cu (cu_drew (by simp [go_sem])) (by simp; omega)
                        have zB : wr.heap.size < wB.heap.size := cell_lt eB
                        have hfB := hide (show (nes (es.take (j + 1))).foldl (sedge h u) s1 = { s2 with cost := upz s2.cost vv (x2 + ec), pred := upz s2.pred vv (u : Int) } by rw [htk.out, hsy.out])
                        replace hfB := hide hfB.out
                        clear hT8 imA imB kpB gA gB
                        go_wp2_with (first | (at_lookup; (refine wpList_imap_ok rfl (.tmp 86) (.tmp 88) 109 rfl Try.underlying109 hTa.out.cm (vv : Int) hBvv rfl rfl ?_); simp only [hgd.out, his.out]) | (at_lookup; (refine wpList_imap_look rfl (.tmp 92) (.tmp 93) 109 rfl Try.underlying109 hTa.out.cm (u : Int) hBu rfl rfl ?_); simp only [hgu.out]))
                        go_region
                        clear runA runB xcA x3A eA kpA zA
                        have hrW := hide (own_rowL hTB.out.wt)
                        by_cases hinw : vv ∈ ws2
                        · have hdw : decide ((vv : Int) ∈ LP ws2) = true := by simpa using lp_mem.2 hinw
                          have hcw := hide (contI_any (vv : Int) a2 c2 W2 (LP ws2) wB wB.heap.size (by rw [lp_len]; exact hW2.out.symm) hrW.out (by omega))
                          rw [hdw] at hcw
                          have hwlB := hide (wl_old (c := x2 + ec) (p := upz s2.pred vv (u : Int)) hwl.out hinw hcF)
                          replace hinw := hide hinw
                          go_wp2_with fail
                          refine hcw.out.mono ?_
                          rintro e w8 ⟨rfl, rfl⟩
                          go_wp2
                          go_roundw
                          case rel => exact ⟨j + 1, k2 + 1, _, ws2, a2, c2, W2, by omega, by go_num, rfl, hW2, hTB, hwlB, hsmB, hwyB, hfB, hofB, by omega, xcB, hap⟩
                          case measure => simp [intOf]; omega
                        · have hdw : decide ((vv : Int) ∈ LP ws2) = false := by simpa using fun hc => hinw (lp_mem.1 hc)
                          have hcw := hide (contI_any (vv : Int) a2 c2 W2 (LP ws2) wB wB.heap.size (by rw [lp_len]; exact hW2.out.symm) hrW.out (by omega))
                          rw [hdw] at hcw
                          have hwlB := hide (wl_new (c := x2 + ec) (p := upz s2.pred vv (u : Int)) hwl.out e4 hinw hino hcF)
                          have hW3 := hide (show W2 + 1 = (ws2 ++ [vv]).length by rw [List.length_append, hW2.out]; rfl)
                          have hlw : (LP ws2).length = W2 := by rw [lp_len]; exact hW2.out.symm
                          have hla := hide (lp_app ws2 vv)
                          have habB := hide (fun j hj => (hTB.out.wt.block_lt j hj).2)
                          replace hinw := hide hinw
                          go_wp2_with fail
                          refine hcw.out.mono ?_
                          rintro e w8 ⟨rfl, rfl⟩
                          go_wp2_with (at_builtin; (refine wpList_pushL (e := 3) (enc := encI) (xs := (LP ws2)) (v := .slice a2 (W2) c2) (base := wm.heap.size) rfl (.tmp 118) (.tmp 121) 29 rfl _ 8 Try.underlying29 info_int rfl ?d18 lenI oneI (W2) ?d28 ?d38 ?d48 ⟨w8.heap.size, 0, none⟩ 1 (vv : Int) ?d58 ?d68 ?d78 ?d88 ?d98 ?_); (case d18 => omega); (case d28 => exact hlw); (case d38 => rfl); (case d48 => exact (hTB.out.wt.alloc _)); (case d58 => rfl); (case d68 => exact newI _ _ _ _ rfl); (case d78 => omega); (case d88 => unfold maxLen; omega); (case d98 => first | omega | (simp; done) | (simp; omega)); intro g8 c8 w8 own8 hb8 hgr8 hat8 hgl8; rw [← hla.out] at own8; have kp8 := Keep.grown (S := fun j => (Value.slice a2 W2 c2).ownBlock = some j) (Keep.refl _ _) hgr8 (fun j hj => .inl hj); have xc8 := kp8.cu (cu_alloc xcB) (fun e => hap.out e); have hTC := hide ((hTB.out.stays ((Below.refl _ _).alloc (Nat.le_refl _) (.cells #[.int .i64 (vv : Int)] 3))).setW kp8 own8 (fun j hj => by simp only [Value.ownBlock, Option.some.injEq] at hj; subst hj; exact hat8.imp id (fun e => Nat.le_of_eq e.symm))); have hap8 := hide (show (Value.slice (some ⟨g8, 0, none⟩) (W2 + 1) c8).ownBlock ≠ some w5.heap.size from fun e => by simp only [Value.ownBlock, Option.some.injEq] at e; rcases hat8 with h1 | h1; (exact hap.out (h1.trans (by rw [e]))); (simp at h1; omega)); replace hgr8 := hide hgr8; replace hb8 := hide hb8; clear kp8 own8 hat8)
                          go_roundw
                          case rel => exact ⟨j + 1, k2 + 1, _, ws2 ++ [vv], _, c8, W2 + 1, by omega, by go_num, rfl, hW3, hTC, hwlB, hsmB, hwyB, hfB, hofB, by omega, xc8, hap8⟩
                          case measure => simp [intOf]; omega
                      · have hgd := hide (show (costM n s2.cost (vv : Int)).getD 0 = 0 by rw [hq1]; rfl)
                        have his := hide (show (costM n s2.cost (vv : Int)).isSome = false by rw [hq1]; rfl)
                        replace hq1 := hide hq1
                        replace hless := hide hless
                        clear hq2 hcb
                        go_wp2_with fail
                        refine hcc.out.mono ?_
                        rintro e w8 ⟨rfl, rfl⟩
                        have hT8 := hide (hTa.out.stays (below_drew _))
                        obtain ⟨wA, runA, imA, gA⟩ := hT8.out.cm.update 109 Try.underlying109 (by omega) (x := (vv : Int)) (y := x2 + ec) (by unfold Bd; omega) (by unfold Bd; omega)
                        obtain ⟨wB, runB, imB, gB⟩ := (hT8.out.pm.kept gA (fun e => hmp (Option.some.inj e).symm)).update 109 Try.underlying109 (by omega) (x := (vv : Int)) (y := (u : Int)) (by unfold Bd; omega) (by unfold Bd; omega)
                        have kpA := (Keep.refl (fun j => j = mb ∨ j = pb) (wr.alloc (.cells #[.int .i64 (u : Int), .int .i64 (vv : Int), .int .i64 ec] 34)).drew).grown gA (fun z hz => by cases hz; exact .inl (.inl rfl))
                        have xcA := kpA.cu (cu_drew (cu_alloc (o := .cells #[.int .i64 (u : Int), .int .i64 (vv : Int), .int .i64 ec] 34) xc)) (by simp; omega)
                        have x3A := kpA.cu (cu_drew (cu_alloc (o := .cells #[.int .i64 (u : Int), .int .i64 (vv : Int), .int .i64 ec] 34) x3)) (by simp; omega)
                        have eA : wA.cell? ⟨wr.heap.size, 1, none⟩ = some (.int .i64 (vv : Int)) := kpA.cu (cu_drew (by simp [go_sem])) (by simp; omega)
                        have zA : wr.heap.size < wA.heap.size := cell_lt eA
                        rw [costM_set e4 hcF] at imA
                        rw [predM_set e4] at imB
                        have kpB := ((Keep.refl (fun j => j = mb ∨ j = pb) (wr.alloc (.cells #[.int .i64 (u : Int), .int .i64 (vv : Int), .int .i64 ec] 34)).drew).grown gA (fun z hz => by cases hz; exact .inl (.inl rfl))).grown gB (fun z hz => by cases hz; exact .inl (.inr rfl))
                        have hTB := hide (hT8.out.setM _ _ kpB (imA.kept gB (fun e => hmp (Option.some.inj e))) imB)
                        have xcB := kpB.cu (cu_drew (cu_alloc (o := .cells #[.int .i64 (u : Int), .int .i64 (vv : Int), .int .i64 ec] 34) xc)) (by simp; omega)
                        have eB : wB.cell? ⟨wr.heap.size, 1, none⟩ = some (.int .i64 (vv : Int)) := kpB.cu (cu_drew (by simp [go_sem])) (by simp; omega)
                        have zB : wr.heap.size < wB.heap.size := cell_lt eB
                        have hfB := hide (show (nes (es.take (j + 1))).foldl (sedge h u) s1 = { s2 with cost := upz s2.cost vv (x2 + ec), pred := upz s2.pred vv (u : Int) } by rw [htk.out, hsy.out])
                        replace hfB := hide hfB.out
                        clear hT8 imA imB kpB gA gB
                        go_wp2_with (first | (at_lookup; (refine wpList_imap_ok rfl (.tmp 86) (.tmp 88) 109 rfl Try.underlying109 hTa.out.cm (vv : Int) hBvv rfl rfl ?_); simp only [hgd.out, his.out]) | (at_lookup; (refine wpList_imap_look rfl (.tmp 92) (.tmp 93) 109 rfl Try.underlying109 hTa.out.cm (u : Int) hBu rfl rfl ?_); simp only [hgu.out]))
                        go_region
                        clear runA runB xcA x3A eA kpA zA
                        have hrW := hide (own_rowL hTB.out.wt)
                        by_cases hinw : vv ∈ ws2
                        · have hdw : decide ((vv : Int) ∈ LP ws2) = true := by simpa using lp_mem.2 hinw
                          have hcw := hide (contI_any (vv : Int) a2 c2 W2 (LP ws2) wB wB.heap.size (by rw [lp_len]; exact hW2.out.symm) hrW.out (by omega))
                          rw [hdw] at hcw
                          have hwlB := hide (wl_old (c := x2 + ec) (p := upz s2.pred vv (u : Int)) hwl.out hinw hcF)
                          replace hinw := hide hinw
                          go_wp2_with fail
                          refine hcw.out.mono ?_
                          rintro e w8 ⟨rfl, rfl⟩
                          go_wp2
                          go_roundw
                          case rel => exact ⟨j + 1, k2 + 1, _, ws2, a2, c2, W2, by omega, by go_num, rfl, hW2, hTB, hwlB, hsmB, hwyB, hfB, hofB, by omega, xcB, hap⟩
                          case measure => simp [intOf]; omega
                        · have hdw : decide ((vv : Int) ∈ LP ws2) = false := by simpa using fun hc => hinw (lp_mem.1 hc)
                          have hcw := hide (contI_any (vv : Int) a2 c2 W2 (LP ws2) wB wB.heap.size (by rw [lp_len]; exact hW2.out.symm) hrW.out (by omega))
                          rw [hdw] at hcw
                          have hwlB := hide (wl_new (c := x2 + ec) (p := upz s2.pred vv (u : Int)) hwl.out e4 hinw hino hcF)
                          have hW3 := hide (show W2 + 1 = (ws2 ++ [vv]).length by rw [List.length_append, hW2.out]; rfl)
                          have hlw : (LP ws2).length = W2 := by rw [lp_len]; exact hW2.out.symm
                          have hla := hide (lp_app ws2 vv)
                          have habB := hide (fun j hj => (hTB.out.wt.block_lt j hj).2)
                          replace hinw := hide hinw
                          go_wp2_with fail
                          refine hcw.out.mono ?_
                          rintro e w8 ⟨rfl, rfl⟩
                          go_wp2_with (at_builtin; (refine wpList_pushL (e := 3) (enc := encI) (xs := (LP ws2)) (v := .slice a2 (W2) c2) (base := wm.heap.size) rfl (.tmp 118) (.tmp 121) 29 rfl _ 8 Try.underlying29 info_int rfl ?d18 lenI oneI (W2) ?d28 ?d38 ?d48 ⟨w8.heap.size, 0, none⟩ 1 (vv : Int) ?d58 ?d68 ?d78 ?d88 ?d98 ?_); (case d18 => omega); (case d28 => exact hlw); (case d38 => rfl); (case d48 => exact (hTB.out.wt.alloc _)); (case d58 => rfl); (case d68 => exact newI _ _ _ _ rfl); (case d78 => omega); (case d88 => unfold maxLen; omega); (case d98 => first | omega | (simp; done) | (simp; omega)); intro g8 c8 w8 own8 hb8 hgr8 hat8 hgl8; rw [← hla.out] at own8; have kp8 := Keep.grown (S := fun j => (Value.slice a2 W2 c2).ownBlock = some j) (Keep.refl _ _) hgr8 (fun j hj => .inl hj); have xc8 := kp8.cu (cu_alloc xcB) (fun e => hap.out e); have hTC := hide ((hTB.out.stays ((Below.refl _ _).alloc (Nat.le_refl _) (.cells #[.int .i64 (vv : Int)] 3))).setW kp8 own8 (fun j hj => by simp only [Value.ownBlock, Option.some.injEq] at hj; subst hj; exact hat8.imp id (fun e => Nat.le_of_eq e.symm))); have hap8 := hide (show (Value.slice (some ⟨g8, 0, none⟩) (W2 + 1) c8).ownBlock ≠ some w5.heap.size from fun e => by simp only [Value.ownBlock, Option.some.injEq] at e; rcases hat8 with h1 | h1; (exact hap.out (h1.trans (by rw [e]))); (simp at h1; omega)); replace hgr8 := hide hgr8; replace hb8 := hide hb8; clear kp8 own8 hat8)
                          go_roundw
                          case rel => exact ⟨j + 1, k2 + 1, _, ws2 ++ [vv], _, c8, W2 + 1, by omega, by go_num, rfl, hW3, hTC, hwlB, hsmB, hwyB, hfB, hofB, by omega, xc8, hap8⟩
                          case measure => simp [intOf]; omega
                    · have hfs := hide (show (nes (es.take (j + 1))).foldl (sedge h u) s1 = s2 by rw [htk.out]; exact sedge_no (fun hc => hless (by rw [hx2.out]; exact hc.2.2.2)))
                      have hq2 : s2.cost vv < FAR := by rcases hcb with h1 | h1; omega; unfold FAR; omega
                      have hq1 := costM_at (cost := s2.cost) e4 hq2
                      obtain ⟨y2, hy2⟩ : ∃ y2, y2 = s2.cost vv := ⟨_, rfl⟩
                      have hgd := hide (show (costM n s2.cost (vv : Int)).getD 0 = y2 by rw [hq1, hy2]; rfl)
                      have his := hide (show (costM n s2.cost (vv : Int)).isSome = true by rw [hq1]; rfl)
                      rw [← hy2] at hless
                      replace hy2 := hide hy2
                      clear hq1 hq2 hcb
                      replace hino := hide hino
                      go_wp2_with fail
                      refine hcc.out.mono ?_
                      rintro e w8 ⟨rfl, rfl⟩
                      go_wp2_with (first | (at_lookup; (refine wpList_imap_ok rfl (.tmp 86) (.tmp 88) 109 rfl Try.underlying109 hTa.out.cm (vv : Int) hBvv rfl rfl ?_); simp only [hgd.out, his.out]) | (at_lookup; (refine wpList_imap_look rfl (.tmp 92) (.tmp 93) 109 rfl Try.underlying109 hTa.out.cm (u : Int) hBu rfl rfl ?_); simp only [hgu.out, hwrap.out]))
                      go_roundw
                      case rel => exact ⟨j + 1, k2, s2, ws2, a2, c2, W2, by omega, by go_num, rfl, hW2, hTa, hwl, hsm, hwy, hfs, hof, by omega, xca, hap⟩
                      case measure => simp [intOf]; omega
              · have q3 : ((u2 : Int) != (u : Int)) = true := by simp; omega
                have hfs := hide (show (nes (es.take (j + 1))).foldl (sedge h u) s1 = s2 by rw [htk.out]; exact sedge_no (fun hc => huu hc.1))
                clear hcc
                go_wp2
                go_roundw
                case rel => exact ⟨j + 1, k2, s2, ws2, a2, c2, W2, by omega, by go_num, rfl, hW2, hTa, hwl, hsm, hwy, hfs, hof, by omega, xca, hap⟩
                case measure => simp [intOf]; omega
            · obtain rfl : j = es.length := by omega
              have hfin : s2 = expand (nes es) h u s := by rw [← hfold.out, List.take_length]; exact hexp.out.symm
              have hrun2 := hide (show ∀ o, SRun key (nes es) h n tg s2 o → SRun key (nes es) h n tg s0 o by rw [hfin]; exact hstep.out)
              have hkk := hide (show K + 1 = s2.ord.length by rw [hof.out]; exact hKs.out.symm)
              have hsok2 := hide hsm.out.ok
              replace hfin := hide hfin
              go_wp2
              go_roundg (gk - 1)
              case measure => omega
              case rel => exact ⟨s2, ws2, a2, some ⟨g9, 0, none⟩, c2, c9, W2, K + 1, k2, rfl, rfl, hW2, hkk, hT, hwl, hsok2, hwy, hrun2, by omega, by omega⟩
end Go.Proofs.Ytcehdpeeaogpiaa
