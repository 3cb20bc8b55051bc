/-
  What the reference's Focal returns. Conditions: a right net of costs above 0, guesses within their bounds, a right weight, at most 100000 steps.
-/
import Derived.Test.YtcehdpeeaogpiaaFocQ
import Derived.Test.YtcehdpeeaogpiaaFocD
import Derived.Test.YtcehdpeeaogpiaaFocF
import Derived.Test.YtcehdpeeaogpiaaFocG
import Derived.Test.YtcehdpeeaogpiaaRegInv
import Derived.Test.YtcehdpeeaogpiaaStarB
import Derived.Deep.RegionHeld3
import Derived.Deep.DeepCutAuto
import Derived.BigRegion
import Derived.Deep.LoopGhost
namespace Go.Proofs.Ytcehdpeeaogpiaa
open Go.RowKit
set_option linter.unusedSimpArgs false
set_option linter.unusedVariables false
/-- the least among those of a list -/
def leastR (f : Nat → Int) (l : List Nat) (m : Int) : Int := l.foldl (fun m v => min m (f v)) m
theorem leastR_says (f : Nat → Int) : ∀ (l : List Nat) (m : Int), leastR f l m ≤ m ∧ (∀ v ∈ l, leastR f l m ≤ f v) ∧ (leastR f l m = m ∨ ∃ v ∈ l, leastR f l m = f v)
  | [], m => ⟨Int.le_refl _, (fun v hv => by cases hv), Or.inl rfl⟩
  | x :: r, m => by
    obtain ⟨h1, h2, h3⟩ := leastR_says f r (min m (f x))
    have e : leastR f (x :: r) m = leastR f r (min m (f x)) := rfl
    rw [e]
    refine ⟨by omega, fun v hv => ?_, ?_⟩
    · rcases List.mem_cons.1 hv with rfl | hv
      · omega
      · exact h2 v hv
    · rcases h3 with h3 | ⟨v, hv, h3⟩
      · rcases Int.le_total m (f x) with h4 | h4
        · left; omega
        · right; exact ⟨x, List.mem_cons_self .., by omega⟩
      · right; exact ⟨v, List.mem_cons_of_mem _ hv, h3⟩
theorem wf_least {n : Nat} {h : Nat → Int} {s : FR} {ws : List Nat} (hw : WF n s ws) {x : Nat} (hx : x ∈ ws) : Least h n s (leastR (fsum h s) ws (fsum h s x)) := by
  obtain ⟨h1, h2, h3⟩ := leastR_says (fsum h s) ws (fsum h s x)
  refine ⟨?_, fun v hv hvw => h2 v ((hw.iff v).2 ⟨hv, hvw⟩)⟩
  rcases h3 with h3 | ⟨v, hv, h3⟩
  · exact ⟨x, ((hw.iff x).1 hx).1, ((hw.iff x).1 hx).2, h3.symm⟩
  · exact ⟨v, ((hw.iff v).1 hv).1, ((hw.iff v).1 hv).2, h3.symm⟩
theorem leastR_take {f : Nat → Int} {l : List Nat} {j : Nat} {m : Int} (hj : j < l.length) : leastR f (l.take (j + 1)) m = min (leastR f (l.take j) m) (f l[j]) := by
  unfold leastR
  rw [List.take_succ_eq_append_getElem hj, List.foldl_append]
  rfl
/-- what each operation of Focal's answer leaves -/
def FRf (ng : Value) (pb n tg : Nat) (fr cst : Int) (ol : Value) (l : List Nat) (b0 : Nat) : Nat → Value → Nat → Nat → World → Prop
  | 0, v, _, _, _ => v = ng
  | 1, v, _, _, _ => v = .map (some pb)
  | 2, v, _, _, _ => v = .int .i64 fr
  | 3, v, _, _, _ => v = .int .i64 (tg : Int)
  | 4, v, _, _, w => ∃ a k, v = .slice a l.length k ∧ Own encI 1 3 w b0 (.slice a l.length k) (LP l.reverse)
  | 5, v, _, _, w => ∃ a k, v = .agg #[.slice a l.length k, .int .i64 cst] ∧ Own encI 1 3 w b0 (.slice a l.length k) (LP l.reverse)
  | 6, v, _, _, _ => v = ol
  | _, _, _, _, _ => True
theorem frf_stays {ng : Value} {pb n tg : Nat} {fr cst : Int} {ol : Value} {l : List Nat} {b0 : Nat} : ∀ (i : Nat) (v : Value) (lo hi : Nat) (w w' : World), FRf ng pb n tg fr cst ol l b0 i v lo hi w → Below w.heap.size w w' → FRf ng pb n tg fr cst ol l b0 i v lo hi w'
  | 0, _, _, _, _, _, h, _ => h
  | 1, _, _, _, _, _, h, _ => h
  | 2, _, _, _, _, _, h, _ => h
  | 3, _, _, _, _, _, h, _ => h
  | 4, _, _, _, _, _, ⟨a, k, h1, h2⟩, hb => ⟨a, k, h1, h2.stays hb⟩
  | 5, _, _, _, _, _, ⟨a, k, h1, h2⟩, hb => ⟨a, k, h1, h2.stays hb⟩
  | 6, _, _, _, _, _, h, _ => h
  | _ + 7, _, _, _, _, _, _, _ => trivial
theorem fedge_yes {h : Nat → Int} {v : Nat} {s : FR} {e : NE} (h1 : e.u = v) (h2 : h e.v ≠ FAR) (h4 : s.cost v + e.c < s.cost e.v) : fedge h v s e = { s with cost := upz s.cost e.v (s.cost v + e.c), pred := upz s.pred e.v (v : Int), wt := upz s.wt e.v true } := if_pos ⟨h1, h2, h4⟩
theorem fedge_no {h : Nat → Int} {v : Nat} {s : FR} {e : NE} (hc : ¬ (e.u = v ∧ h e.v ≠ FAR ∧ s.cost v + e.c < s.cost e.v)) : fedge h v s e = s := if_neg hc
theorem fedge_ord {h : Nat → Int} {v : Nat} {s : FR} {e : NE} : (fedge h v s e).ord = s.ord := by unfold fedge; split <;> rfl
/-- the costs in bounds -/
theorem fok_bound {n fr : Nat} {h : Nat → Int} {s : FR} (hs : FOk n fr h s) {K : Nat} (hK : s.ord.length ≤ K) (v : Nat) (hv : s.cost v < FAR) : 0 ≤ s.cost v ∧ s.cost v ≤ 10000 * (K : Int) := by
  rcases hs.cb v with h1 | h1
  · omega
  · omega
set_option maxRecDepth 100000 in
set_option maxHeartbeats 20000000 in
theorem rfocal_any (n v tg st : Nat) (a ha ta : Option Addr) (cap hc tc : Nat) (es : List Ed) (h taste : Nat → Int) (ra rb : Int) (w : World) (B : Nat) (hB : B ≤ w.heap.size) (hE : Row encE 3 w B a es) (hH : Row encI 1 w B ha (LI n h)) (hTt : Row encI 1 w B ta (LI n taste)) (hn1 : 1 ≤ n) (hn : n ≤ 64) (hl : es.length ≤ 600) (hes : Right n es) (hpos : ∀ e ∈ es, 1 ≤ e.c)
    (hv : v < n) (ht : tg < n) (hh : ∀ u, u < n → 0 ≤ h u ∧ h u ≤ 1099511627776) (hr : 1 ≤ rb ∧ rb ≤ ra ∧ ra ≤ 1000000) (hst : st ≤ 100000) :
    Calls Try.prog 61 #[.agg #[.int .i64 (n : Int), .slice a es.length cap], .int .i64 (v : Int), .int .i64 (tg : Int), .slice ha n hc, .agg #[.int .i64 ra, .int .i64 rb], .slice ta n tc, .int .i64 (st : Int)] w (FocAns es h taste ⟨ra, rb⟩ n tg st (fStart h v) w) := by
  replace hes := hide hes
  replace hpos := hide hpos
  replace hh := hide hh
  have hmm := @run_makeMap Try.prog
  have iv : (0 : Int) ≤ (v : Int) ∧ (v : Int) < (n : Int) := by omega
  go_enter Try.func61, Try.ntmps61
  go_upto_region 1 with fail
  obtain ⟨w0, h0⟩ : ∃ w0, w0 = (((w.alloc (.cells #[.int .i64 (n : Int), .slice a es.length cap] 24)).alloc (.cells #[.slice ha n hc] 29)).alloc (.cells #[.int .i64 ra, .int .i64 rb] 90)).alloc (.cells #[.slice none 0 0, .int .i64 0, .slice none 0 0] 47) := ⟨_, rfl⟩
  have hB0 : Below w.heap.size w w0 := by rw [h0]; exact (by repeat (first | with_reducible exact Below.refl _ _ | with_reducible assumption | with_reducible refine up_drewN ?_ | with_reducible refine up_drew ?_ | (with_reducible refine up_alloc ?_ ?_; rotate_left; (first | omega | (simp <;> omega) | simp)) | (with_reducible refine up_set ?_ ?_; rotate_left; (first | omega | (simp <;> omega) | simp)) | (with_reducible refine Below.trans ?_ (Below.mono (by with_reducible assumption) ?_); rotate_left; (first | omega | (simp <;> omega) | simp))))
  have hs0 : w0.heap.size = w.heap.size + 1 + 1 + 1 + 1 := by rw [h0]; simp
  obtain ⟨bf, hbf⟩ : ∃ b, b = w.heap.size + 1 + 1 + 1 := ⟨_, rfl⟩
  obtain ⟨bw, hbw⟩ : ∃ b, b = w.heap.size + 1 + 1 := ⟨_, rfl⟩
  obtain ⟨bh, hbh⟩ : ∃ b, b = w.heap.size + 1 := ⟨_, rfl⟩
  have nc0 : w0.cell? ⟨w.heap.size, 0, none⟩ = some (.int .i64 (n : Int)) := by rw [h0]; simp [go_sem]
  have nc1 : w0.cell? ⟨w.heap.size, 1, none⟩ = some (.slice a es.length cap) := by rw [h0]; simp [go_sem]
  have hc1 : w0.cell? ⟨bh, 0, none⟩ = some (.slice ha n hc) := by rw [h0, hbh]; simp [go_sem]
  have kc0 : w0.cell? ⟨bw, 0, none⟩ = some (.int .i64 ra) := by rw [h0, hbw]; simp [go_sem]
  have kc1 : w0.cell? ⟨bw, 1, none⟩ = some (.int .i64 rb) := by rw [h0, hbw]; simp [go_sem]
  have d0 : w0.cell? ⟨bf, 0, none⟩ = some (.slice none 0 0) := by rw [h0, hbf]; simp [go_sem]
  have d1 : w0.cell? ⟨bf, 1, none⟩ = some (.int .i64 0) := by rw [h0, hbf]; simp [go_sem]
  have d2 : w0.cell? ⟨bf, 2, none⟩ = some (.slice none 0 0) := by rw [h0, hbf]; simp [go_sem]
  have e0 : w0.frozen? ⟨bf, 0, none⟩ = false := by rw [h0, hbf]; simp [go_sem]
  have e1 : w0.frozen? ⟨bf, 1, none⟩ = false := by rw [h0, hbf]; simp [go_sem]
  have e2 : w0.frozen? ⟨bf, 2, none⟩ = false := by rw [h0, hbf]; simp [go_sem]
  have hE0 := hide (hE.below hB0 hB)
  have hH0 := hide (hH.below hB0 hB)
  have hTt0 := hide (hTt.below hB0 hB)
  replace hB0 := hide hB0
  simp only [← h0]
  simp only [← hbf]
  simp only [← hbw]
  simp only [← hbh]
  have hbl : w.heap.size < w0.heap.size ∧ bh < w0.heap.size ∧ bw < w0.heap.size ∧ bf < w0.heap.size ∧ w.heap.size ≤ bf := by omega
  replace h0 := hide h0
  replace hs0 := hide hs0
  replace hbf := hide hbf
  replace hbw := hide hbw
  replace hbh := hide hbh
  clear hE hH hTt
  have hBv : Bd (v : Int) := by unfold Bd; omega
  have hB0' : Bd 0 := by unfold Bd; omega
  have hM0 := hide (IMap.made w0)
  go_upto_region 2 with (refine wpList_imap_ins rfl (.tmp 32) (.tmp 33) (.const (.int .i64 0)) 109 rfl Try.underlying109 hM0.out (by omega) (v : Int) 0 hBv hB0' rfl rfl rfl ?_; intro w2 hM2 hg2; rw [costM_start hv] at hM2; replace hM2 := hide hM2; replace hg2 := hide hg2)
  obtain ⟨wm, hwm⟩ : ∃ wm, wm = (w2.alloc (.map #[] 0)).alloc (.cells #[.map (some w0.heap.size)] 109) := ⟨_, rfl⟩
  have hb2 : Below w0.heap.size w0 w2 := ((up_alloc (Below.refl _ _) (Nat.le_refl _) : Below w0.heap.size w0 (w0.alloc (.map #[] 0)))).grown hg2.out (by simp) (fun j hj => by cases hj; exact Nat.le_refl _)
  have hz2 : w0.heap.size + 1 ≤ w2.heap.size := by have := hg2.out.size; simpa using this
  have hbm : Below w0.heap.size w0 wm := by rw [hwm]; exact up_alloc (up_alloc hb2 (by omega)) (by simp; omega)
  have hzm : wm.heap.size = w2.heap.size + 1 + 1 := by rw [hwm]; simp
  obtain ⟨mb, hmb⟩ : ∃ b, b = w0.heap.size := ⟨_, rfl⟩
  obtain ⟨pb, hpb⟩ : ∃ b, b = w2.heap.size := ⟨_, rfl⟩
  obtain ⟨bm, hbmm⟩ : ∃ b, b = w2.heap.size + 1 := ⟨_, rfl⟩
  have hMm := hide (show IMap wm mb (0 + 1) (costM n (upz (fun _ => FAR) v 0)) by rw [hwm, hmb]; exact (hM2.out.alloc _).alloc _)
  have hPm := hide (show IMap wm pb (0 + 1) (predM n (fun _ => -1)) by rw [hwm, hpb, predM_start]; exact ((IMap.made w2).alloc _).mono (by omega))
  have bc1 : wm.cell? ⟨bm, 0, none⟩ = some (.map (some mb)) := by rw [hwm, hbmm, hmb]; simp [go_sem]
  have hlt2 : mb < wm.heap.size ∧ pb < wm.heap.size ∧ bm < wm.heap.size ∧ mb ≠ pb ∧ bm ≠ mb ∧ bm ≠ pb ∧ w0.heap.size ≤ mb ∧ w0.heap.size ≤ pb := by omega
  simp only [← hwm]
  simp only [← hbmm]
  simp only [← hmb, ← hpb]
  have nc0 := cu_below hbm nc0 (by simp; omega)
  have nc1 := cu_below hbm nc1 (by simp; omega)
  have hc1 := cu_below hbm hc1 (by simp; omega)
  have kc0 := cu_below hbm kc0 (by simp; omega)
  have kc1 := cu_below hbm kc1 (by simp; omega)
  have d0 := cu_below hbm d0 (by simp; omega)
  have d1 := cu_below hbm d1 (by simp; omega)
  have d2 := cu_below hbm d2 (by simp; omega)
  have e0 := fu_below hbm e0 (by simp; omega)
  have e1 := fu_below hbm e1 (by simp; omega)
  have e2 := fu_below hbm e2 (by simp; omega)
  have hBw := hide (hB0.out.trans (hbm.mono (by have := hs0.out; omega)))
  have hzw : w.heap.size ≤ w0.heap.size := by have := hs0.out; omega
  have hzw2 : w0.heap.size ≤ wm.heap.size := by omega
  have hK0 := hide (show ∀ w', Keep (fun j => j = mb ∨ j = pb) wm w' → Below w.heap.size w w' from fun w' hk => hBw.out.trans (hk.toBelow (fun j hj => by rcases hj with h1 | h1 <;> omega) (by omega)))
  have hKm := hide (show ∀ w', Keep (fun j => j = mb ∨ j = pb) wm w' → Below w0.heap.size w0 w' from fun w' hk => hbm.trans (hk.toBelow (fun j hj => by rcases hj with h1 | h1 <;> omega) (by omega)))
  have hEm := hide (show ∀ w', Keep (fun j => j = mb ∨ j = pb) wm w' → Row encE 3 w' B a es from fun w' hk => hE0.out.below (hKm.out w' hk) (by omega))
  have hHm := hide (show ∀ w', Keep (fun j => j = mb ∨ j = pb) wm w' → Row encI 1 w' B ha (LI n h) from fun w' hk => hH0.out.below (hKm.out w' hk) (by omega))
  have hTm := hide (show ∀ w', Keep (fun j => j = mb ∨ j = pb) wm w' → Row encI 1 w' B ta (LI n taste) from fun w' hk => hTt0.out.below (hKm.out w' hk) (by omega))
  replace hwm := hide hwm
  replace hmb := hide hmb
  replace hpb := hide hpb
  replace hbmm := hide hbmm
  replace hzm := hide hzm
  clear hb2 hz2 hbm hM2 hg2 hM0 hE0 hH0 hTt0 hBw
  replace nc0 := hide nc0
  replace nc1 := hide nc1

  replace kc0 := hide kc0
  replace kc1 := hide kc1
  replace d0 := hide d0
  replace d1 := hide d1
  replace d2 := hide d2
  replace e0 := hide e0
  replace e1 := hide e1
  replace e2 := hide e2
  replace bc1 := hide bc1
  obtain ⟨b0, o0, rfl, hb0, f0⟩ := (hHm.out wm (Keep.refl _ _)).atI v hv
  obtain ⟨tb0, to0, rfl, htb0, _⟩ := (hTm.out wm (Keep.refl _ _)).atI v hv
  have hb0m : b0 < wm.heap.size := by omega
  have ht0m : tb0 < wm.heap.size := by omega
  have zg : w.heap.size < wm.heap.size := by omega
  have zh : bh < wm.heap.size := by omega
  have zk : bw < wm.heap.size := by omega
  have zf : bf < wm.heap.size := by omega
  have zm : bm < wm.heap.size := by omega
  obtain ⟨y0, hy0⟩ : ∃ y, y = h v := ⟨_, rfl⟩
  rw [← hy0] at f0
  by_cases hfar : y0 = 1099511627776
  · have hs00 : ∀ u, u < n → (fStart h v).wt u = false := fun u hu => by
      have hf : decide (h v ≠ FAR) = false := by simpa using (show h v = FAR by rw [← hy0, hfar]; rfl)
      show upz (fun _ => false) v (decide (h v ≠ FAR)) u = false
      rw [hf]
      by_cases huv : u = v
      · subst huv; exact upz_same _ _ _
      · rw [upz_other _ _ huv]
    subst hfar
    replace hs00 := hide hs00
    replace hy0 := hide hy0
    clear hMm hPm hEm hHm hTm
    go_wp2
    go_loopg [18, 19] 1 (fun gk s14 s15 wr => s14 = .slice none 0 0 ∧ Hid (Keep (fun j => j = mb ∨ j = pb) wm wr))
    case atStart => exact ⟨rfl, hide (Keep.new (up_alloc (Below.refl _ _) (Nat.le_refl _)))⟩
    case round =>
      obtain ⟨rfl, hkp⟩ := hrel
      have hfm : ¬ (bf = mb ∨ bf = pb) := by omega
      have r0 := hkp.out.cu d0.out hfm
      have r1 := hkp.out.cu d1.out hfm
      have r2 := hkp.out.cu d2.out hfm
      have g0 := (hkp.out.frozen (p := ⟨bf, 0, none⟩) (by simp; omega) hfm).trans e0.out
      have g1 := (hkp.out.frozen (p := ⟨bf, 1, none⟩) (by simp; omega) hfm).trans e1.out
      have g2 := (hkp.out.frozen (p := ⟨bf, 2, none⟩) (by simp; omega) hfm).trans e2.out
      have hbw2 := hide (hK0.out _ hkp.out)
      go_wp2
      refine bodyPost_ret (v := .tuple #[FoundNone, .int .i64 5]) (by simp [results, Try.results61, go_sem, FoundNone, r0, r1, r2, g0, g1, g2]) rfl ?_
      refine ⟨.none, .none _ hs00.out, ?_, rfl⟩
      exact ((hbw2.out.setCell (by simp; omega) _).setCell (by simp; omega) _).setCell (by simp; omega) _
  · have hne0 : h v ≠ FAR := by rw [← hy0]; exact hfar
    have hq0 : (y0 == 1099511627776) = false := by simpa using hfar
    obtain ⟨s0, hs0e⟩ : ∃ s0, s0 = fStart h v := ⟨_, rfl⟩
    have hok0 := hide (show FOk n v h s0 by rw [hs0e]; exact fok_start)
    have hwl0 := hide (show WF n s0 [v] by
      rw [hs0e]
      refine ⟨by simp, fun u => ?_⟩
      have hf : decide (h v ≠ FAR) = true := by simpa using hne0
      show u ∈ [v] ↔ u < n ∧ upz (fun _ => false) v (decide (h v ≠ FAR)) u = true
      rw [hf]
      simp only [List.mem_singleton]
      by_cases huv : u = v
      · subst huv; simp [upz_same, hv]
      · rw [upz_other _ _ huv]; simp [huv])
    have hord0 : s0.ord.length = 0 := by rw [hs0e]; rfl
    have hT0 := hide (show TX n mb pb 1 (.slice (some ⟨wm.heap.size, 0, none⟩) 1 1) (.slice none 0 0) [v] (toSR s0) wm (wm.alloc (.cells #[.int .i64 (v : Int)] 3)) by
      rw [hs0e]
      exact ⟨hMm.out.alloc _, hPm.out.alloc _, own_one wm wm.heap.size 3 (v : Int) (Nat.le_refl _), Own.nil _ _, fun j hj => by simp [Value.ownBlock] at hj, Keep.new (up_alloc (Below.refl _ _) (Nat.le_refl _)), by omega⟩)
    have hrun0 := hide (show ∀ o, FRun (nes es) h taste ⟨ra, rb⟩ n tg st s0 o → FRun (nes es) h taste ⟨ra, rb⟩ n tg st s0 o from fun o h => h)
    replace hs0e := hide hs0e
    replace hy0 := hide hy0
    clear hMm hPm hfar hne0
    go_wp2
    go_loopg [18, 19] (st + 1) (fun gk s14 s15 wr => ∃ (s : FR) (ws : List Nat) (aw ao : Option Addr) (cw co W K k : Nat), s14 = .slice aw W cw ∧ s15 = .slice ao K co ∧ Hid (W = ws.length) ∧ Hid (K = s.ord.length) ∧ Hid (TX n mb pb k (.slice aw W cw) (.slice ao K co) ws (toSR s) wm wr) ∧ Hid (WF n s ws) ∧ Hid (FOk n v h s) ∧ Hid (∀ o, FRun (nes es) h taste ⟨ra, rb⟩ n tg st s o → FRun (nes es) h taste ⟨ra, rb⟩ n tg st s0 o) ∧ K + gk = st + 1 ∧ K ≤ st ∧ k ≤ 1 + 600 * K)
    case atStart => exact ⟨s0, [v], _, _, _, _, 1, 0, 1, rfl, rfl, hide rfl, hide hord0.symm, hT0, hwl0, hok0, hrun0, by omega, by omega, by omega⟩
    case round =>
      clear hT0 hwl0 hok0 hrun0 f0
      obtain ⟨s, ws, aw, ao, cw, co, W, K, k, rfl, rfl, hW, hK, hT, hwl, hsok, hrun, hKg, hKle, hkK⟩ := hrel
      obtain ⟨wo, rfl⟩ : ∃ wo : World, wo = wr := ⟨_, rfl⟩
      have hkp := hide hT.out.keep
      have hfm : ¬ (bf = mb ∨ bf = pb) := by omega
      by_cases hW0 : W = 0
      · subst hW0
        have hws : ws = [] := List.eq_nil_of_length_eq_zero hW.out.symm
        have hnw := hide (show ∀ u, u < n → s.wt u = false from fun u hu => by
          cases hb : s.wt u with
          | false => rfl
          | true => have := (hwl.out.iff u).2 ⟨hu, hb⟩; rw [hws] at this; cases this)
        have r0 := hkp.out.cu d0.out hfm
        have r1 := hkp.out.cu d1.out hfm
        have r2 := hkp.out.cu d2.out hfm
        have g0 := (hkp.out.frozen (p := ⟨bf, 0, none⟩) (by simp; omega) hfm).trans e0.out
        have g1 := (hkp.out.frozen (p := ⟨bf, 1, none⟩) (by simp; omega) hfm).trans e1.out
        have g2 := (hkp.out.frozen (p := ⟨bf, 2, none⟩) (by simp; omega) hfm).trans e2.out
        have hbw2 := hide (hK0.out _ hkp.out)
        replace hws := hide hws
        go_wp2
        refine bodyPost_ret (v := .tuple #[FoundNone, .int .i64 5]) (by simp [results, Try.results61, go_sem, FoundNone, r0, r1, r2, g0, g1, g2]) rfl ?_
        rw [← hs0e.out]
        refine ⟨.none, hrun.out _ (.none s hnw.out), ?_, rfl⟩
        exact ((hbw2.out.setCell (by simp; omega) _).setCell (by simp; omega) _).setCell (by simp; omega) _
      · have hWn : W ≤ n := by have := wf_len hwl.out; have := hW.out; omega
        have hwp : (0 : Int) < (W : Int) := by omega
        obtain ⟨g, rfl, hg1, hg2⟩ := hT.out.wt.blockI' (by omega)
        have hcw := hide (fun (j : Nat) (hj : j < ws.length) => (show wo.cell? ⟨g, j, none⟩ = some (.int .i64 ((ws[j] : Nat) : Int)) by
          have := hT.out.wt.getI j (by rw [lp_len]; exact hj)
          simpa [LP] using this))
        have x1 := hT.out.cu hc1 (by simp; omega) (by simp; omega)
        have x3 := hT.out.cu bc1.out (by simp; omega) (by simp; omega)
        have hzo : wm.heap.size ≤ wo.heap.size := hT.out.keep.size
        have hKn : K ≤ 100000 := by omega
        have hgo : g < wo.heap.size := hg2
        obtain ⟨fS, hfS⟩ : ∃ f, f = fsum h s := ⟨_, rfl⟩
        have hSm := hide (fun (x : Nat) (w' : World) (hb : Below wo.heap.size wo w') (hx : x ∈ ws) => (show Calls Try.prog 134 #[.int .i64 (x : Int), .pointer (some ⟨bm, 0, none⟩), .pointer (some ⟨bh, 0, none⟩)] w' (fun e w'' => e = .returned (.int .i64 (fS x)) ∧ ∃ k, w'' = w'.drewN k) by
          have hx2 := (hwl.out.iff x).1 hx
          have hx3 := (hsok.out.wt x hx2.2).1
          have hx4 := fok_bound hsok.out (K := K) (by have := hK.out; omega) x hx3
          rw [hfS]
          exact foc1_any bm bh mb k n hc B x _ s.cost h w' ⟨cu_below hb x3 (cell_lt x3), cu_below hb x1 (cell_lt x1), hT.out.cm.stays hb, (hHm.out _ hT.out.keep).below hb (by omega)⟩ hn hx2.1 hx3 (by omega) (hh.out x hx2.1)))
        have hfb := hide (fun (x : Nat) (hx : x ∈ ws) => (show 0 ≤ fS x ∧ fS x ≤ 2199023255552 by
          have hx2 := (hwl.out.iff x).1 hx
          have hx3 := (hsok.out.wt x hx2.2).1
          have hx4 := fok_bound hsok.out (K := K) (by have := hK.out; omega) x hx3
          have hx5 := hh.out x hx2.1
          rw [hfS]
          unfold fsum
          omega))
        have hW0' : 0 < ws.length := by have := hW.out; omega
        have f1 := hcw.out 0 hW0'
        obtain ⟨v0, hv0⟩ : ∃ v0, v0 = ws[0] := ⟨_, rfl⟩
        have hv0m : v0 ∈ ws := by rw [hv0]; exact List.getElem_mem _
        rw [← hv0] at f1
        replace hv0 := hide hv0
        have hl0 := hide (show leastR fS (ws.take 0) (fS v0) = fS v0 from rfl)
        replace hfS := hide hfS
        replace hv0m := hide hv0m
        clear x1 x3
        go_wp2_with fail
        refine (hSm.out v0 _ (by exact (by repeat (first | with_reducible exact Below.refl _ _ | with_reducible assumption | with_reducible refine up_drewN ?_ | with_reducible refine up_drew ?_ | (with_reducible refine up_alloc ?_ ?_; rotate_left; (first | omega | (simp <;> omega) | simp)) | (with_reducible refine up_set ?_ ?_; rotate_left; (first | omega | (simp <;> omega) | simp)) | (with_reducible refine Below.trans ?_ (Below.mono (by with_reducible assumption) ?_); rotate_left; (first | omega | (simp <;> omega) | simp))))) hv0m.out).mono ?_
        rintro e w1 ⟨rfl, q1, rfl⟩
        clear f1
        go_wp2
        go_loopw [21, 54] (fun s21 i wr => ∃ (j : Nat) (m : Int), j ≤ W ∧ i = .int .i64 (j : Int) ∧ s21 = .int .i64 m ∧ Hid (leastR fS (ws.take j) (fS v0) = m) ∧ Hid (∃ q, wr = wo.drewN q)) (fun _ i _ => W - (intOf i).toNat)
        case atStart => exact ⟨0, fS v0, Nat.zero_le _, rfl, rfl, hl0, hide ⟨q1, rfl⟩⟩
        case round =>
          clear hl0
          obtain ⟨j, m, hj, rfl, rfl, hfo, hwq⟩ := hrel
          have hbx : Below wo.heap.size wo wr := by obtain ⟨q, rfl⟩ := hwq.out; exact up_drewN (Below.refl _ _)
          have hnext : Hid (∀ k, ∃ q, wr.drewN k = wo.drewN q) := hide (by obtain ⟨q, rfl⟩ := hwq.out; exact fun k => ⟨q + k, by rw [World.drewN_drewN]⟩)
          have hzz : wo.heap.size ≤ wr.heap.size := hbx.size
          have hgr : g < wr.heap.size := by omega
          by_cases hlt : j < W
          · as_aux_lemma =>
            have hjl : j < ws.length := by have := hW.out; omega
            have f2 := cu_below hbx (hcw.out j hjl) (by simp; omega)
            have htk := leastR_take (f := fS) (m := fS v0) hjl
            obtain ⟨x, hx⟩ : ∃ x, x = ws[j] := ⟨_, rfl⟩
            have hxm := hide (show x ∈ ws by rw [hx]; exact List.getElem_mem _)
            rw [hfo.out, ← hx] at htk
            rw [← hx] at f2
            replace hx := hide hx
            have ij : (0 : Int) ≤ (j : Int) ∧ (j : Int) < (W : Int) := by omega
            have hCx := hide (fun w' (hb : Below wr.heap.size wr w') => hSm.out x w' (hbx.trans (hb.mono hzz)) hxm.out)
            obtain ⟨y, hy⟩ : ∃ y, y = fS x := ⟨_, rfl⟩
            rw [← hy] at hCx htk
            replace hy := hide hy
            replace hbx := hide hbx
            rcases Int.lt_or_le y m with hmin | hmin
            · rw [show min m y = y by omega] at htk
              replace htk := hide htk
              go_wp2_with fail
              refine (hCx.out _ (by exact (by repeat (first | with_reducible exact Below.refl _ _ | with_reducible assumption | with_reducible refine up_drewN ?_ | with_reducible refine up_drew ?_ | (with_reducible refine up_alloc ?_ ?_; rotate_left; (first | omega | (simp <;> omega) | simp)) | (with_reducible refine up_set ?_ ?_; rotate_left; (first | omega | (simp <;> omega) | simp)) | (with_reducible refine Below.trans ?_ (Below.mono (by with_reducible assumption) ?_); rotate_left; (first | omega | (simp <;> omega) | simp)))))).mono ?_
              rintro e w2' ⟨rfl, q2, rfl⟩
              go_wp2
              go_roundw
              case rel => exact ⟨j + 1, y, by omega, by go_num, rfl, htk, hide (hnext.out q2)⟩
              case measure => simp [intOf]; omega
            · rw [show min m y = m by omega] at htk
              replace htk := hide htk
              go_wp2_with fail
              refine (hCx.out _ (by exact (by repeat (first | with_reducible exact Below.refl _ _ | with_reducible assumption | with_reducible refine up_drewN ?_ | with_reducible refine up_drew ?_ | (with_reducible refine up_alloc ?_ ?_; rotate_left; (first | omega | (simp <;> omega) | simp)) | (with_reducible refine up_set ?_ ?_; rotate_left; (first | omega | (simp <;> omega) | simp)) | (with_reducible refine Below.trans ?_ (Below.mono (by with_reducible assumption) ?_); rotate_left; (first | omega | (simp <;> omega) | simp)))))).mono ?_
              rintro e w2' ⟨rfl, q2, rfl⟩
              go_wp2
              go_roundw
              case rel => exact ⟨j + 1, m, by omega, by go_num, rfl, htk, hide (hnext.out q2)⟩
              case measure => simp [intOf]; omega
          · obtain rfl : W = j := by omega
            have hlm : Least h n s m := by
              have h1 := wf_least (h := h) hwl.out hv0m.out
              have h2 := hfo.out
              rw [List.take_of_length_le (by rw [hW.out]; exact Nat.le_refl _), hfS.out] at h2
              rw [← h2]; exact h1
            have hm0 : 0 ≤ m ∧ m ≤ 2199023255552 := by
              obtain ⟨⟨z, z1, z2, z3⟩, _⟩ := hlm
              have := hfb.out z ((hwl.out.iff z).2 ⟨z1, z2⟩)
              rw [hfS.out, z3] at this
              exact this
            obtain ⟨adm, hadm⟩ : ∃ adm : Nat → Bool, adm = fun z => decide (rb * fS z ≤ ra * m) := ⟨_, rfl⟩
            have hpk := hide (pick_is (taste := taste) (r := ⟨ra, rb⟩) ⟨hr.1, hr.2.1⟩ hlm hm0.1 adm ws (fun z => by
              rw [hadm, hfS.out]
              simp only [decide_eq_true_eq, Adm, hwl.out.iff z]
              exact and_assoc))
            have hps := hide (show ∀ b z, pstep (tpl taste h s) adm b z = if decide (rb * fS z ≤ ra * m) = true ∧ (b < 0 ∨ plLt (tpl taste h s z) (tpl taste h s b.toNat) = true) then (z : Int) else b from fun b z => by unfold pstep; rw [hadm])
            have hplt := hide (show ∀ x z : Nat, plLt (tpl taste h s x) (tpl taste h s z) = decide (taste x < taste z ∨ (taste x = taste z ∧ (fS x < fS z ∨ (fS x = fS z ∧ (x : Int) < (z : Int))))) from fun x z => by rw [hfS.out]; rfl)
            have hstp := hide (show ∀ (j : Nat) (hj : j < ws.length), pickF (tpl taste h s) adm (ws.take (j + 1)) = pstep (tpl taste h s) adm (pickF (tpl taste h s) adm (ws.take j)) ws[j] from fun j hj => by unfold pickF; rw [List.take_succ_eq_append_getElem hj, List.foldl_append]; rfl)
            have hpk0 := hide (show pickF (tpl taste h s) adm (ws.take 0) = -1 from rfl)
            have q2 : 0 ≤ ra * m ∧ ra * m ≤ 2199023255552000000 := ⟨Int.mul_nonneg (by omega) hm0.1, by
              have : ra * m ≤ 1000000 * 2199023255552 := Int.mul_le_mul hr.2.2 hm0.2 hm0.1 (by omega)
              omega⟩
            have w2 : IntKind.i64.wrap (ra * m) = ra * m := IntWalk.i64_in _ (by omega)
            obtain ⟨pl, hpl⟩ : ∃ pl, pl = tpl taste h s := ⟨_, rfl⟩
            rw [← hpl] at hpk hps hplt hstp hpk0
            replace hadm := hide hadm
            replace hpl := hide hpl
            replace hlm := hide hlm
            have hT5 := hide (hT.out.stays hbx)
            have hab := hide (fun j hj => (hT5.out.wt.block_lt j hj).2)
            have hob := hide (fun j hj => (hT5.out.od.block_lt j hj).2)
            have hSm5 := hide (fun (x : Nat) (w' : World) (hb : Below wr.heap.size wr w') (hx : x ∈ ws) => hSm.out x w' (hbx.trans (hb.mono hzz)) hx)
            have hcw5 := hide (fun (j : Nat) (hj : j < ws.length) => cu_below hbx (hcw.out j hj) (by simp; omega))
            obtain ⟨w5, rfl⟩ : ∃ w5 : World, w5 = wr := ⟨_, rfl⟩
            have hz5' : wm.heap.size ≤ w5.heap.size := by omega
            have y4 := hT5.out.cu kc0.out (by simp; omega) (by simp; omega)
            have y5 := hT5.out.cu kc1.out (by simp; omega) (by simp; omega)
            clear hwq hnext hfo hbx hT hcw hSm hkp
            go_wp2
            go_loopw [66] (fun i wr => ∃ (j : Nat) (b : Int), j ≤ W ∧ i = .int .i64 (j : Int) ∧ Hid (pickF pl adm (ws.take j) = b) ∧ Hid (b = -1 ∨ ∃ u : Nat, b = (u : Int) ∧ u ∈ ws) ∧ wr.cell? ⟨w5.heap.size, 0, none⟩ = some (.int .i64 b) ∧ wr.frozen? ⟨w5.heap.size, 0, none⟩ = false ∧ Hid (Below w5.heap.size w5 wr)) (fun i _ => W - (intOf i).toNat)
            case atStart => exact ⟨0, -1, Nat.zero_le _, rfl, hpk0, hide (.inl rfl), by simp [go_sem], by simp [go_sem], hide ((Below.refl _ _).alloc (Nat.le_refl _) _)⟩
            case round =>
              clear hpk0
              obtain ⟨j, b, hj, rfl, hfo2, hbb, xc, xf, hbx⟩ := hrel
              have zb5 := cell_lt xc
              simp only at zb5
              by_cases hlt : j < W
              · as_aux_lemma =>
                have hjl : j < ws.length := by have := hW.out; omega
                have f2 := cu_below hbx.out (hcw5.out j hjl) (by simp; omega)
                have hs2 := hstp.out j hjl
                rw [hfo2.out] at hs2
                obtain ⟨x, hx⟩ : ∃ x, x = ws[j] := ⟨_, rfl⟩
                have hxm : x ∈ ws := by rw [hx]; exact List.getElem_mem _
                rw [← hx] at f2 hs2
                rw [hps.out b x] at hs2
                replace hx := hide hx
                have hxn : x < n := ((hwl.out.iff x).1 hxm).1
                have ij : (0 : Int) ≤ (j : Int) ∧ (j : Int) < (W : Int) := by omega
                have ix : (0 : Int) ≤ (x : Int) ∧ (x : Int) < (n : Int) := by omega
                have y4 := cu_below hbx.out y4 (by simp; omega)
                have y5 := cu_below hbx.out y5 (by simp; omega)
                have t1 : w5.cell? ⟨tb0, to0 + x, none⟩ = some (.int .i64 (taste x)) := by
                  obtain ⟨b1, o1, he1, _, h1⟩ := (hTm.out _ hT5.out.keep).atI x hxn
                  simp only [Option.some.injEq, Addr.mk.injEq] at he1
                  obtain ⟨rfl, rfl, -⟩ := he1
                  exact h1
                have t1 := cu_below hbx.out t1 (by simp; omega)
                have hC := hide (show ∀ (z : Nat) (w' : World), Below wr.heap.size wr w' → z ∈ ws → Calls Try.prog 134 #[.int .i64 (z : Int), .pointer (some ⟨bm, 0, none⟩), .pointer (some ⟨bh, 0, none⟩)] w' (fun e w'' => e = .returned (.int .i64 (fS z)) ∧ ∃ k, w'' = w'.drewN k) from fun z w' hb hz => hSm5.out z w' (hbx.out.trans (hb.mono hbx.out.size)) hz)
                have hyb := hfb.out x hxm
                have q3 : 0 ≤ rb * fS x ∧ rb * fS x ≤ 2199023255552000000 := ⟨Int.mul_nonneg (by omega) hyb.1, by
                  have : rb * fS x ≤ 1000000 * 2199023255552 := Int.mul_le_mul (by omega) hyb.2 hyb.1 (by omega)
                  omega⟩
                have w3 : IntKind.i64.wrap (rb * fS x) = rb * fS x := IntWalk.i64_in _ (by omega)
                have hbxo := hbx.out
                have htb5 : tb0 < wr.heap.size := by omega
                have hbw5 : bw < wr.heap.size := by omega
                have hgr5 : g < wr.heap.size := by omega
                clear y4 y5 hyb
                have y4 := cu_below hbxo (hT5.out.cu kc0.out (by simp; omega) (by simp; omega)) (by simp; omega)
                have y5 := cu_below hbxo (hT5.out.cu kc1.out (by simp; omega) (by simp; omega)) (by simp; omega)
                by_cases had : rb * fS x ≤ ra * m
                · as_aux_lemma =>
                  have had3 : (ra * m < rb * fS x) = False := eq_false (by omega)
                  replace had := hide had
                  go_wp2
                  (refine wp_region_quiet_hid (by kernel_rfl) (by kernel_rfl) (fun wq hst hni => ?_); (repeat (refine hst.out _ _ _ _ (fun K hK => ?_); go_simp; first | (refine hK.out _ ?_; clear hK K) | (apply Exists.intro; refine ⟨fun _ => ?_, hK.out _ ?_⟩; (go_at_call 134; exact Calls.quiet_of (hC.out _ _ (by repeat (first | exact Below.refl _ _ | refine up_drewN ?_)) (by assumption))); clear hK K))); refine hni.out _ _ ?_; clear hst hni wq; intro wqq hw'; obtain ⟨nq, hw''⟩ := hw'; subst hw'')
                  go_wp2
                  have hb8 : Below wr.heap.size wr (wr.drewN nq) := up_drewN (Below.refl _ _)
                  have xc := cu_below hb8 xc zb5
                  have xf := fu_below hb8 xf zb5
                  have t1 := cu_below hb8 t1 htb5
                  have hbxo := hbxo.trans (hb8.mono hbx.out.size)
                  have hC := hide (show ∀ (z : Nat) (w' : World), Below (wr.drewN nq).heap.size (wr.drewN nq) w' → z ∈ ws → Calls Try.prog 134 #[.int .i64 (z : Int), .pointer (some ⟨bm, 0, none⟩), .pointer (some ⟨bh, 0, none⟩)] w' (fun e w'' => e = .returned (.int .i64 (fS z)) ∧ ∃ k, w'' = w'.drewN k) from fun z w' hb hz => hC.out z w' (hb8.trans hb) hz)
                  have htb5 : tb0 < (wr.drewN nq).heap.size := htb5
                  have zb5 : w5.heap.size < (wr.drewN nq).heap.size := zb5
                  clear f2 y4 y5 q2 q3 w2 w3 had3 hb8 hbx hgr5 hbw5 hSm5 hcw5
                  generalize wr.drewN nq = w8 at xc xf t1 hbxo hC htb5 zb5 ⊢
                  by_cases hneg : b < 0
                  · as_aux_lemma =>
                    have hnew := hide (show pickF pl adm (ws.take (j + 1)) = (x : Int) by rw [hs2, if_pos ⟨by simpa using had.out, .inl hneg⟩])
                    clear hs2 hfo2 hbb
                    (refine wp_region_quiet_hid (by kernel_rfl) (by kernel_rfl) (fun wq hst hni => ?_); (repeat (refine hst.out _ _ _ _ (fun K hK => ?_); go_simp; first | (refine hK.out _ ?_; clear hK K) | (apply Exists.intro; refine ⟨fun _ => ?_, hK.out _ ?_⟩; (fail); clear hK K))); refine hni.out _ _ ?_; clear hst hni wq; intro wqq hw'; obtain ⟨nq, hw''⟩ := hw'; subst hw'')
                    go_wp2
                    go_roundw
                    case rel => exact ⟨j + 1, (x : Int), by omega, by go_num, hnew, hide (.inr ⟨x, rfl, hxm⟩), World.cell?_setCell_same _ _ _ (cu_drewN xc), fu_set (fu_drewN xf), hide (by exact (by repeat (first | with_reducible exact Below.refl _ _ | with_reducible assumption | with_reducible refine up_drewN ?_ | with_reducible refine up_drew ?_ | (with_reducible refine up_alloc ?_ ?_; rotate_left; (first | omega | (simp <;> omega) | simp)) | (with_reducible refine up_set ?_ ?_; rotate_left; (first | omega | (simp <;> omega) | simp)) | (with_reducible refine Below.trans ?_ (Below.mono (by with_reducible assumption) ?_); rotate_left; (first | omega | (simp <;> omega) | simp)))))⟩
                    case measure => simp [intOf]; omega
                  · obtain ⟨u, rfl, hum⟩ : ∃ u : Nat, b = (u : Int) ∧ u ∈ ws := by rcases hbb.out with h1 | h1; omega; exact h1
                    have hun : u < n := ((hwl.out.iff u).1 hum).1
                    have iu : (0 : Int) ≤ (u : Int) ∧ (u : Int) < (n : Int) := by omega
                    have t2 : w5.cell? ⟨tb0, to0 + u, none⟩ = some (.int .i64 (taste u)) := by
                      obtain ⟨b1, o1, he1, _, h1⟩ := (hTm.out _ hT5.out.keep).atI u hun
                      simp only [Option.some.injEq, Addr.mk.injEq] at he1
                      obtain ⟨rfl, rfl, -⟩ := he1
                      exact h1
                    have t2 := cu_below hbxo t2 (by simp; omega)
                    have hu0 : ((u : Nat) : Int).toNat = u := by simp
                    rw [hu0, hplt.out x u] at hs2
                    have hnn : ((u : Int) < 0) = False := by simp
                    obtain ⟨p1, hp1⟩ : ∃ y, y = taste x := ⟨_, rfl⟩
                    obtain ⟨p2, hp2⟩ : ∃ y, y = taste u := ⟨_, rfl⟩
                    rw [← hp1] at t1 hs2
                    rw [← hp2] at t2 hs2
                    have hyes := hide (fun (hc : p1 < p2 ∨ (p1 = p2 ∧ (fS x < fS u ∨ (fS x = fS u ∧ (x : Int) < (u : Int))))) => (show pickF pl adm (ws.take (j + 1)) = (x : Int) by rw [hs2, if_pos ⟨by simpa using had.out, .inr (by simpa using hc)⟩]))
                    have hno := hide (fun (hc : ¬ (p1 < p2 ∨ (p1 = p2 ∧ (fS x < fS u ∨ (fS x = fS u ∧ (x : Int) < (u : Int)))))) => (show pickF pl adm (ws.take (j + 1)) = (u : Int) by rw [hs2, if_neg (by rintro ⟨_, h1 | h1⟩; omega; exact hc (by simpa using h1))]))
                    replace hp1 := hide hp1
                    replace hp2 := hide hp2
                    clear hs2 hfo2 hbb hu0 hneg
                    by_cases h1 : p1 < p2
                    · as_aux_lemma =>
                      have hnew := hide (hyes.out (.inl h1))
                      (refine wp_region_quiet_hid (by kernel_rfl) (by kernel_rfl) (fun wq hst hni => ?_); (repeat (refine hst.out _ _ _ _ (fun K hK => ?_); go_simp; first | (refine hK.out _ ?_; clear hK K) | (apply Exists.intro; refine ⟨fun _ => ?_, hK.out _ ?_⟩; (go_at_call 134; exact Calls.quiet_of (hC.out _ _ (by repeat (first | exact Below.refl _ _ | refine up_drewN ?_)) (by assumption))); clear hK K))); refine hni.out _ _ ?_; clear hst hni wq; intro wqq hw'; obtain ⟨nq, hw''⟩ := hw'; subst hw'')
                      go_wp2
                      go_roundw
                      case rel => exact ⟨j + 1, (x : Int), by omega, by go_num, hnew, hide (.inr ⟨x, rfl, hxm⟩), World.cell?_setCell_same _ _ _ (cu_drewN xc), fu_set (fu_drewN xf), hide (by exact (by repeat (first | with_reducible exact Below.refl _ _ | with_reducible assumption | with_reducible refine up_drewN ?_ | with_reducible refine up_drew ?_ | (with_reducible refine up_alloc ?_ ?_; rotate_left; (first | omega | (simp <;> omega) | simp)) | (with_reducible refine up_set ?_ ?_; rotate_left; (first | omega | (simp <;> omega) | simp)) | (with_reducible refine Below.trans ?_ (Below.mono (by with_reducible assumption) ?_); rotate_left; (first | omega | (simp <;> omega) | simp)))))⟩
                      case measure => simp [intOf]; omega
                    · by_cases h2 : p1 = p2
                      · have e2' : (p1 == p2) = true := by simpa using h2
                        have h1' : (p1 < p2) = False := eq_false h1
                        replace h2 := hide h2
                        by_cases h3 : fS x < fS u
                        · as_aux_lemma =>
                          have hnew := hide (hyes.out (.inr ⟨h2.out, .inl h3⟩))
                          (refine wp_region_quiet_hid (by kernel_rfl) (by kernel_rfl) (fun wq hst hni => ?_); (repeat (refine hst.out _ _ _ _ (fun K hK => ?_); go_simp; first | (refine hK.out _ ?_; clear hK K) | (apply Exists.intro; refine ⟨fun _ => ?_, hK.out _ ?_⟩; (go_at_call 134; exact Calls.quiet_of (hC.out _ _ (by repeat (first | exact Below.refl _ _ | refine up_drewN ?_)) (by assumption))); clear hK K))); refine hni.out _ _ ?_; clear hst hni wq; intro wqq hw'; obtain ⟨nq, hw''⟩ := hw'; subst hw'')
                          go_wp2
                          go_roundw
                          case rel => exact ⟨j + 1, (x : Int), by omega, by go_num, hnew, hide (.inr ⟨x, rfl, hxm⟩), World.cell?_setCell_same _ _ _ (cu_drewN xc), fu_set (fu_drewN xf), hide (by exact (by repeat (first | with_reducible exact Below.refl _ _ | with_reducible assumption | with_reducible refine up_drewN ?_ | with_reducible refine up_drew ?_ | (with_reducible refine up_alloc ?_ ?_; rotate_left; (first | omega | (simp <;> omega) | simp)) | (with_reducible refine up_set ?_ ?_; rotate_left; (first | omega | (simp <;> omega) | simp)) | (with_reducible refine Below.trans ?_ (Below.mono (by with_reducible assumption) ?_); rotate_left; (first | omega | (simp <;> omega) | simp)))))⟩
                          case measure => simp [intOf]; omega
                        · by_cases h4 : fS x = fS u
                          · have e4' : (fS x == fS u) = true := by simpa using h4
                            replace h4 := hide h4
                            by_cases h5 : (x : Int) < (u : Int)
                            · as_aux_lemma =>
                              have hnew := hide (hyes.out (.inr ⟨h2.out, .inr ⟨h4.out, h5⟩⟩))
                              (refine wp_region_quiet_hid (by kernel_rfl) (by kernel_rfl) (fun wq hst hni => ?_); (repeat (refine hst.out _ _ _ _ (fun K hK => ?_); go_simp; first | (refine hK.out _ ?_; clear hK K) | (apply Exists.intro; refine ⟨fun _ => ?_, hK.out _ ?_⟩; (go_at_call 134; exact Calls.quiet_of (hC.out _ _ (by repeat (first | exact Below.refl _ _ | refine up_drewN ?_)) (by assumption))); clear hK K))); refine hni.out _ _ ?_; clear hst hni wq; intro wqq hw'; obtain ⟨nq, hw''⟩ := hw'; subst hw'')
                              go_wp2
                              go_roundw
                              case rel => exact ⟨j + 1, (x : Int), by omega, by go_num, hnew, hide (.inr ⟨x, rfl, hxm⟩), World.cell?_setCell_same _ _ _ (cu_drewN xc), fu_set (fu_drewN xf), hide (by exact (by repeat (first | with_reducible exact Below.refl _ _ | with_reducible assumption | with_reducible refine up_drewN ?_ | with_reducible refine up_drew ?_ | (with_reducible refine up_alloc ?_ ?_; rotate_left; (first | omega | (simp <;> omega) | simp)) | (with_reducible refine up_set ?_ ?_; rotate_left; (first | omega | (simp <;> omega) | simp)) | (with_reducible refine Below.trans ?_ (Below.mono (by with_reducible assumption) ?_); rotate_left; (first | omega | (simp <;> omega) | simp)))))⟩
                              case measure => simp [intOf]; omega
                            · as_aux_lemma =>
                              have hnew := hide (hno.out (by omega))
                              (refine wp_region_quiet_hid (by kernel_rfl) (by kernel_rfl) (fun wq hst hni => ?_); (repeat (refine hst.out _ _ _ _ (fun K hK => ?_); go_simp; first | (refine hK.out _ ?_; clear hK K) | (apply Exists.intro; refine ⟨fun _ => ?_, hK.out _ ?_⟩; (go_at_call 134; exact Calls.quiet_of (hC.out _ _ (by repeat (first | exact Below.refl _ _ | refine up_drewN ?_)) (by assumption))); clear hK K))); refine hni.out _ _ ?_; clear hst hni wq; intro wqq hw'; obtain ⟨nq, hw''⟩ := hw'; subst hw'')
                              go_wp2
                              go_roundw
                              case rel => exact ⟨j + 1, (u : Int), by omega, by go_num, hnew, hide (.inr ⟨u, rfl, hum⟩), cu_drewN xc, fu_drewN xf, hide (by exact (by repeat (first | with_reducible exact Below.refl _ _ | with_reducible assumption | with_reducible refine up_drewN ?_ | with_reducible refine up_drew ?_ | (with_reducible refine up_alloc ?_ ?_; rotate_left; (first | omega | (simp <;> omega) | simp)) | (with_reducible refine up_set ?_ ?_; rotate_left; (first | omega | (simp <;> omega) | simp)) | (with_reducible refine Below.trans ?_ (Below.mono (by with_reducible assumption) ?_); rotate_left; (first | omega | (simp <;> omega) | simp)))))⟩
                              case measure => simp [intOf]; omega
                          · as_aux_lemma =>
                            have e4' : (fS x == fS u) = false := by simpa using h4
                            have hnew := hide (hno.out (by omega))
                            replace h4 := hide h4
                            (refine wp_region_quiet_hid (by kernel_rfl) (by kernel_rfl) (fun wq hst hni => ?_); (repeat (refine hst.out _ _ _ _ (fun K hK => ?_); go_simp; first | (refine hK.out _ ?_; clear hK K) | (apply Exists.intro; refine ⟨fun _ => ?_, hK.out _ ?_⟩; (go_at_call 134; exact Calls.quiet_of (hC.out _ _ (by repeat (first | exact Below.refl _ _ | refine up_drewN ?_)) (by assumption))); clear hK K))); refine hni.out _ _ ?_; clear hst hni wq; intro wqq hw'; obtain ⟨nq, hw''⟩ := hw'; subst hw'')
                            go_wp2
                            go_roundw
                            case rel => exact ⟨j + 1, (u : Int), by omega, by go_num, hnew, hide (.inr ⟨u, rfl, hum⟩), cu_drewN xc, fu_drewN xf, hide (by exact (by repeat (first | with_reducible exact Below.refl _ _ | with_reducible assumption | with_reducible refine up_drewN ?_ | with_reducible refine up_drew ?_ | (with_reducible refine up_alloc ?_ ?_; rotate_left; (first | omega | (simp <;> omega) | simp)) | (with_reducible refine up_set ?_ ?_; rotate_left; (first | omega | (simp <;> omega) | simp)) | (with_reducible refine Below.trans ?_ (Below.mono (by with_reducible assumption) ?_); rotate_left; (first | omega | (simp <;> omega) | simp)))))⟩
                            case measure => simp [intOf]; omega
                      · as_aux_lemma =>
                        have e2' : (p1 == p2) = false := by simpa using h2
                        have h1' : (p1 < p2) = False := eq_false h1
                        have hnew := hide (hno.out (by omega))
                        replace h2 := hide h2
                        (refine wp_region_quiet_hid (by kernel_rfl) (by kernel_rfl) (fun wq hst hni => ?_); (repeat (refine hst.out _ _ _ _ (fun K hK => ?_); go_simp; first | (refine hK.out _ ?_; clear hK K) | (apply Exists.intro; refine ⟨fun _ => ?_, hK.out _ ?_⟩; (fail); clear hK K))); refine hni.out _ _ ?_; clear hst hni wq; intro wqq hw'; obtain ⟨nq, hw''⟩ := hw'; subst hw'')
                        go_wp2
                        go_roundw
                        case rel => exact ⟨j + 1, (u : Int), by omega, by go_num, hnew, hide (.inr ⟨u, rfl, hum⟩), cu_drewN xc, fu_drewN xf, hide (by exact (by repeat (first | with_reducible exact Below.refl _ _ | with_reducible assumption | with_reducible refine up_drewN ?_ | with_reducible refine up_drew ?_ | (with_reducible refine up_alloc ?_ ?_; rotate_left; (first | omega | (simp <;> omega) | simp)) | (with_reducible refine up_set ?_ ?_; rotate_left; (first | omega | (simp <;> omega) | simp)) | (with_reducible refine Below.trans ?_ (Below.mono (by with_reducible assumption) ?_); rotate_left; (first | omega | (simp <;> omega) | simp)))))⟩
                        case measure => simp [intOf]; omega
                · as_aux_lemma =>
                  have had3 : (ra * m < rb * fS x) = True := eq_true (by omega)
                  have hnew := hide (show pickF pl adm (ws.take (j + 1)) = b by rw [hs2, if_neg (fun x => had (by simpa using x.1))])
                  clear hs2 hfo2
                  replace had := hide had
                  go_wp2
                  (refine wp_region_quiet_hid (by kernel_rfl) (by kernel_rfl) (fun wq hst hni => ?_); (repeat (refine hst.out _ _ _ _ (fun K hK => ?_); go_simp; first | (refine hK.out _ ?_; clear hK K) | (apply Exists.intro; refine ⟨fun _ => ?_, hK.out _ ?_⟩; (go_at_call 134; exact Calls.quiet_of (hC.out _ _ (by repeat (first | exact Below.refl _ _ | refine up_drewN ?_)) (by assumption))); clear hK K))); refine hni.out _ _ ?_; clear hst hni wq; intro wqq hw'; obtain ⟨nq, hw''⟩ := hw'; subst hw'')
                  go_wp2
                  go_roundw
                  case rel => exact ⟨j + 1, b, by omega, by go_num, hnew, hbb, cu_drewN xc, fu_drewN xf, hide (by exact (by repeat (first | with_reducible exact Below.refl _ _ | with_reducible assumption | with_reducible refine up_drewN ?_ | with_reducible refine up_drew ?_ | (with_reducible refine up_alloc ?_ ?_; rotate_left; (first | omega | (simp <;> omega) | simp)) | (with_reducible refine up_set ?_ ?_; rotate_left; (first | omega | (simp <;> omega) | simp)) | (with_reducible refine Below.trans ?_ (Below.mono (by with_reducible assumption) ?_); rotate_left; (first | omega | (simp <;> omega) | simp)))))⟩
                  case measure => simp [intOf]; omega
              · obtain rfl : W = j := by omega
                obtain ⟨u, hu1, hpick⟩ := hpk.out
                have hbu : b = (u : Int) := by
                  have h1 := hfo2.out
                  rw [List.take_of_length_le (by rw [hW.out]; exact Nat.le_refl _), hu1] at h1
                  exact h1.symm
                subst hbu
                have hpw := pick_wt hpick
                have hun := hpw.1
                have hum : u ∈ ws := (hwl.out.iff u).2 hpw
                have hT6 := hide (hT5.out.stays hbx.out)
                have hzw5 : w5.heap.size ≤ wr.heap.size := hbx.out.size
                replace hpick := hide hpick
                replace hu1 := hide hu1
                replace hum := hide hum
                have hpw := hide hpw
                obtain ⟨w6, rfl⟩ : ∃ w6 : World, w6 = wr := ⟨_, rfl⟩
                have hkp := hide hT6.out.keep
                have hz6 : wm.heap.size ≤ w6.heap.size := by omega
                clear hT5 hpk hps hplt hstp hSm5 hcw5 hfo2 hbb hbx y4 y5 q2 w2 hfb
                by_cases hKs : K < st
                · have hlW : (LP ws).length = W := by rw [lp_len]; exact hW.out.symm
                  obtain ⟨ws7, hws7⟩ : ∃ l, l = ws.filter fun x => decide (x ≠ u) := ⟨_, rfl⟩
                  have hwl7 := hide (show WF n (flook s u) ws7 by rw [hws7]; exact wf_look hwl.out u)
                  have hdl := hide (show dels (u : Int) (LP ws) = LP ws7 by rw [hws7]; exact dels_lp u ws)
                  obtain ⟨W7, hW7⟩ : ∃ m, m = ws7.length := ⟨_, rfl⟩
                  have hdn := hide (show (dels (u : Int) (LP ws)).length = W7 by rw [hdl.out, lp_len, hW7])
                  replace hws7 := hide hws7
                  replace hW7 := hide hW7
                  have hkl : (LP s.ord).length = K := by rw [lp_len]; exact hK.out.symm
                  have hlp := hide (show LP (flook s u).ord = LP s.ord ++ [(u : Int)] by simp [LP, flook])
                  go_upto_region 25 with (at_builtin; (refine wpList_pushL (e := 3) (enc := encI) (xs := (LP s.ord)) (v := .slice ao (K) co) (base := wm.heap.size) rfl (.tmp 135) (.tmp 137) 29 rfl _ 8 Try.underlying29 info_int rfl ?d19 lenI oneI (K) ?d29 ?d39 ?d49 ⟨w6.heap.size, 0, none⟩ 1 (u : Int) ?d59 ?d69 ?d79 ?d89 ?d99 ?_); (case d19 => omega); (case d29 => exact hkl); (case d39 => rfl); (case d49 => exact (hT6.out.od.alloc _)); (case d59 => rfl); (case d69 => exact newI _ _ _ _ rfl); (case d79 => omega); (case d89 => unfold maxLen; omega); (case d99 => first | omega | (simp; done) | (simp; omega)); intro g9 c9 w9 own9 hb9 hgr9 hat9 hgl9; rw [← hlp.out] at own9; have kp9 := Keep.grown (S := fun j => (Value.slice ao K co).ownBlock = some j) (Keep.refl _ _) hgr9 (fun j hj => .inl hj); have xc9 := kp9.cu (cu_alloc xc) (fun e => by have := hob.out _ e; simp at this); have hT9 := hide ((hT6.out.stays ((Below.refl _ _).alloc (Nat.le_refl _) (.cells #[.int .i64 (u : Int)] 3))).setO (flook s u).ord kp9 own9 (fun j hj => by simp only [Value.ownBlock, Option.some.injEq] at hj; subst hj; exact hat9.imp id (fun e => Nat.le_of_eq e.symm))); have hao9 := hide (show (Value.slice (some ⟨g9, 0, none⟩) (K + 1) c9).ownBlock ≠ some w5.heap.size from fun e => by simp only [Value.ownBlock, Option.some.injEq] at e; rcases hat9 with h1 | h1; (have := hob.out _ h1; omega); (simp at h1; omega)); replace hgr9 := hide hgr9; replace hb9 := hide hb9; clear kp9 own9 hat9)
                  have hz9 : wm.heap.size ≤ w9.heap.size := hT9.out.keep.size
                  have hx9 : w5.heap.size < w9.heap.size := cell_lt xc9
                  have hsm9 := hide (fmid_start hsok.out hun hpw.out.2)
                  have hK9 := hide (show K + 1 = (flook s u).ord.length by simp [flook, hK.out])
                  have hKb := hK0.out _ hT9.out.keep
                  have hT9 : Hid (TX n mb pb k (.slice (some ⟨g, 0, none⟩) W cw) (.slice (some ⟨g9, 0, none⟩) (K + 1) c9) ws (toSR (flook s u)) wm w9) := hT9
                  clear hT6 hkp hgr9 hb9
                  by_cases hut : u = tg
                  · as_aux_lemma =>
                    have q2 : ((u : Int) == (tg : Int)) = true := by rw [hut]; simp
                    obtain ⟨lc, hch, hll, hlm'⟩ := fway hsok.out hun (hsok.out.wt u hpw.out.2).1
                    rw [hut] at hch
                    have hkp9 := hide hT9.out.keep
                    have hEw := hide (hEm.out _ hT9.out.keep)
                    obtain ⟨cst, hcst⟩ : ∃ cst, cst = (wcost (n : Int) es (LP lc.reverse)).1 := ⟨_, rfl⟩
                    have hWk := hide (fun (w' : World) (hb : Below w9.heap.size w9 w') (ba : Option Addr) (bk2 : Nat) (oP : Own encI 1 3 w' w9.heap.size (.slice ba lc.length bk2) (LP lc.reverse)) => rwalked_any n lc.length bk2 a ba cap es (LP lc.reverse) cst w' B (by have := hb.size; omega) (hEw.out.below hb (by omega)) (own_rowL oP) (by omega) hcst.symm (by rw [lp_len, List.length_reverse]) (by omega))
                    have m0 := hT9.out.cu nc0.out (by simp; omega) (by simp; omega)
                    have m1 := hT9.out.cu nc1.out (by simp; omega) (by simp; omega)
                    have zg9 : w.heap.size < w9.heap.size := by omega
                    have key1 := hide (show ∀ w', Below w9.heap.size w9 w' → (Below w9.heap.size w9 w' ∧ w'.cell? ⟨w.heap.size, 0, none⟩ = some (.int .i64 (n : Int)) ∧ w'.cell? ⟨w.heap.size, 1, none⟩ = some (.slice a es.length cap) ∧ w9.heap.size ≤ w'.heap.size) from
                      fun w' hb => ⟨hb, cu_below hb m0 zg9, cu_below hb m1 zg9, hb.size⟩)
                    have hpm9 := hide hT9.out.pm
                    have hch2 := hide hch
                    have hlm2 := hide hlm'
                    have hut2 := hide hut
                    have hod9 := hide hT9.out.od
                    replace hcst := hide hcst
                    clear hch hlm' hut m0 m1 hT9
                    go_upto_region 26 with fail
                    refine wp_region_inv 7 (by kernel_rfl) [some 142, some 143, some 144, some 145, some 146, some 147, some 148] (FRf (.agg #[.int .i64 (n : Int), .slice a es.length cap]) pb n tg (v : Int) cst (.slice (some ⟨g9, 0, none⟩) (K + 1) c9) lc w9.heap.size) (fun w' => Below w9.heap.size w9 w' ∧ w'.cell? ⟨w.heap.size, 0, none⟩ = some (.int .i64 (n : Int)) ∧ w'.cell? ⟨w.heap.size, 1, none⟩ = some (.slice a es.length cap) ∧ w9.heap.size ≤ w'.heap.size) (fun w w' => Below w.heap.size w w') (by kernel_rfl) (by kernel_rfl) (by kernel_rfl) (by kernel_rfl) (frf_stays) (fun _ _ h => h.size) (key1.out _ (below_drew _)) ?steps ?hend
                    case steps =>
                      refine ⟨?_, ?_, ?_, ?_, ?_, ?_, ?_, trivial⟩
                      · intro X L H wI hS hd K hK
                        have hS0 := hide hS
                        (try dsimp only at hS)
                        simp only [putAll, Act.put, List.setIfInBounds_toArray, List.set_cons_zero, List.set_cons_succ]
                        go_simp
                        refine hK _ _ wI.heap.size wI.heap.size _ ?_ (Nat.le_refl _) (Nat.le_refl _) (Nat.le_refl _) (Below.refl _ _) hS0.out rfl
                        simp only [putAll, Act.put, List.setIfInBounds_toArray, List.set_cons_zero, List.set_cons_succ]
                      · intro X L H wI hS hd K hK
                        have hS0 := hide hS
                        (try dsimp only at hS)
                        simp only [putAll, Act.put, List.setIfInBounds_toArray, List.set_cons_zero, List.set_cons_succ]
                        go_simp
                        refine hK _ _ wI.heap.size wI.heap.size _ ?_ (Nat.le_refl _) (Nat.le_refl _) (Nat.le_refl _) (Below.refl _ _) hS0.out rfl
                        simp only [putAll, Act.put, List.setIfInBounds_toArray, List.set_cons_zero, List.set_cons_succ]
                      · intro X L H wI hS hd K hK
                        have hS0 := hide hS
                        (try dsimp only at hS)
                        simp only [putAll, Act.put, List.setIfInBounds_toArray, List.set_cons_zero, List.set_cons_succ]
                        go_simp
                        refine hK _ _ wI.heap.size wI.heap.size _ ?_ (Nat.le_refl _) (Nat.le_refl _) (Nat.le_refl _) (Below.refl _ _) hS0.out rfl
                        simp only [putAll, Act.put, List.setIfInBounds_toArray, List.set_cons_zero, List.set_cons_succ]
                      · intro X L H wI hS hd K hK
                        have hS0 := hide hS
                        (try dsimp only at hS)
                        simp only [putAll, Act.put, List.setIfInBounds_toArray, List.set_cons_zero, List.set_cons_succ]
                        go_simp
                        refine hK _ _ wI.heap.size wI.heap.size _ ?_ (Nat.le_refl _) (Nat.le_refl _) (Nat.le_refl _) (Below.refl _ _) hS0.out rfl
                        simp only [putAll, Act.put, List.setIfInBounds_toArray, List.set_cons_zero, List.set_cons_succ]
                      · intro X L H wI hS hd K hK
                        (try have h1 : X 1 = _ := hd 1 (by kernel_rfl))
                        (try have h2 : X 2 = _ := hd 2 (by kernel_rfl))
                        (try have h3 : X 3 = _ := hd 3 (by kernel_rfl))
                        have hS0 := hide hS
                        (try dsimp only at hS)
                        simp only [putAll, Act.put, List.setIfInBounds_toArray, List.set_cons_zero, List.set_cons_succ]
                        (go_simp; go_at_call 113; refine (rback_any n k tg pb (v : Int) s.pred lc _ (hpm9.out.stays hS0.out.1) hch2.out hn hll hlm2.out).mono ?_; rintro e wB ⟨ba, bk2, rfl, oB, hbB⟩; exact hK _ _ wI.heap.size wB.heap.size _ (by simp only [putAll, Act.put, List.setIfInBounds_toArray, List.set_cons_zero, List.set_cons_succ, h1, h2, h3]) (Nat.le_refl _) hbB.size (Nat.le_refl _) hbB (key1.out _ (hS0.out.1.trans (hbB.mono hS0.out.2.2.2))) ⟨ba, bk2, rfl, oB.base_le hS0.out.2.2.2⟩)
                      · intro X L H wI hS hd K hK
                        (try have h0 : X 0 = _ := hd 0 (by kernel_rfl))
                        (try have h4 : X 4 = _ := hd 4 (by kernel_rfl))
                        have hS0 := hide hS
                        (try dsimp only at hS)
                        simp only [putAll, Act.put, List.setIfInBounds_toArray, List.set_cons_zero, List.set_cons_succ]
                        (obtain ⟨ba, bk2, h4', o4⟩ := hd 4 (by kernel_rfl); go_simp; go_at_call 135; refine (hWk.out _ hS0.out.1 ba bk2 o4).mono ?_; rintro e wB ⟨rfl, hbB⟩; refine hK _ _ wI.heap.size wB.heap.size _ ?_ (Nat.le_refl _) hbB.size (Nat.le_refl _) hbB (key1.out _ (hS0.out.1.trans (hbB.mono hS0.out.2.2.2))) ⟨ba, bk2, rfl, o4.stays hbB⟩; simp only [putAll, Act.put, List.setIfInBounds_toArray, List.set_cons_zero, List.set_cons_succ, h0, h4'])
                      · intro X L H wI hS hd K hK
                        have hS0 := hide hS
                        (try dsimp only at hS)
                        simp only [putAll, Act.put, List.setIfInBounds_toArray, List.set_cons_zero, List.set_cons_succ]
                        go_simp
                        refine hK _ _ wI.heap.size wI.heap.size _ ?_ (Nat.le_refl _) (Nat.le_refl _) (Nat.le_refl _) (Below.refl _ _) hS0.out rfl
                        simp only [putAll, Act.put, List.setIfInBounds_toArray, List.set_cons_zero, List.set_cons_succ]
                    case hend =>
                      intro X L H wI hS hF hP
                      (obtain ⟨ba, bk2, f5, o5⟩ := (hF 5 (by omega)).1; have f6 : X 6 = _ := (hF 6 (by omega)).1; have hbI := hS.1; clear hS hF hP; replace o5 := hide o5; have r0 := cu_below hbI (hkp9.out.cu d0.out hfm) (by first | omega | (simp; done) | (simp; omega)); have r1 := cu_below hbI (hkp9.out.cu d1.out hfm) (by first | omega | (simp; done) | (simp; omega)); have r2 := cu_below hbI (hkp9.out.cu d2.out hfm) (by first | omega | (simp; done) | (simp; omega)); have g0 := fu_below hbI ((hkp9.out.frozen (p := ⟨bf, 0, none⟩) (by first | omega | (simp; done) | (simp; omega)) hfm).trans e0.out) (by first | omega | (simp; done) | (simp; omega)); have g1 := fu_below hbI ((hkp9.out.frozen (p := ⟨bf, 1, none⟩) (by first | omega | (simp; done) | (simp; omega)) hfm).trans e1.out) (by first | omega | (simp; done) | (simp; omega)); have g2 := fu_below hbI ((hkp9.out.frozen (p := ⟨bf, 2, none⟩) (by first | omega | (simp; done) | (simp; omega)) hfm).trans e2.out) (by first | omega | (simp; done) | (simp; omega)); have hbI2 := hide hbI; clear hbI)
                      simp only [putAll, Act.put, List.setIfInBounds_toArray, List.set_cons_zero, List.set_cons_succ, f5, f6]
                      change wpAny _ _ _ _ (2 + 1) _ _ _
                      refine wpAny_ready (rs := [7]) (by kernel_rfl) (by simp) (AllReady.cons rfl (fun K hK => ?_) AllReady.nil)
                      go_simp
                      refine hK _ _ ?_
                      clear hK K
                      change wpAny _ _ _ _ (1 + 1) _ _ _
                      refine wpAny_ready (rs := [8]) (by kernel_rfl) (by simp) (AllReady.cons rfl (fun K hK => ?_) AllReady.nil)
                      go_simp
                      refine hK _ _ ?_
                      clear hK K
                      change wpAny _ _ _ _ (0 + 1) _ _ _
                      refine wpAny_ready (rs := [9]) (by kernel_rfl) (by simp) (AllReady.cons rfl (fun K hK => ?_) AllReady.nil)
                      go_simp
                      refine hK _ _ ?_
                      clear hK K
                      refine wpAny_done (by kernel_rfl) ?_ _
                      go_wp2_with fail
                      refine bodyPost_ret (v := .tuple #[.agg #[.slice ba lc.length bk2, .int .i64 cst, .slice (some ⟨g9, 0, none⟩) (K + 1) c9], .int .i64 0]) (by simp [results, Try.results61, go_sem, r0, r1, r2, g0, g1, g2]) rfl ?_
                      have hux := hut2.out
                      subst hux
                      rw [← hs0e.out]
                      have hbw9 := hKb.trans (hbI2.out.mono (by omega))
                      refine ⟨.found (flook s u), hrun.out _ (.hit s hpick.out (by have := hK.out; omega)), ?_, lc, ba, bk2, some ⟨g9, 0, none⟩, c9, hch2.out, ?_, ?_, ?_⟩
                      · exact ((hbw9.setCell (by simp; omega) _).setCell (by simp; omega) _).setCell (by simp; omega) _
                      · rw [← hK9.out, ← hcst.out]
                      · have hzf : bf < w9.heap.size := by omega
                        exact (((o5.out.setCell hzf _).setCell hzf _).setCell hzf _).base_le (by omega)
                      · have hzf : bf < wm.heap.size := by omega
                        rw [← hK9.out]
                        exact ((((hod9.out.stays hbI2.out).setCell (a := ⟨bf, 0, none⟩) hzf (.slice ba lc.length bk2)).setCell (a := ⟨bf, 1, none⟩) hzf (.int .i64 cst)).setCell (a := ⟨bf, 2, none⟩) hzf (.slice (some ⟨g9, 0, none⟩) (K + 1) c9)).base_le (by omega)
                  · have q2 : ((u : Int) == (tg : Int)) = false := by simp; omega
                    have hdel := hide (delIF_any (u : Int) w5.heap.size (some ⟨g, 0, none⟩) cw W wm.heap.size (LP ws) hlW _ hT9.out.wt (fun e => by have := hab.out _ e; omega) xc9 (by omega))
                    have hdel2 := hide (hdel.out.mono (R' := fun e w' => ∃ a7 c7, e = .returned (.slice a7 W7 c7) ∧ Own encI 1 3 w' wm.heap.size (.slice a7 W7 c7) (LP ws7) ∧ Keep (fun j => (Value.slice (some ⟨g, 0, none⟩) W cw).ownBlock = some j) w9 w' ∧ ∀ b, (Value.slice a7 W7 c7).ownBlock = some b → (Value.slice (some ⟨g, 0, none⟩) W cw).ownBlock = some b) (by
                      rintro e w' ⟨a7, c7, rfl, k1, k2, k3⟩
                      simp only [hdn.out] at k1 k3 ⊢
                      rw [hdl.out] at k1
                      exact ⟨a7, c7, rfl, k1, k2, k3⟩))
                    clear hdel
                    go_wp2_with fail
                    refine hdel2.out.mono ?_
                    rintro e w7 ⟨a7, c7, rfl, hO7, hK7, hb7⟩
                    have hT7 := hide (hT9.out.setW hK7 hO7 (fun j hj => .inl (hb7 j hj)))
                    have xc7 : w7.cell? ⟨w5.heap.size, 0, none⟩ = some (.int .i64 (u : Int)) := hK7.cu xc9 (fun e => by have := hab.out _ e; simp at this)
                    have hz7 : w5.heap.size < w7.heap.size := cell_lt xc7
                    have hav7 := hide (show (Value.slice a7 W7 c7).ownBlock ≠ some w5.heap.size from fun e => by have := hab.out _ (hb7 _ e); omega)
                    clear hdel2 hO7 hK7 hb7
                    have hfold0 := hide (show (nes (es.take 0)).foldl (fedge h u) (flook s u) = flook s u from rfl)
                    have hstep := hide (show ∀ o, FRun (nes es) h taste ⟨ra, rb⟩ n tg st (fexpand (nes es) h u s) o → FRun (nes es) h taste ⟨ra, rb⟩ n tg st s0 o from fun o ho => hrun.out o (.step s u o hpick.out (by have := hK.out; omega) hut ho))
                    have hexp := hide (show fexpand (nes es) h u s = (nes es).foldl (fedge h u) (flook s u) from rfl)
                    have hTn : Hid (TX n mb pb k (.slice a7 W7 c7) (.slice (some ⟨g9, 0, none⟩) (K + 1) c9) ws7 (toSR (flook s u)) wm w7) := hT7
                    obtain ⟨s1, hs1'⟩ : ∃ x, x = flook s u := ⟨_, rfl⟩
                    rw [← hs1'] at hTn hwl7 hsm9 hfold0 hexp hK9
                    replace hs1' := hide hs1'
                    have x0 := hTn.out.cu nc1.out (by simp; omega) (by simp; omega)
                    have zg9 : w.heap.size < w7.heap.size := by have := hTn.out.keep.size; omega
                    have hKs2 := hide (show s1.ord.length = K + 1 from hK9.out.symm)
                    have hmp : mb ≠ pb := hlt2.2.2.2.1
                    clear hrun hab hob hT9 hT7 hpick hu1 hwl hsok hKb hum hpw hK9 hws7 hlp hkl hK hW xc9 hao9 hdn hdl hlW hfm xc xf
                    go_wp2
                    go_loopw [18, 156] (fun s18 i wr => ∃ (j k2 : Nat) (s2 : FR) (ws2 : List Nat) (a2 : Option Addr) (c2 W2 : Nat), j ≤ es.length ∧ i = .int .i64 (j : Int) ∧ s18 = .slice a2 W2 c2 ∧ Hid (W2 = ws2.length) ∧ Hid (TX n mb pb k2 (.slice a2 W2 c2) (.slice (some ⟨g9, 0, none⟩) (K + 1) c9) ws2 (toSR s2) wm wr) ∧ Hid (WF n s2 ws2) ∧ Hid (FMid n v h u s2) ∧ Hid ((nes (es.take j)).foldl (fedge h u) s1 = s2) ∧ Hid (s2.ord = s1.ord) ∧ k2 ≤ 1 + 600 * K + j ∧ wr.cell? ⟨w5.heap.size, 0, none⟩ = some (.int .i64 (u : Int)) ∧ Hid ((Value.slice a2 W2 c2).ownBlock ≠ some w5.heap.size)) (fun _ i _ => es.length - (intOf i).toNat)
                    case atStart => exact ⟨0, k, s1, ws7, a7, c7, W7, Nat.zero_le _, rfl, rfl, hW7, hTn, hwl7, hsm9, hfold0, hide rfl, by omega, xc7, hav7⟩
                    case round =>
                      clear hTn hwl7 hsm9 hfold0 xc7 hav7 x0 hW7
                      obtain ⟨j, k2, s2, ws2, a2, c2, W2, hj, rfl, rfl, hW2, hT, hwl, hsm, hfold, hof, hk2, xc, hap⟩ := hrel
                      have hzr : wm.heap.size ≤ wr.heap.size := hT.out.keep.size
                      have hxr : w5.heap.size < wr.heap.size := cell_lt xc
                      have hW2n : W2 ≤ 64 := by have := wf_len hwl.out; have := hW2.out; omega
                      by_cases hlt : j < es.length
                      · as_aux_lemma =>
                        obtain ⟨u2, vv, e1', e2', e3, e4, e5, e6, htk0⟩ := right_edge hes.out j hlt
                        have e7 := hpos.out es[j] (List.getElem_mem hlt)
                        obtain ⟨b, o, rfl, hbB, m1, m2, m3⟩ := (hEm.out wr hT.out.keep).ed j hlt
                        obtain ⟨b1, o1, he1, hbB1, m4⟩ := (hHm.out wr hT.out.keep).atI vv e4
                        simp only [Option.some.injEq, Addr.mk.injEq] at he1
                        obtain ⟨rfl, rfl, -⟩ := he1
                        obtain ⟨ec, hec⟩ : ∃ ec, ec = es[j].c := ⟨_, rfl⟩
                        rw [e1'] at m1
                        rw [e2'] at m2
                        rw [← hec] at m3 e5 e6 e7 htk0
                        have htk := hide (show (nes (es.take (j + 1))).foldl (fedge h u) s1 = fedge h u s2 ⟨u2, vv, ec⟩ by rw [htk0, List.foldl_append, hfold.out]; rfl)
                        have zb : b < wr.heap.size := by omega
                        have zb0 := cell_lt m4
                        simp only at zb0
                        have zh2 : bh < wr.heap.size := by omega
                        have zm2 : bm < wr.heap.size := by omega
                        have x1 := hT.out.cu hc1 (by simp; omega) (by simp; omega)
                        have x3 := hT.out.cu bc1.out (by simp; omega) (by simp; omega)
                        have hcv := hsm.out.cv
                        have hcb := hsm.out.ok.cb vv
                        have hlen2 : s2.ord.length = K + 1 := by rw [hof.out]; exact hKs2.out
                        have huF : s2.cost u < FAR := by unfold FAR; omega
                        obtain ⟨x2, hx2⟩ : ∃ x2, x2 = s2.cost u := ⟨_, rfl⟩
                        have hgu0 := costM_at (cost := s2.cost) hun huF
                        rw [← hx2] at hcv huF hgu0
                        obtain ⟨y, hy⟩ : ∃ y, y = h vv := ⟨_, rfl⟩
                        rw [← hy] at m4
                        have ij : (0 : Int) ≤ (j : Int) ∧ (j : Int) < (es.length : Int) := by omega
                        have iv2 : (0 : Int) ≤ (vv : Int) ∧ (vv : Int) < (n : Int) := by omega
                        have hTa := hide (hT.out.stays ((Below.refl _ _).alloc (Nat.le_refl _) (.cells #[.int .i64 (u2 : Int), .int .i64 (vv : Int), .int .i64 ec] 34)))
                        have xca := cu_alloc (o := .cells #[.int .i64 (u2 : Int), .int .i64 (vv : Int), .int .i64 ec] 34) xc
                        have hgu := hide (show (costM n (toSR s2).cost (u : Int)).getD 0 = x2 by show (costM n s2.cost (u : Int)).getD 0 = x2; rw [hgu0]; rfl)
                        have hBu : Bd (u : Int) := by unfold Bd; omega
                        have hBvv : Bd (vv : Int) := by unfold Bd; omega
                        have hcF : x2 + ec < FAR := by unfold FAR; omega
                        have hx2b : 0 ≤ x2 ∧ x2 ≤ 1000000000 ∧ 0 ≤ x2 + ec ∧ x2 + ec ≤ 1000020000 := by omega
                        have hwrap : IntKind.i64.wrap (x2 + ec) = x2 + ec := IntWalk.i64_in _ (by omega)
                        replace hx2 := hide hx2
                        replace hec := hide hec
                        replace hy := hide hy
                        replace e1' := hide e1'
                        replace e2' := hide e2'
                        replace hwrap := hide hwrap
                        replace hlen2 := hide hlen2
                        clear htk0 hgu0 hT hfold
                        by_cases huu : u2 = u
                        · obtain rfl : u = u2 := huu.symm
                          have q3 : ((u : Int) != (u : Int)) = false := by simp
                          by_cases hyF : y = 1099511627776
                          · as_aux_lemma =>
                            have hfs := hide (show (nes (es.take (j + 1))).foldl (fedge h u) s1 = s2 by rw [htk.out]; exact fedge_no (fun hc => hc.2.1 (by show h vv = FAR; rw [← hy.out, hyF]; rfl)))
                            subst hyF
                            go_wp2
                            go_roundw
                            case rel => exact ⟨j + 1, k2, s2, ws2, a2, c2, W2, by omega, by go_num, rfl, hW2, hTa, hwl, hsm, hfs, hof, by omega, xca, hap⟩
                            case measure => simp [intOf]; omega
                          · have q4 : (y == 1099511627776) = false := by simpa using hyF
                            have hyF2 := hide (show h vv ≠ FAR by rw [← hy.out]; exact hyF)
                            clear hyF
                            by_cases hless : x2 + ec < s2.cost vv
                            · obtain ⟨s3, hs3⟩ : ∃ s3 : FR, s3 = { s2 with cost := upz s2.cost vv (x2 + ec), pred := upz s2.pred vv (u : Int), wt := upz s2.wt vv true } := ⟨_, rfl⟩
                              have hsy := hide (show fedge h u s2 ⟨u, vv, ec⟩ = s3 by rw [hs3, hx2.out]; exact fedge_yes (h := h) (v := u) (s := s2) (e := ⟨u, vv, ec⟩) rfl hyF2.out (by rw [← hx2.out]; exact hless))
                              have hsmB := hide (show FMid n v h u s3 by rw [← hsy.out]; exact fmid_edge hsm.out hun (e := ⟨u, vv, ec⟩) (by simp only; omega) (by have := hlen2.out; omega))
                              have hofB := hide (show s3.ord = s1.ord by rw [hs3]; exact hof.out)
                              have hfB := hide (show (nes (es.take (j + 1))).foldl (fedge h u) s1 = s3 by rw [htk.out, hsy.out])
                              have hwi := hide (fun (hin : vv ∈ ws2) => (show WF n s3 ws2 by rw [← hsy.out]; exact wf_in (h := h) (u := u) (e := ⟨u, vv, ec⟩) hwl.out e4 hin))
                              have hwa := hide (fun (hin : vv ∉ ws2) => (show WF n s3 (ws2 ++ [vv]) by rw [← hsy.out]; exact wf_add (h := h) (u := u) (e := ⟨u, vv, ec⟩) hwl.out e4 hin ⟨rfl, hyF2.out, by rw [← hx2.out]; exact hless⟩))
                              obtain ⟨od, hod⟩ : ∃ od, od = (costM n s2.cost (vv : Int)).getD 0 := ⟨_, rfl⟩
                              obtain ⟨os, hos⟩ : ∃ os, os = (costM n s2.cost (vv : Int)).isSome := ⟨_, rfl⟩
                              have hgd := hide (show (costM n (toSR s2).cost (vv : Int)).getD 0 = od from hod.symm)
                              have his := hide (show (costM n (toSR s2).cost (vv : Int)).isSome = os from hos.symm)
                              have hcase : (os = true ∧ x2 + ec < od) ∨ os = false := by
                                rcases costM_look (cost := s2.cost) e4 with ⟨hq1, hq2⟩ | ⟨hq1, hq2⟩
                                · left; rw [hos, hod, hq1]; exact ⟨rfl, hless⟩
                                · right; rw [hos, hq1]; rfl
                              have hT8 := hide (hTa.out.stays (below_drew _))
                              obtain ⟨wA, runA, imA, gA⟩ := hT8.out.cm.update 109 Try.underlying109 (by omega) (x := (vv : Int)) (y := x2 + ec) (by unfold Bd; omega) (by unfold Bd; omega)
                              obtain ⟨wB, runB, imB, gB⟩ := (hT8.out.pm.kept gA (fun e => hmp (Option.some.inj e).symm)).update 109 Try.underlying109 (by omega) (x := (vv : Int)) (y := (u : Int)) (by unfold Bd; omega) (by unfold Bd; omega)
                              have kpA := (Keep.refl (fun j => j = mb ∨ j = pb) (wr.alloc (.cells #[.int .i64 (u : Int), .int .i64 (vv : Int), .int .i64 ec] 34)).drew).grown gA (fun z hz => by cases hz; exact .inl (.inl rfl))
                              have xcA := kpA.cu (cu_drew (cu_alloc (o := .cells #[.int .i64 (u : Int), .int .i64 (vv : Int), .int .i64 ec] 34) xc)) (by simp; omega)
                              have x3A := kpA.cu (cu_drew (cu_alloc (o := .cells #[.int .i64 (u : Int), .int .i64 (vv : Int), .int .i64 ec] 34) x3)) (by simp; omega)
                              have eA : wA.cell? ⟨wr.heap.size, 1, none⟩ = some (.int .i64 (vv : Int)) := kpA.cu (cu_drew (by simp [go_sem])) (by simp; omega)
                              have zA : wr.heap.size < wA.heap.size := cell_lt eA
                              have imA : IMap wA mb (k2 + 1) (setM (costM n s2.cost) (vv : Int) (x2 + ec)) := imA
                              have imB : IMap wB pb (k2 + 1) (setM (predM n s2.pred) (vv : Int) (u : Int)) := imB
                              rw [costM_set e4 hcF] at imA
                              rw [predM_set e4] at imB
                              have kpB := ((Keep.refl (fun j => j = mb ∨ j = pb) (wr.alloc (.cells #[.int .i64 (u : Int), .int .i64 (vv : Int), .int .i64 ec] 34)).drew).grown gA (fun z hz => by cases hz; exact .inl (.inl rfl))).grown gB (fun z hz => by cases hz; exact .inl (.inr rfl))
                              have hTB : Hid (TX n mb pb (k2 + 1) (.slice a2 W2 c2) (.slice (some ⟨g9, 0, none⟩) (K + 1) c9) ws2 (toSR s3) wm wB) := hide (by rw [hs3]; exact hT8.out.setM _ _ kpB (imA.kept gB (fun e => hmp (Option.some.inj e))) imB)
                              have xcB := kpB.cu (cu_drew (cu_alloc (o := .cells #[.int .i64 (u : Int), .int .i64 (vv : Int), .int .i64 ec] 34) xc)) (by simp; omega)
                              have eB : wB.cell? ⟨wr.heap.size, 1, none⟩ = some (.int .i64 (vv : Int)) := kpB.cu (cu_drew (by simp [go_sem])) (by simp; omega)
                              have zB : wr.heap.size < wB.heap.size := cell_lt eB
                              have hlook := hide (show ∀ w', Below wr.heap.size wr w' → True from fun _ _ => trivial)
                              replace hs3 := hide hs3
                              replace hod := hide hod
                              replace hos := hide hos
                              replace hless := hide hless
                              clear hT8 imA imB kpB gA gB hcb kpA hlook
                              have hrW := hide (own_rowL hTB.out.wt)
                              have habB := hide (fun j hj => (hTB.out.wt.block_lt j hj).2)
                              have hlw : (LP ws2).length = W2 := by rw [lp_len]; exact hW2.out.symm
                              have hcw := hide (contI_any (vv : Int) a2 c2 W2 (LP ws2) wB wB.heap.size hlw hrW.out (by omega))
                              by_cases hinw : vv ∈ ws2
                              · have hdw : decide ((vv : Int) ∈ LP ws2) = true := by simpa using lp_mem.2 hinw
                                rw [hdw] at hcw
                                have hwlB := hide (hwi.out hinw)
                                replace hinw := hide hinw
                                clear hwi hwa
                                rcases hcase with ⟨rfl, hol⟩ | rfl
                                · as_aux_lemma =>
                                  go_wp2_with (first | (at_lookup; (refine wpList_imap_ok rfl (.tmp 173) (.tmp 175) 109 rfl Try.underlying109 hTa.out.cm (vv : Int) hBvv rfl rfl ?_); simp only [hgd.out, his.out]) | (at_lookup; (refine wpList_imap_look rfl (.tmp 179) (.tmp 180) 109 rfl Try.underlying109 hTa.out.cm (u : Int) hBu rfl rfl ?_); simp only [hgu.out, hwrap.out]))
                                  go_region
                                  clear runA runB xcA x3A eA zA
                                  go_wp2_with fail
                                  refine hcw.out.mono ?_
                                  rintro e w8 ⟨rfl, rfl⟩
                                  go_wp2
                                  go_roundw
                                  case rel => exact ⟨j + 1, k2 + 1, s3, ws2, a2, c2, W2, by omega, by go_num, rfl, hW2, hTB, hwlB, hsmB, hfB, hofB, by omega, xcB, hap⟩
                                  case measure => simp [intOf]; omega
                                · as_aux_lemma =>
                                  go_wp2_with (first | (at_lookup; (refine wpList_imap_ok rfl (.tmp 173) (.tmp 175) 109 rfl Try.underlying109 hTa.out.cm (vv : Int) hBvv rfl rfl ?_); simp only [hgd.out, his.out]) | (at_lookup; (refine wpList_imap_look rfl (.tmp 179) (.tmp 180) 109 rfl Try.underlying109 hTa.out.cm (u : Int) hBu rfl rfl ?_); simp only [hgu.out, hwrap.out]))
                                  go_region
                                  clear runA runB xcA x3A eA zA
                                  go_wp2_with fail
                                  refine hcw.out.mono ?_
                                  rintro e w8 ⟨rfl, rfl⟩
                                  go_wp2
                                  go_roundw
                                  case rel => exact ⟨j + 1, k2 + 1, s3, ws2, a2, c2, W2, by omega, by go_num, rfl, hW2, hTB, hwlB, hsmB, hfB, hofB, by omega, xcB, hap⟩
                                  case measure => simp [intOf]; omega
                              · have hdw : decide ((vv : Int) ∈ LP ws2) = false := by simpa using fun hc => hinw (lp_mem.1 hc)
                                rw [hdw] at hcw
                                have hwlB := hide (hwa.out hinw)
                                have hW3 := hide (show W2 + 1 = (ws2 ++ [vv]).length by rw [List.length_append, hW2.out]; rfl)
                                have hla := hide (lp_app ws2 vv)
                                replace hinw := hide hinw
                                clear hwi hwa
                                rcases hcase with ⟨rfl, hol⟩ | rfl
                                · as_aux_lemma =>
                                  go_wp2_with (first | (at_lookup; (refine wpList_imap_ok rfl (.tmp 173) (.tmp 175) 109 rfl Try.underlying109 hTa.out.cm (vv : Int) hBvv rfl rfl ?_); simp only [hgd.out, his.out]) | (at_lookup; (refine wpList_imap_look rfl (.tmp 179) (.tmp 180) 109 rfl Try.underlying109 hTa.out.cm (u : Int) hBu rfl rfl ?_); simp only [hgu.out, hwrap.out]))
                                  go_region
                                  clear runA runB xcA x3A eA zA
                                  go_wp2_with fail
                                  refine hcw.out.mono ?_
                                  rintro e w8 ⟨rfl, rfl⟩
                                  go_wp2_with (at_builtin; (refine wpList_pushL (e := 3) (enc := encI) (xs := (LP ws2)) (v := .slice a2 (W2) c2) (base := wm.heap.size) rfl (.tmp 205) (.tmp 208) 29 rfl _ 8 Try.underlying29 info_int rfl ?d18 lenI oneI (W2) ?d28 ?d38 ?d48 ⟨w8.heap.size, 0, none⟩ 1 (vv : Int) ?d58 ?d68 ?d78 ?d88 ?d98 ?_); (case d18 => omega); (case d28 => exact hlw); (case d38 => rfl); (case d48 => exact (hTB.out.wt.alloc _)); (case d58 => rfl); (case d68 => exact newI _ _ _ _ rfl); (case d78 => omega); (case d88 => unfold maxLen; omega); (case d98 => first | omega | (simp; done) | (simp; omega)); intro g8 c8 w8 own8 hb8 hgr8 hat8 hgl8; rw [← hla.out] at own8; have kp8 := Keep.grown (S := fun j => (Value.slice a2 W2 c2).ownBlock = some j) (Keep.refl _ _) hgr8 (fun j hj => .inl hj); have xc8 := kp8.cu (cu_alloc xcB) (fun e => hap.out e); have hTC := hide ((hTB.out.stays ((Below.refl _ _).alloc (Nat.le_refl _) (.cells #[.int .i64 (vv : Int)] 3))).setW kp8 own8 (fun j hj => by simp only [Value.ownBlock, Option.some.injEq] at hj; subst hj; exact hat8.imp id (fun e => Nat.le_of_eq e.symm))); have hap8 := hide (show (Value.slice (some ⟨g8, 0, none⟩) (W2 + 1) c8).ownBlock ≠ some w5.heap.size from fun e => by simp only [Value.ownBlock, Option.some.injEq] at e; rcases hat8 with h1 | h1; (exact hap.out (h1.trans (by rw [e]))); (simp at h1; omega)); replace hgr8 := hide hgr8; replace hb8 := hide hb8; clear kp8 own8 hat8)
                                  go_roundw
                                  case rel => exact ⟨j + 1, k2 + 1, s3, ws2 ++ [vv], _, c8, W2 + 1, by omega, by go_num, rfl, hW3, hTC, hwlB, hsmB, hfB, hofB, by omega, xc8, hap8⟩
                                  case measure => simp [intOf]; omega
                                · as_aux_lemma =>
                                  go_wp2_with (first | (at_lookup; (refine wpList_imap_ok rfl (.tmp 173) (.tmp 175) 109 rfl Try.underlying109 hTa.out.cm (vv : Int) hBvv rfl rfl ?_); simp only [hgd.out, his.out]) | (at_lookup; (refine wpList_imap_look rfl (.tmp 179) (.tmp 180) 109 rfl Try.underlying109 hTa.out.cm (u : Int) hBu rfl rfl ?_); simp only [hgu.out, hwrap.out]))
                                  go_region
                                  clear runA runB xcA x3A eA zA
                                  go_wp2_with fail
                                  refine hcw.out.mono ?_
                                  rintro e w8 ⟨rfl, rfl⟩
                                  go_wp2_with (at_builtin; (refine wpList_pushL (e := 3) (enc := encI) (xs := (LP ws2)) (v := .slice a2 (W2) c2) (base := wm.heap.size) rfl (.tmp 205) (.tmp 208) 29 rfl _ 8 Try.underlying29 info_int rfl ?d18 lenI oneI (W2) ?d28 ?d38 ?d48 ⟨w8.heap.size, 0, none⟩ 1 (vv : Int) ?d58 ?d68 ?d78 ?d88 ?d98 ?_); (case d18 => omega); (case d28 => exact hlw); (case d38 => rfl); (case d48 => exact (hTB.out.wt.alloc _)); (case d58 => rfl); (case d68 => exact newI _ _ _ _ rfl); (case d78 => omega); (case d88 => unfold maxLen; omega); (case d98 => first | omega | (simp; done) | (simp; omega)); intro g8 c8 w8 own8 hb8 hgr8 hat8 hgl8; rw [← hla.out] at own8; have kp8 := Keep.grown (S := fun j => (Value.slice a2 W2 c2).ownBlock = some j) (Keep.refl _ _) hgr8 (fun j hj => .inl hj); have xc8 := kp8.cu (cu_alloc xcB) (fun e => hap.out e); have hTC := hide ((hTB.out.stays ((Below.refl _ _).alloc (Nat.le_refl _) (.cells #[.int .i64 (vv : Int)] 3))).setW kp8 own8 (fun j hj => by simp only [Value.ownBlock, Option.some.injEq] at hj; subst hj; exact hat8.imp id (fun e => Nat.le_of_eq e.symm))); have hap8 := hide (show (Value.slice (some ⟨g8, 0, none⟩) (W2 + 1) c8).ownBlock ≠ some w5.heap.size from fun e => by simp only [Value.ownBlock, Option.some.injEq] at e; rcases hat8 with h1 | h1; (exact hap.out (h1.trans (by rw [e]))); (simp at h1; omega)); replace hgr8 := hide hgr8; replace hb8 := hide hb8; clear kp8 own8 hat8)
                                  go_roundw
                                  case rel => exact ⟨j + 1, k2 + 1, s3, ws2 ++ [vv], _, c8, W2 + 1, by omega, by go_num, rfl, hW3, hTC, hwlB, hsmB, hfB, hofB, by omega, xc8, hap8⟩
                                  case measure => simp [intOf]; omega
                            · as_aux_lemma =>
                              have hfs := hide (show (nes (es.take (j + 1))).foldl (fedge h u) s1 = s2 by rw [htk.out]; exact fedge_no (fun hc => hless (by rw [hx2.out]; exact hc.2.2)))
                              have hq2 : s2.cost vv < FAR := by rcases hcb with h1 | h1; omega; have := hlen2.out; unfold FAR; omega
                              have hq1 := costM_at (cost := s2.cost) e4 hq2
                              obtain ⟨y2, hy2⟩ : ∃ y2, y2 = s2.cost vv := ⟨_, rfl⟩
                              have hgd := hide (show (costM n (toSR s2).cost (vv : Int)).getD 0 = y2 by show (costM n s2.cost (vv : Int)).getD 0 = y2; rw [hq1, hy2]; rfl)
                              have his := hide (show (costM n (toSR s2).cost (vv : Int)).isSome = true by show (costM n s2.cost (vv : Int)).isSome = true; rw [hq1]; rfl)
                              rw [← hy2] at hless
                              replace hy2 := hide hy2
                              clear hq1 hq2 hcb
                              go_wp2_with (first | (at_lookup; (refine wpList_imap_ok rfl (.tmp 173) (.tmp 175) 109 rfl Try.underlying109 hTa.out.cm (vv : Int) hBvv rfl rfl ?_); simp only [hgd.out, his.out]) | (at_lookup; (refine wpList_imap_look rfl (.tmp 179) (.tmp 180) 109 rfl Try.underlying109 hTa.out.cm (u : Int) hBu rfl rfl ?_); simp only [hgu.out, hwrap.out]))
                              go_roundw
                              case rel => exact ⟨j + 1, k2, s2, ws2, a2, c2, W2, by omega, by go_num, rfl, hW2, hTa, hwl, hsm, hfs, hof, by omega, xca, hap⟩
                              case measure => simp [intOf]; omega
                        · as_aux_lemma =>
                          have q3 : ((u2 : Int) != (u : Int)) = true := by simp; omega
                          have hfs := hide (show (nes (es.take (j + 1))).foldl (fedge h u) s1 = s2 by rw [htk.out]; exact fedge_no (fun hc => huu hc.1))
                          go_wp2
                          go_roundw
                          case rel => exact ⟨j + 1, k2, s2, ws2, a2, c2, W2, by omega, by go_num, rfl, hW2, hTa, hwl, hsm, hfs, hof, by omega, xca, hap⟩
                          case measure => simp [intOf]; omega
                      · as_aux_lemma =>
                        obtain rfl : j = es.length := by omega
                        have hfin : s2 = fexpand (nes es) h u s := by rw [← hfold.out, List.take_length]; exact hexp.out.symm
                        have hrun2 := hide (show ∀ o, FRun (nes es) h taste ⟨ra, rb⟩ n tg st s2 o → FRun (nes es) h taste ⟨ra, rb⟩ n tg st s0 o by rw [hfin]; exact hstep.out)
                        have hkk := hide (show K + 1 = s2.ord.length by rw [hof.out]; exact hKs2.out.symm)
                        have hsok2 := hide hsm.out.ok
                        replace hfin := hide hfin
                        go_wp2
                        go_roundg (gk - 1)
                        case measure => omega
                        case rel => exact ⟨s2, ws2, a2, some ⟨g9, 0, none⟩, c2, c9, W2, K + 1, k2, rfl, rfl, hW2, hkk, hT, hwl, hsok2, hrun2, by omega, by omega, by omega⟩
                · as_aux_lemma =>
                  have hge : ¬ ((K : Int) < (st : Int)) := by omega
                  have r0 := hkp.out.cu d0.out hfm
                  have r1 := hkp.out.cu d1.out hfm
                  have r2 := hkp.out.cu d2.out hfm
                  have g0 := (hkp.out.frozen (p := ⟨bf, 0, none⟩) (by simp; omega) hfm).trans e0.out
                  have g1 := (hkp.out.frozen (p := ⟨bf, 1, none⟩) (by simp; omega) hfm).trans e1.out
                  have g2 := (hkp.out.frozen (p := ⟨bf, 2, none⟩) (by simp; omega) hfm).trans e2.out
                  have hbw2 := hide (hK0.out _ hkp.out)
                  clear hT6
                  go_wp2
                  refine bodyPost_ret (v := .tuple #[FoundNone, .int .i64 8]) (by simp [results, Try.results61, go_sem, FoundNone, r0, r1, r2, g0, g1, g2]) rfl ?_
                  rw [← hs0e.out]
                  refine ⟨.steps, hrun.out _ (.steps s u hpick.out (by have := hK.out; omega)), ?_, rfl⟩
                  exact ((hbw2.out.setCell (by simp; omega) _).setCell (by simp; omega) _).setCell (by simp; omega) _
end Go.Proofs.Ytcehdpeeaogpiaa
