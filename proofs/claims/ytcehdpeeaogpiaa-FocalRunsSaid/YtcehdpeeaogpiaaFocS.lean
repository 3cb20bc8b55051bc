/-
  What focal.Run returns where nothing is amiss. Conditions: a right net of costs above 0, guesses within their bounds, a right weight.
-/
import Derived.Test.YtcehdpeeaogpiaaFocG
import Derived.Test.YtcehdpeeaogpiaaFocRw
import Derived.Test.YtcehdpeeaogpiaaQuietH
import Derived.Test.YtcehdpeeaogpiaaRegInv
import Derived.Deep.RegionHeld3
import Derived.Deep.DeepCutAuto
import Derived.BigQuiet
import Derived.BigRegion
import Derived.Deep.QuietTactic
import Derived.Deep.LoopGhost
namespace Go.Proofs.Ytcehdpeeaogpiaa
open Go.RowKit
set_option linter.unusedSimpArgs false
set_option linter.unusedVariables false
set_option maxRecDepth 100000 in
set_option maxHeartbeats 20000000 in
theorem frun_ok (n v tg st : Nat) (a ha ta : Option Addr) (cap hc tc : Nat) (es : List Ed) (h taste : Nat → Int) (ra rb : Int) (w : World) (B : Nat) (hB : B ≤ w.heap.size) (hE : Row encE 3 w B a es) (hH : Row encI 1 w B ha (LI n h)) (hT : Row encI 1 w B ta (LI n taste)) (hn1 : 1 ≤ n) (hn : n ≤ 64) (hl : es.length ≤ 600) (hes : Right n es) (hpos : ∀ e ∈ es, 1 ≤ e.c)
    (hv : v < n) (ht : tg < n) (hh : ∀ u, u < n → 0 ≤ h u ∧ h u ≤ 1099511627776) (hr : 1 ≤ rb ∧ rb ≤ ra ∧ ra ≤ 1000000) (hst : st ≤ 100000)
    (hLk : ∀ w', Below w.heap.size w w' → Calls Try.prog 40 #[.agg #[.int .i64 (n : Int), .slice a es.length cap], .int .i64 (v : Int), .int .i64 (tg : Int), .slice ha n hc] w' fun e w'' => e = .returned (.int .i64 0) ∧ Below w'.heap.size w' w'')
    (hWt : ∀ w', Calls Try.prog 56 #[.agg #[.int .i64 ra, .int .i64 rb]] w' fun e w'' => e = .returned (.int .i64 0) ∧ Below w'.heap.size w' w'') :
    Calls Try.prog 60 #[.agg #[.int .i64 (n : Int), .slice a es.length cap], .int .i64 (v : Int), .int .i64 (tg : Int), .slice ha n hc, .agg #[.int .i64 ra, .int .i64 rb], .slice ta n tc, .int .i64 (st : Int)] w (FocAns es h taste ⟨ra, rb⟩ n tg st (fStart h v) w) := by
  have hmk := fun w => run_zeros w n (by omega)
  have hmkB := fun w => run_zerosB w n (by omega)
  replace hes := hide hes
  replace hpos := hide hpos
  replace hh := hide hh
  replace hLk := hide hLk
  replace hWt := hide hWt
  have hst0 : ¬ ((st : Int) < 0) := by omega
  have hst1 : ¬ ((st : Int) > 100000) := by omega
  go_enter Try.func60, Try.ntmps60
  go_wp2_with fail
  refine (hLk.out _ (by exact (by repeat (first | with_reducible exact Below.refl _ _ | with_reducible assumption | with_reducible refine up_drewN ?_ | with_reducible refine up_drew ?_ | (with_reducible refine up_alloc ?_ ?_; rotate_left; (first | omega | (simp <;> omega) | simp)) | (with_reducible refine up_set ?_ ?_; rotate_left; (first | omega | (simp <;> omega) | simp)) | (with_reducible refine Below.trans ?_ (Below.mono (by with_reducible assumption) ?_); rotate_left; (first | omega | (simp <;> omega) | simp)))))).mono ?_
  rintro e w1 ⟨rfl, hb1⟩
  have k0 := cu_below hb1 (p := ⟨w.heap.size, 0, none⟩) (v := .int .i64 (n : Int)) (by simp [go_sem]) (by first | omega | (simp; done) | (simp; omega))
  have k1 := cu_below hb1 (p := ⟨w.heap.size, 1, none⟩) (v := .slice a es.length cap) (by simp [go_sem]) (by first | omega | (simp; done) | (simp; omega))
  have q0 := cu_below hb1 (p := ⟨w.heap.size + 1, 0, none⟩) (v := .int .i64 ra) (by simp [go_sem]) (by first | omega | (simp; done) | (simp; omega))
  have q1 := cu_below hb1 (p := ⟨w.heap.size + 1, 1, none⟩) (v := .int .i64 rb) (by simp [go_sem]) (by first | omega | (simp; done) | (simp; omega))
  have d0 := cu_below hb1 (p := ⟨w.heap.size + 1 + 1, 0, none⟩) (v := .slice none 0 0) (by simp [go_sem]) (by first | omega | (simp; done) | (simp; omega))
  have d1 := cu_below hb1 (p := ⟨w.heap.size + 1 + 1, 1, none⟩) (v := .int .i64 0) (by simp [go_sem]) (by first | omega | (simp; done) | (simp; omega))
  have d2 := cu_below hb1 (p := ⟨w.heap.size + 1 + 1, 2, none⟩) (v := .slice none 0 0) (by simp [go_sem]) (by first | omega | (simp; done) | (simp; omega))
  have e0 := fu_below hb1 (p := ⟨w.heap.size + 1 + 1, 0, none⟩) (by simp [go_sem]) (by first | omega | (simp; done) | (simp; omega))
  have e1 := fu_below hb1 (p := ⟨w.heap.size + 1 + 1, 1, none⟩) (by simp [go_sem]) (by first | omega | (simp; done) | (simp; omega))
  have e2 := fu_below hb1 (p := ⟨w.heap.size + 1 + 1, 2, none⟩) (by simp [go_sem]) (by first | omega | (simp; done) | (simp; omega))
  have hb2 := hide ((((by repeat (first | with_reducible exact Below.refl _ _ | with_reducible assumption | with_reducible refine up_drewN ?_ | with_reducible refine up_drew ?_ | (with_reducible refine up_alloc ?_ ?_; rotate_left; (first | omega | (simp <;> omega) | simp)) | (with_reducible refine up_set ?_ ?_; rotate_left; (first | omega | (simp <;> omega) | simp)) | (with_reducible refine Below.trans ?_ (Below.mono (by with_reducible assumption) ?_); rotate_left; (first | omega | (simp <;> omega) | simp)))) : Below w.heap.size w _)).trans (hb1.mono (by first | omega | (simp; done) | (simp; omega))))
  have hz1 : w.heap.size + 1 + 1 < w1.heap.size := cell_lt d0
  clear hb1
  obtain ⟨bf, hbf⟩ : ∃ b, b = w.heap.size + 1 + 1 := ⟨_, rfl⟩
  obtain ⟨bw, hbw⟩ : ∃ b, b = w.heap.size + 1 := ⟨_, rfl⟩
  rw [← hbf] at d0 d1 d2 e0 e1 e2 hz1
  rw [← hbw] at q0 q1
  simp only [← hbf]
  simp only [← hbw]
  have hbl : w.heap.size < bw ∧ bw < bf := by omega
  replace hbf := hide hbf
  replace hbw := hide hbw
  have zg : w.heap.size < w1.heap.size := by omega
  have zw : bw < w1.heap.size := by omega
  have zf : bf < w1.heap.size := by omega
  go_wp2_with fail
  refine (hWt.out _).mono ?_
  rintro e w0 ⟨rfl, hb3⟩
  have k0 := cu_below hb3 k0 zg
  have k1 := cu_below hb3 k1 zg
  have q0 := cu_below hb3 q0 zw
  have q1 := cu_below hb3 q1 zw
  have d0 := cu_below hb3 d0 zf
  have d1 := cu_below hb3 d1 zf
  have d2 := cu_below hb3 d2 zf
  have e0 := fu_below hb3 e0 zf
  have e1 := fu_below hb3 e1 zf
  have e2 := fu_below hb3 e2 zf
  have hb4 := hide (hb2.out.trans (hb3.mono (by omega)))
  have zg : w.heap.size < w0.heap.size := cell_lt k0
  have zw : bw < w0.heap.size := cell_lt q0
  have zf : bf < w0.heap.size := cell_lt d0
  clear hb3 hb2 hz1 hLk hWt
  have hE0 := hide (hE.below hb4.out hB)
  have hH0 := hide (hH.below hb4.out hB)
  have hT0 := hide (hT.below hb4.out hB)
  clear hE hH hT
  have hnn : ((n : Int) != (n : Int)) = false := by simp
  go_upto_region 9 with fail
  have key0 := hide (show ∀ w', Below w0.heap.size w0 w' → (Below w0.heap.size w0 w' ∧ w'.cell? ⟨w.heap.size, 0, none⟩ = some (.int .i64 (n : Int)) ∧ w'.cell? ⟨bw, 0, none⟩ = some (.int .i64 ra) ∧ w'.cell? ⟨bw, 1, none⟩ = some (.int .i64 rb) ∧ w0.heap.size ≤ w'.heap.size) from
    fun w' hb => ⟨hb, cu_below hb k0 zg, cu_below hb q0 zw, cu_below hb q1 zw, hb.size⟩)
  replace k0 := hide k0
  replace k1 := hide k1
  replace d0 := hide d0
  replace d1 := hide d1
  replace d2 := hide d2
  replace e0 := hide e0
  replace e1 := hide e1
  replace e2 := hide e2
  clear q0 q1
  go_cut [18] (fun s18 wx => MidF w0 n (.slice ha n hc) (.slice ta n tc) ra rb s18 wx)
  case first =>
    refine wp_region_inv 12 (by kernel_rfl) [some 56, some 57, some 58, some 59, some 60, some 61, some 62, some 63, some 64, some 65, some 66, some 67] (FFs w0 n (.slice ha n hc) (.slice ta n tc) ra rb w.heap.size) (fun w' => Below w0.heap.size w0 w' ∧ w'.cell? ⟨w.heap.size, 0, none⟩ = some (.int .i64 (n : Int)) ∧ w'.cell? ⟨bw, 0, none⟩ = some (.int .i64 ra) ∧ w'.cell? ⟨bw, 1, none⟩ = some (.int .i64 rb) ∧ w0.heap.size ≤ w'.heap.size) (fun w w' => Below w.heap.size w w') (by kernel_rfl) (by kernel_rfl) (by kernel_rfl) (by kernel_rfl) (ffs_stays) (fun _ _ h => h.size) (key0.out _ (below_drew _)) ?steps ?hend
    case steps =>
      refine ⟨?_, ?_, ?_, ?_, ?_, ?_, ?_, ?_, ?_, ?_, ?_, ?_, trivial⟩
      · intro X L H wI hS hd K hK
        have hS0 := hide hS
        (try dsimp only at hS)
        simp only [putAll, Act.put, List.setIfInBounds_toArray, List.set_cons_zero, List.set_cons_succ]
        go_simp
        refine hK _ _ wI.heap.size wI.heap.size _ ?_ (Nat.le_refl _) (Nat.le_refl _) (Nat.le_refl _) (Below.refl _ _) hS0.out rfl
        simp only [putAll, Act.put, List.setIfInBounds_toArray, List.set_cons_zero, List.set_cons_succ]
      · intro X L H wI hS hd K hK
        have hS0 := hide hS
        (try dsimp only at hS)
        simp only [putAll, Act.put, List.setIfInBounds_toArray, List.set_cons_zero, List.set_cons_succ]
        go_simp
        refine hK _ _ wI.heap.size wI.heap.size _ ?_ (Nat.le_refl _) (Nat.le_refl _) (Nat.le_refl _) (Below.refl _ _) hS0.out rfl
        simp only [putAll, Act.put, List.setIfInBounds_toArray, List.set_cons_zero, List.set_cons_succ]
      · intro X L H wI hS hd K hK
        have hS0 := hide hS
        (try dsimp only at hS)
        simp only [putAll, Act.put, List.setIfInBounds_toArray, List.set_cons_zero, List.set_cons_succ]
        go_simp
        refine hK _ _ wI.heap.size wI.heap.size _ ?_ (Nat.le_refl _) (Nat.le_refl _) (Nat.le_refl _) (Below.refl _ _) hS0.out rfl
        simp only [putAll, Act.put, List.setIfInBounds_toArray, List.set_cons_zero, List.set_cons_succ]
      · intro X L H wI hS hd K hK
        have h2 : X 2 = _ := hd 2 (by kernel_rfl)
        have hS0 := hide hS
        (try dsimp only at hS)
        simp only [putAll, Act.put, List.setIfInBounds_toArray, List.set_cons_zero, List.set_cons_succ]
        go_simp
        refine hK _ _ wI.heap.size wI.heap.size _ ?_ (Nat.le_refl _) (Nat.le_refl _) (Nat.le_refl _) (Below.refl _ _) hS0.out rfl
        simp only [putAll, Act.put, List.setIfInBounds_toArray, List.set_cons_zero, List.set_cons_succ, h2]
      · intro X L H wI hS hd K hK
        (try have h3 : X 3 = _ := hd 3 (by kernel_rfl))
        have hS0 := hide hS
        (try dsimp only at hS)
        simp only [putAll, Act.put, List.setIfInBounds_toArray, List.set_cons_zero, List.set_cons_succ]
        (go_simp; exact hK _ _ wI.heap.size (wI.heap.size + 1) _ (by simp only [putAll, Act.put, List.setIfInBounds_toArray, List.set_cons_zero, List.set_cons_succ, h3]) (Nat.le_refl _) (by omega) (by simp) ((Below.refl _ _).alloc (Nat.le_refl _) _) (key0.out _ (hS0.out.1.alloc hS0.out.2.2.2.2 _)) ⟨rfl, by omega, own_zeros _ _ _ hS0.out.2.2.2.2 (by omega)⟩)
      · intro X L H wI hS hd K hK
        have hS0 := hide hS
        (try dsimp only at hS)
        simp only [putAll, Act.put, List.setIfInBounds_toArray, List.set_cons_zero, List.set_cons_succ]
        go_simp
        refine hK _ _ wI.heap.size wI.heap.size _ ?_ (Nat.le_refl _) (Nat.le_refl _) (Nat.le_refl _) (Below.refl _ _) hS0.out rfl
        simp only [putAll, Act.put, List.setIfInBounds_toArray, List.set_cons_zero, List.set_cons_succ]
      · intro X L H wI hS hd K hK
        have h5 : X 5 = _ := hd 5 (by kernel_rfl)
        have hS0 := hide hS
        (try dsimp only at hS)
        simp only [putAll, Act.put, List.setIfInBounds_toArray, List.set_cons_zero, List.set_cons_succ]
        go_simp
        refine hK _ _ wI.heap.size wI.heap.size _ ?_ (Nat.le_refl _) (Nat.le_refl _) (Nat.le_refl _) (Below.refl _ _) hS0.out rfl
        simp only [putAll, Act.put, List.setIfInBounds_toArray, List.set_cons_zero, List.set_cons_succ, h5]
      · intro X L H wI hS hd K hK
        (try have h6 : X 6 = _ := hd 6 (by kernel_rfl))
        have hS0 := hide hS
        (try dsimp only at hS)
        simp only [putAll, Act.put, List.setIfInBounds_toArray, List.set_cons_zero, List.set_cons_succ]
        (go_simp; exact hK _ _ wI.heap.size (wI.heap.size + 1) _ (by simp only [putAll, Act.put, List.setIfInBounds_toArray, List.set_cons_zero, List.set_cons_succ, h6]) (Nat.le_refl _) (by omega) (by simp) ((Below.refl _ _).alloc (Nat.le_refl _) _) (key0.out _ (hS0.out.1.alloc hS0.out.2.2.2.2 _)) ⟨rfl, by omega, own_zeros _ _ _ hS0.out.2.2.2.2 (by omega)⟩)
      · intro X L H wI hS hd K hK
        have hS0 := hide hS
        (try dsimp only at hS)
        simp only [putAll, Act.put, List.setIfInBounds_toArray, List.set_cons_zero, List.set_cons_succ]
        go_simp
        refine hK _ _ wI.heap.size wI.heap.size _ ?_ (Nat.le_refl _) (Nat.le_refl _) (Nat.le_refl _) (Below.refl _ _) hS0.out rfl
        simp only [putAll, Act.put, List.setIfInBounds_toArray, List.set_cons_zero, List.set_cons_succ]
      · intro X L H wI hS hd K hK
        have h8 : X 8 = _ := hd 8 (by kernel_rfl)
        have hS0 := hide hS
        (try dsimp only at hS)
        simp only [putAll, Act.put, List.setIfInBounds_toArray, List.set_cons_zero, List.set_cons_succ]
        go_simp
        refine hK _ _ wI.heap.size wI.heap.size _ ?_ (Nat.le_refl _) (Nat.le_refl _) (Nat.le_refl _) (Below.refl _ _) hS0.out rfl
        simp only [putAll, Act.put, List.setIfInBounds_toArray, List.set_cons_zero, List.set_cons_succ, h8]
      · intro X L H wI hS hd K hK
        (try have h9 : X 9 = _ := hd 9 (by kernel_rfl))
        have hS0 := hide hS
        (try dsimp only at hS)
        simp only [putAll, Act.put, List.setIfInBounds_toArray, List.set_cons_zero, List.set_cons_succ]
        (go_simp; exact hK _ _ wI.heap.size (wI.heap.size + 1) _ (by simp only [putAll, Act.put, List.setIfInBounds_toArray, List.set_cons_zero, List.set_cons_succ, h9]) (Nat.le_refl _) (by omega) (by simp) ((Below.refl _ _).alloc (Nat.le_refl _) _) (key0.out _ (hS0.out.1.alloc hS0.out.2.2.2.2 _)) ⟨rfl, by omega, by rw [← lb_ordB]; exact own_zerosB _ _ _ hS0.out.2.2.2.2 (by omega)⟩)
      · intro X L H wI hS hd K hK
        have hS0 := hide hS
        (try dsimp only at hS)
        simp only [putAll, Act.put, List.setIfInBounds_toArray, List.set_cons_zero, List.set_cons_succ]
        go_simp
        refine hK _ _ wI.heap.size wI.heap.size _ ?_ (Nat.le_refl _) (Nat.le_refl _) (Nat.le_refl _) (Below.refl _ _) hS0.out rfl
        simp only [putAll, Act.put, List.setIfInBounds_toArray, List.set_cons_zero, List.set_cons_succ]
    case hend =>
      intro X L H wI hS hF hP
      (have f0 : X 0 = _ := (hF 0 (by omega)).1; have f1 : X 1 = _ := (hF 1 (by omega)).1; obtain ⟨f4, l4, o4⟩ := (hF 4 (by omega)).1; obtain ⟨f7, l7, o7⟩ := (hF 7 (by omega)).1; obtain ⟨f10, l10, o10⟩ := (hF 10 (by omega)).1; have f11 : X 11 = _ := (hF 11 (by omega)).1; have z4 := (hF 4 (by omega)).2; have z7 := (hF 7 (by omega)).2; have z10 := (hF 10 (by omega)).2; have p4_7 := hP 4 7 (by omega) (by omega) (by omega); have p4_10 := hP 4 10 (by omega) (by omega) (by omega); have p7_10 := hP 7 10 (by omega) (by omega) (by omega); have hS' := hide hS; clear hS hF hP; replace o4 := hide o4; replace o7 := hide o7; replace o10 := hide o10)
      simp only [putAll, Act.put, List.setIfInBounds_toArray, List.set_cons_zero, List.set_cons_succ, f0, f1, f4, f7, f10, f11]
      change wpAny _ _ _ _ (2 + 1) _ _ _
      refine wpAny_ready (rs := [12]) (by kernel_rfl) (by simp) (AllReady.cons rfl (fun K hK => ?_) AllReady.nil)
      go_simp
      refine hK _ _ ?_
      clear hK K
      change wpAny _ _ _ _ (1 + 1) _ _ _
      refine wpAny_ready (rs := [13]) (by kernel_rfl) (by simp) (AllReady.cons rfl (fun K hK => ?_) AllReady.nil)
      go_simp
      refine hK _ _ ?_
      clear hK K
      change wpAny _ _ _ _ (0 + 1) _ _ _
      refine wpAny_ready (rs := [14]) (by kernel_rfl) (by simp) (AllReady.cons rfl (fun K hK => ?_) AllReady.nil)
      go_simp
      refine hK _ _ ?_
      clear hK K
      refine wpAny_done (by kernel_rfl) ?_ _
      go_wp2_with fail
      go_meet
      case rel =>
        have hb := (Below.refl wI.heap.size wI).alloc (Nat.le_refl _) (.cells #[.slice ha n hc, .slice ta n tc, .slice (some ⟨L 4, 0, none⟩) n n, .slice (some ⟨L 7, 0, none⟩) n n, .slice (some ⟨L 10, 0, none⟩) n n, .int .i64 ra, .int .i64 rb] 172)
        refine ⟨wI.heap.size, L 4, L 7, L 10, rfl, ⟨by simp [go_sem], by simp [go_sem], by simp [go_sem], by simp [go_sem], by simp [go_sem], by simp [go_sem], by simp [go_sem], o4.out.stays hb, o7.out.stays hb, o10.out.stays hb, Keep.refl _ _, ?_, ?_⟩, hS'.out.1.trans (hb.mono hS'.out.2.2.2.2), hS'.out.2.2.2.2⟩
        · simp; omega
        · omega
  case rest =>
    clear hmk hmkB key0
    obtain ⟨sb, gc, gp, gw, rfl, hX0, hbS, hsbl⟩ := hcut
    obtain ⟨wS, hwS⟩ : ∃ wS, wS = wc := ⟨_, rfl⟩
    simp only [← hwS] at hX0 hbS ⊢
    clear hwS wc
    have hlo1 : w0.heap.size ≤ gc := hX0.cost.at_base.1
    have hlo2 : w0.heap.size ≤ gp := hX0.pred.at_base.1
    have hlo3 : w0.heap.size ≤ gw := hX0.wait.at_base.1
    have hne := hide hX0.ne
    have hzS : w0.heap.size ≤ wS.heap.size := hbS.size
    replace hX0 := hide hX0
    replace hbS := hide hbS
    have x2 := hX0.out.c2
    have zsb := cell_lt x2
    have zgS : w.heap.size < wS.heap.size := by omega
    go_wp2
    go_loopw [75] (fun i wr => ∃ k : Nat, k ≤ n ∧ i = .int .i64 (k : Int) ∧ Hid (FX w0.heap.size n sb gc gp gw (.slice ha n hc) (.slice ta n tc) ra rb ⟨first k (fun _ => FAR) (fun _ => 0), first k (fun _ => -1) (fun _ => 0), fun _ => false, []⟩ wS wr)) (fun i _ => n - (intOf i).toNat)
    case atStart => exact ⟨0, Nat.zero_le _, rfl, by rw [first_zero, first_zero]; exact hX0⟩
    case round =>
      clear hX0 x2
      obtain ⟨k, hk, rfl, hX⟩ := hrel
      have hne' := hne.out
      have y2 := hX.out.c2
      have y3 := hX.out.c3
      have zs := cell_lt y2
      by_cases hlt : k < n
      · have kc := hX.out.cost.atI k hlt
        have kp := hX.out.pred.atI k hlt
        have fc := hX.out.cost.free k
        have fp := hX.out.pred.free k
        have zc := cell_lt kc
        have zp := cell_lt kp
        have hX2 := (hX.out.setC k hlt FAR).setP k hlt (-1)
        simp only [first_step k (fun _ => FAR) (fun _ => 0), first_step k (fun _ => (-1 : Int)) (fun _ => 0)] at hX2
        replace hX2 := hide hX2
        have ik : (0 : Int) ≤ (k : Int) ∧ (k : Int) < (n : Int) := by omega
        generalize (first k (fun _ => FAR) (fun _ => 0)) k = y1 at kc
        generalize (first k (fun _ => (-1 : Int)) (fun _ => 0)) k = yy2 at kp
        unfold FAR at hX2
        go_wp2
        go_region
        go_wp2
        go_roundw
        case rel => exact ⟨k + 1, by omega, by go_num, by unfold FAR; first | exact hX2 | exact hide (hX2.out.stays (below_drew _))⟩
        case measure => simp [intOf]; omega
      · obtain rfl : n = k := by omega
        have hXs := hide (hX.out.recost ⟨fun _ => FAR, fun _ => -1, fun _ => false, []⟩ (by rw [first_all]) (by rw [first_all]) rfl)
        have dC := hXs.out.cost.atI v hv
        have fC := hXs.out.cost.free v
        have dW := hXs.out.wait.atLB v hv
        have fW := hXs.out.wait.free v
        have zc := cell_lt dC
        have zw2 := cell_lt dW
        have y4 := hXs.out.c4
        have iv : (0 : Int) ≤ (v : Int) ∧ (v : Int) < (n : Int) := by omega
        have hlt2 := hXs.out.lt
        have hsz := hXs.out.keep.size
        have hHr := hH0.out.below (hbS.out.trans (hXs.out.keep.toBelow (fun j hj => by rcases hj with h1 | h1 | h1 <;> omega) hzS)) (by omega)
        obtain ⟨b0, o0, rfl, hb0, f0⟩ := hHr.atI v hv
        obtain ⟨y0, hy0⟩ : ∃ y, y = h v := ⟨_, rfl⟩
        rw [← hy0] at f0
        have hy1 := hh.out v hv
        have hX3 := hide ((hXs.out.setC v hv 0).setW v hv (decide (y0 < 1099511627776)))
        have hX3' := hide (((hXs.out.setC v hv 0).stays (below_drew _)).setW v hv (decide (y0 < 1099511627776)))
        have f0' : (wr.setCell ⟨gc, v, none⟩ (.int .i64 0)).cell? ⟨b0, o0 + v, none⟩ = some (.int .i64 y0) := cu_set f0 (by simp; omega)
        have y4' : (wr.setCell ⟨gc, v, none⟩ (.int .i64 0)).cell? ⟨sb, 4, none⟩ = some (.slice (some ⟨gw, 0, none⟩) n n) := cu_set y4 (by simp; omega)
        have dW' : (wr.setCell ⟨gc, v, none⟩ (.int .i64 0)).cell? ⟨gw, v, none⟩ = some (.bool false) := cu_set dW (by simp; omega)
        have zb0 : b0 < wr.heap.size := by omega
        have hdec : decide (y0 < 1099511627776) = decide (h v ≠ FAR) := by
          rw [hy0]
          have := hh.out v hv
          by_cases hq : h v = FAR
          · simp [hq, FAR]
          · have : h v < 1099511627776 := by unfold FAR at hq; omega
            simp [hq, this]
        replace hdec := hide hdec
        replace hy0 := hide hy0
        clear hX hHr
        go_wp2
        go_region
        have hXd : Hid (FX w0.heap.size n sb gc gp gw (.slice (some ⟨b0, o0, none⟩) n hc) (.slice ta n tc) ra rb (fStart h v) wS ((wr.setCell ⟨gc, v, none⟩ (.int .i64 0)).setCell ⟨gw, v, none⟩ (.bool (decide (y0 < 1099511627776)))).drew) := hide (by
          have := hX3.out.stays (below_drew _)
          rw [hdec.out] at this ⊢
          exact this)
        clear hX3 hX3' hXs dC fC dW fW y2 y3 y4 f0 f0' y4' dW' zc zw2 zs hdec
        generalize ((wr.setCell ⟨gc, v, none⟩ (.int .i64 0)).setCell ⟨gw, v, none⟩ (.bool (decide (y0 < 1099511627776)))).drew = w3 at hXd ⊢
        have hb3 : Below w0.heap.size w0 w3 := hbS.out.trans (hXd.out.keep.toBelow (fun j hj => by rcases hj with h1 | h1 | h1 <;> omega) hzS)
        have k0 := cu_below hb3 k0.out zg
        have k1 := cu_below hb3 k1.out zg
        have d0 := cu_below hb3 d0.out zf
        have d1 := cu_below hb3 d1.out zf
        have d2 := cu_below hb3 d2.out zf
        have e0 := fu_below hb3 e0.out zf
        have e1 := fu_below hb3 e1.out zf
        have e2 := fu_below hb3 e2.out zf
        have hz3 : w0.heap.size ≤ w3.heap.size := hb3.size
        have zg3 : w.heap.size < w3.heap.size := by omega
        have hE3 := hide (hE0.out.below hb3 (by omega))
        have hH3 := hide (hH0.out.below hb3 (by omega))
        have hT3 := hide (hT0.out.below hb3 (by omega))
        have hb5 := hide (hb4.out.trans (hb3.mono (by omega)))
        have hlt3 := hXd.out.lt
        have hsz3 := hXd.out.keep.size
        clear hb3 hE0 hH0 hT0 hbS
        go_wp2_with fail
        refine (outs_any n a cap es w3 w3.heap.size (Nat.le_refl _) (hE3.out.mono (by omega)) hn (by omega) (fun e he => by have := hes.out e he; omega)).mono ?_
        rintro e w5 ⟨O, rfl, oOwn, hb6⟩
        have hOu := hide (OutsAt.made oOwn)
        have hX5 := hide (hXd.out.stays hb6).rebase
        have k0 := cu_below hb6 k0 zg3
        have k1 := cu_below hb6 k1 zg3
        have d0 := cu_below hb6 d0 (by first | omega | (simp; done) | (simp; omega))
        have d1 := cu_below hb6 d1 (by first | omega | (simp; done) | (simp; omega))
        have d2 := cu_below hb6 d2 (by first | omega | (simp; done) | (simp; omega))
        have e0 := fu_below hb6 e0 (by first | omega | (simp; done) | (simp; omega))
        have e1 := fu_below hb6 e1 (by first | omega | (simp; done) | (simp; omega))
        have e2 := fu_below hb6 e2 (by first | omega | (simp; done) | (simp; omega))
        have hz5 : w3.heap.size ≤ w5.heap.size := hb6.size
        have hE5 := hide (hE3.out.below hb6 (by omega))
        have hH5 := hide (hH3.out.below hb6 (by omega))
        have hT5 := hide (hT3.out.below hb6 (by omega))
        have hb7 := hide (hb5.out.trans (hb6.mono (by omega)))
        clear hb6 hE3 hH3 hT3 hb5 oOwn hXd
        have hgl : gc < w3.heap.size ∧ gp < w3.heap.size ∧ gw < w3.heap.size ∧ sb < w3.heap.size := by omega
        have hgB := hide (show ∀ j, FXb gc gp gw j → w0.heap.size ≤ j ∧ j < w3.heap.size from fun j hj => by rcases hj with h1 | h1 | h1 <;> omega)
        have hK5 := hide (show ∀ w', Keep (FXb gc gp gw) w5 w' → Below w.heap.size w w' from fun w' hk => hb7.out.trans (hk.toBelow (fun j hj => by have := hgB.out j hj; omega) (by omega)))
        have hEk := hide (show ∀ w', Keep (FXb gc gp gw) w5 w' → Row encE 3 w' B a es from fun w' hk => hk.row hE5.out (by omega) (fun j hj hj2 => by have := hgB.out j hj2; omega))
        have hHk := hide (show ∀ w', Keep (FXb gc gp gw) w5 w' → Row encI 1 w' B (some ⟨b0, o0, none⟩) (LI n h) from fun w' hk => hk.row hH5.out (by omega) (fun j hj hj2 => by have := hgB.out j hj2; omega))
        have hTk := hide (show ∀ w', Keep (FXb gc gp gw) w5 w' → Row encI 1 w' B ta (LI n taste) from fun w' hk => hk.row hT5.out (by omega) (fun j hj hj2 => by have := hgB.out j hj2; omega))
        have hVk := hide (show ∀ (s : FR) w', FX w0.heap.size n sb gc gp gw (.slice (some ⟨b0, o0, none⟩) n hc) (.slice ta n tc) ra rb s w5 w' → FOk n v h s → s.ord.length ≤ 100000 → FV w0.heap.size n sb gc gp gw hc tc B (some ⟨b0, o0, none⟩) ta ra rb h taste s w5 w' from fun s w' hx hok hol =>
          ⟨hx, hHk.out _ hx.keep, hTk.out _ hx.keep, by have := hx.keep.size; omega, hn, hh.out, fun u hu => by rcases hok.cb u with h1 | h1; (unfold FAR at h1; omega); omega⟩)
        have hPick := hide (show ∀ (s : FR) w', FX w0.heap.size n sb gc gp gw (.slice (some ⟨b0, o0, none⟩) n hc) (.slice ta n tc) ra rb s w5 w' → FOk n v h s → s.ord.length ≤ 100000 → Calls Try.prog 132 #[.pointer (some ⟨sb, 0, none⟩)] w' fun e w'' => ∃ p, e = .returned (.int .i64 p) ∧ PickAns h taste ⟨ra, rb⟩ n s p ∧ ∃ m, w'' = w'.drewN m from fun s w' hx hok hol => fpick_any w0.heap.size n sb gc gp gw hc tc B (some ⟨b0, o0, none⟩) ta ra rb h taste s w5 w' (hVk.out s w' hx hok hol) hr)
        have hok0 := hide (fok_start (n := n) (v := v) (h := h))
        obtain ⟨s0, hs0⟩ : ∃ s0, s0 = fStart h v := ⟨_, rfl⟩
        rw [← hs0] at hX5 hok0
        have hol0 : s0.ord = [] := by rw [hs0]; rfl
        replace hs0 := hide hs0
        have hPk0 := hide (hPick.out s0 w5 hX5.out hok0.out (by rw [hol0]; simp))
        clear hVk
        go_wp2_with fail
        refine hPk0.out.mono ?_
        rintro e w6 ⟨p, rfl, hpa, m6, hw6⟩
        have hX6 := hide (show FX w0.heap.size n sb gc gp gw (.slice (some ⟨b0, o0, none⟩) n hc) (.slice ta n tc) ra rb s0 w5 w6 by rw [hw6]; exact hX5.out.stays (up_drewN (Below.refl _ _)))
        have hpa0 := hide hpa
        have ho0 := hide (show Own encI 1 3 w6 w5.heap.size (.slice none 0 0) (LP s0.ord) by rw [hol0]; exact Own.nil _ _)
        have hK0 := hide (show 0 = s0.ord.length by rw [hol0]; rfl)
        have hrun0 := hide (show ∀ o, FRun (nes es) h taste ⟨ra, rb⟩ n tg st s0 o → FRun (nes es) h taste ⟨ra, rb⟩ n tg st s0 o from fun o h => h)
        replace hw6 := hide hw6
        replace hol0 := hide hol0
        clear hX5 hPk0 hpa
        go_wp2_with fail
        go_loopg [21, 22] (st + 1) (fun gk s21 s22 wr => ∃ (s : FR) (p : Int) (ao : Option Addr) (co K : Nat), s21 = .slice ao K co ∧ s22 = .int .i64 p ∧ Hid (K = s.ord.length) ∧ Hid (FX w0.heap.size n sb gc gp gw (.slice (some ⟨b0, o0, none⟩) n hc) (.slice ta n tc) ra rb s w5 wr) ∧ Hid (PickAns h taste ⟨ra, rb⟩ n s p) ∧ Hid (FOk n v h s) ∧ Hid (∀ o, FRun (nes es) h taste ⟨ra, rb⟩ n tg st s o → FRun (nes es) h taste ⟨ra, rb⟩ n tg st s0 o) ∧ Hid (Own encI 1 3 wr w5.heap.size (.slice ao K co) (LP s.ord)) ∧ K + gk = st + 1 ∧ K ≤ st)
        case atStart => exact ⟨s0, p, none, 0, 0, rfl, rfl, hK0, hX6, hpa0, hok0, hrun0, ho0, by omega, by omega⟩
        case round =>
          clear hX6 hpa0 hok0 hrun0 ho0 hK0
          obtain ⟨s, p, ao, co, K, rfl, rfl, hK, hX, hpa, hok, hrun, hO, hKg, hKle⟩ := hrel
          have hkp := hide hX.out.keep
          have hbw2 := hide (hK5.out _ hX.out.keep)
          have hzr : w5.heap.size ≤ wr.heap.size := hX.out.keep.size
          have hfb : ¬ FXb gc gp gw bf := fun h1 => by have := hgB.out _ h1; omega
          have r0 := hkp.out.cu d0 hfb
          have r1 := hkp.out.cu d1 hfb
          have r2 := hkp.out.cu d2 hfb
          have g0 := (hkp.out.frozen (p := ⟨bf, 0, none⟩) (by first | omega | (simp; done) | (simp; omega)) hfb).trans e0
          have g1 := (hkp.out.frozen (p := ⟨bf, 1, none⟩) (by first | omega | (simp; done) | (simp; omega)) hfb).trans e1
          have g2 := (hkp.out.frozen (p := ⟨bf, 2, none⟩) (by first | omega | (simp; done) | (simp; omega)) hfb).trans e2
          have zfr : bf < wr.heap.size := by omega
          have hbfl : w.heap.size ≤ bf := by omega
          rcases hpa.out with ⟨rfl, hnw⟩ | ⟨u, rfl, hpu⟩
          · replace hnw := hide hnw
            go_wp2
            refine bodyPost_ret (v := .tuple #[FoundNone, .int .i64 5]) (by simp [results, Try.results60, go_sem, FoundNone, r0, r1, r2, g0, g1, g2]) rfl ?_
            rw [← hs0.out]
            exact ⟨.none, hrun.out _ (.none s hnw.out), ((hbw2.out.setCell hbfl _).setCell hbfl _).setCell hbfl _, rfl⟩
          · have hun : u < n := (pick_wt hpu).1
            have hpw := (pick_wt hpu).2
            replace hpu := hide hpu
            by_cases hKs : K = st
            · have q2 : ((K : Int) == (st : Int)) = true := by simp; omega
              have hsl : st ≤ s.ord.length := by have := hK.out; omega
              go_wp2
              refine bodyPost_ret (v := .tuple #[FoundNone, .int .i64 8]) (by simp [results, Try.results60, go_sem, FoundNone, r0, r1, r2, g0, g1, g2]) rfl ?_
              rw [← hs0.out]
              exact ⟨.steps, hrun.out _ (.steps s u hpu.out hsl), ((hbw2.out.setCell hbfl _).setCell hbfl _).setCell hbfl _, rfl⟩
            · have q2 : ((K : Int) == (st : Int)) = false := by simp; omega
              have hsl : s.ord.length < st := by have := hK.out; omega
              have hkl : (LP s.ord).length = K := by rw [lp_len]; exact hK.out.symm
              have hlp := hide (lp_app s.ord u)
              have hob := hide (show ∀ j, (Value.slice ao K co).ownBlock = some j → w5.heap.size ≤ j ∧ j < wr.heap.size from hO.out.block_lt)
              clear r0 r1 r2 g0 g1 g2
              go_upto_region 25 with (at_builtin; (refine wpList_pushL (e := 3) (enc := encI) (xs := (LP s.ord)) (v := .slice ao (K) co) (base := w5.heap.size) rfl (.tmp 121) (.tmp 123) 29 rfl _ 8 Try.underlying29 info_int rfl ?d17 lenI oneI (K) ?d27 ?d37 ?d47 ⟨wr.heap.size, 0, none⟩ 1 (u : Int) ?d57 ?d67 ?d77 ?d87 ?d97 ?_); (case d17 => omega); (case d27 => exact hkl); (case d37 => rfl); (case d47 => exact (hO.out.alloc _)); (case d57 => rfl); (case d67 => exact newI _ _ _ _ rfl); (case d77 => omega); (case d87 => unfold maxLen; omega); (case d97 => first | omega | (simp; done) | (simp; omega)); intro g7 c7 w7 own7 hb7 hgr7 hat7 hgl7; rw [← hlp.out] at own7; have kp7 := Keep.grown (S := fun j => (Value.slice ao K co).ownBlock = some j) (Keep.refl _ _) hgr7 (fun j hj => .inl hj); have hX7 := hide (((hX.out.stays ((Below.refl _ _).alloc (Nat.le_refl _) (.cells #[.int .i64 (u : Int)] 3))).other kp7 (fun j hj => (hob.out j hj).1)).reord (s.ord ++ [u])); replace own7 := hide own7; replace hgr7 := hide hgr7; replace hb7 := hide hb7; clear kp7)
              have hz7 : w5.heap.size ≤ w7.heap.size := hX7.out.keep.size
              have hg7 : w5.heap.size ≤ g7 := own7.out.at_base.1
              have hK7 := hide (show K + 1 = (s.ord ++ [u]).length by simp [hK.out])
              clear hX hob hgr7 hb7 hat7 hlp hkl hO
              by_cases hut : u = tg
              · have q3 : ((u : Int) == (tg : Int)) = true := by rw [hut]; simp
                have y3 := hX7.out.c3
                have zsb7 := cell_lt y3
                have hkp7 := hide hX7.out.keep
                have ng0 := hkp7.out.cu k0 (fun h1 => by have := hgB.out _ h1; simp at this; omega)
                have ng1 := hkp7.out.cu k1 (fun h1 => by have := hgB.out _ h1; simp at this; omega)
                have r0 := hkp7.out.cu d0 hfb
                have r1 := hkp7.out.cu d1 hfb
                have r2 := hkp7.out.cu d2 hfb
                have g0 := (hkp7.out.frozen (p := ⟨bf, 0, none⟩) (by first | omega | (simp; done) | (simp; omega)) hfb).trans e0
                have g1 := (hkp7.out.frozen (p := ⟨bf, 1, none⟩) (by first | omega | (simp; done) | (simp; omega)) hfb).trans e1
                have g2 := (hkp7.out.frozen (p := ⟨bf, 2, none⟩) (by first | omega | (simp; done) | (simp; omega)) hfb).trans e2
                have zg7 : w.heap.size < w7.heap.size := by omega
                have zf7 : bf < w7.heap.size := by omega
                have huF := (hok.out.wt u hpw).1
                obtain ⟨lc, hch, hll, hlm⟩ := fway hok.out hun huF
                obtain ⟨LQ, hL⟩ : ∃ LQ, LQ = lc.length := ⟨_, rfl⟩
                obtain ⟨cst, hcst⟩ : ∃ c, c = (wcost (n : Int) es (LP lc.reverse)).1 := ⟨_, rfl⟩
                have hWk := hide (fun (w' : World) (hb : Below w7.heap.size w7 w') => walked_any n tg LQ a (some ⟨gp, 0, none⟩) cap n es s.pred lc cst w' B (by have := hb.size; omega) ((hEk.out w7 hkp7.out).below hb (by omega)) (own_row (hX7.out.pred.stays hb)) (hut ▸ hch) hn hll hlm (by omega) hcst.symm hL.symm)
                have hch2 := hide hch
                have hut2 := hide hut
                have key2 := hide (show ∀ w', Below w7.heap.size w7 w' → (Below w7.heap.size w7 w' ∧ w'.cell? ⟨w.heap.size, 0, none⟩ = some (.int .i64 (n : Int)) ∧ w'.cell? ⟨w.heap.size, 1, none⟩ = some (.slice a es.length cap) ∧ w'.cell? ⟨sb, 3, none⟩ = some (.slice (some ⟨gp, 0, none⟩) n n) ∧ w7.heap.size ≤ w'.heap.size) from
                  fun w' hb => ⟨hb, cu_below hb ng0 zg7, cu_below hb ng1 zg7, cu_below hb y3 zsb7, hb.size⟩)
                have hbw7 := hide (hK5.out _ hkp7.out)
                replace hcst := hide hcst
                replace hL := hide hL
                clear hch hlm hll hut ng0 ng1 y3 hX7
                go_upto_region 26 with fail
                refine wp_region_inv 8 (by kernel_rfl) [some 128, some 129, some 130, some 131, some 132, some 133, some 134, some 135] (FFb (.agg #[.int .i64 (n : Int), .slice a es.length cap]) sb gp n tg cst (.slice (some ⟨g7, 0, none⟩) (K + 1) c7) LQ (LP lc.reverse) w7.heap.size) (fun w' => Below w7.heap.size w7 w' ∧ w'.cell? ⟨w.heap.size, 0, none⟩ = some (.int .i64 (n : Int)) ∧ w'.cell? ⟨w.heap.size, 1, none⟩ = some (.slice a es.length cap) ∧ w'.cell? ⟨sb, 3, none⟩ = some (.slice (some ⟨gp, 0, none⟩) n n) ∧ w7.heap.size ≤ w'.heap.size) (fun w w' => Below w.heap.size w w') (by kernel_rfl) (by kernel_rfl) (by kernel_rfl) (by kernel_rfl) (ffb_stays) (fun _ _ h => h.size) (key2.out _ (below_drew _)) ?steps ?hend
                case steps =>
                  refine ⟨?_, ?_, ?_, ?_, ?_, ?_, ?_, ?_, trivial⟩
                  · intro X L H wI hS hd K hK
                    have hS0 := hide hS
                    (try dsimp only at hS)
                    simp only [putAll, Act.put, List.setIfInBounds_toArray, List.set_cons_zero, List.set_cons_succ]
                    go_simp
                    refine hK _ _ wI.heap.size wI.heap.size _ ?_ (Nat.le_refl _) (Nat.le_refl _) (Nat.le_refl _) (Below.refl _ _) hS0.out rfl
                    simp only [putAll, Act.put, List.setIfInBounds_toArray, List.set_cons_zero, List.set_cons_succ]
                  · intro X L H wI hS hd K hK
                    have hS0 := hide hS
                    (try dsimp only at hS)
                    simp only [putAll, Act.put, List.setIfInBounds_toArray, List.set_cons_zero, List.set_cons_succ]
                    go_simp
                    refine hK _ _ wI.heap.size wI.heap.size _ ?_ (Nat.le_refl _) (Nat.le_refl _) (Nat.le_refl _) (Below.refl _ _) hS0.out rfl
                    simp only [putAll, Act.put, List.setIfInBounds_toArray, List.set_cons_zero, List.set_cons_succ]
                  · intro X L H wI hS hd K hK
                    have h1 : X 1 = _ := hd 1 (by kernel_rfl)
                    have hS0 := hide hS
                    (try dsimp only at hS)
                    simp only [putAll, Act.put, List.setIfInBounds_toArray, List.set_cons_zero, List.set_cons_succ]
                    go_simp
                    refine hK _ _ wI.heap.size wI.heap.size _ ?_ (Nat.le_refl _) (Nat.le_refl _) (Nat.le_refl _) (Below.refl _ _) hS0.out rfl
                    simp only [putAll, Act.put, List.setIfInBounds_toArray, List.set_cons_zero, List.set_cons_succ, h1]
                  · intro X L H wI hS hd K hK
                    have h2 : X 2 = _ := hd 2 (by kernel_rfl)
                    have hS0 := hide hS
                    (try dsimp only at hS)
                    simp only [putAll, Act.put, List.setIfInBounds_toArray, List.set_cons_zero, List.set_cons_succ]
                    go_simp
                    refine hK _ _ wI.heap.size wI.heap.size _ ?_ (Nat.le_refl _) (Nat.le_refl _) (Nat.le_refl _) (Below.refl _ _) hS0.out rfl
                    simp only [putAll, Act.put, List.setIfInBounds_toArray, List.set_cons_zero, List.set_cons_succ, h2]
                  · intro X L H wI hS hd K hK
                    have h3 : X 3 = _ := hd 3 (by kernel_rfl)
                    have hS0 := hide hS
                    (try dsimp only at hS)
                    simp only [putAll, Act.put, List.setIfInBounds_toArray, List.set_cons_zero, List.set_cons_succ]
                    go_simp
                    refine hK _ _ wI.heap.size wI.heap.size _ ?_ (Nat.le_refl _) (Nat.le_refl _) (Nat.le_refl _) (Below.refl _ _) hS0.out rfl
                    simp only [putAll, Act.put, List.setIfInBounds_toArray, List.set_cons_zero, List.set_cons_succ, h3]
                  · intro X L H wI hS hd K hK
                    have hS0 := hide hS
                    (try dsimp only at hS)
                    simp only [putAll, Act.put, List.setIfInBounds_toArray, List.set_cons_zero, List.set_cons_succ]
                    go_simp
                    refine hK _ _ wI.heap.size wI.heap.size _ ?_ (Nat.le_refl _) (Nat.le_refl _) (Nat.le_refl _) (Below.refl _ _) hS0.out rfl
                    simp only [putAll, Act.put, List.setIfInBounds_toArray, List.set_cons_zero, List.set_cons_succ]
                  · intro X L H wI hS hd K hK
                    (try have h0 : X 0 = _ := hd 0 (by kernel_rfl))
                    (try have h4 : X 4 = _ := hd 4 (by kernel_rfl))
                    (try have h5 : X 5 = _ := hd 5 (by kernel_rfl))
                    have hS0 := hide hS
                    (try dsimp only at hS)
                    simp only [putAll, Act.put, List.setIfInBounds_toArray, List.set_cons_zero, List.set_cons_succ]
                    (go_simp; go_at_call 133; refine (hWk.out _ hS0.out.1).mono ?_; rintro e wB ⟨av, ak, rfl, oB, hbB⟩; exact hK _ _ wI.heap.size wB.heap.size _ (by simp only [putAll, Act.put, List.setIfInBounds_toArray, List.set_cons_zero, List.set_cons_succ, h0, h4, h5]) (Nat.le_refl _) hbB.size (Nat.le_refl _) hbB (key2.out _ (hS0.out.1.trans (hbB.mono hS0.out.2.2.2.2))) ⟨av, ak, rfl, oB.base_le hS0.out.2.2.2.2⟩)
                  · intro X L H wI hS hd K hK
                    have hS0 := hide hS
                    (try dsimp only at hS)
                    simp only [putAll, Act.put, List.setIfInBounds_toArray, List.set_cons_zero, List.set_cons_succ]
                    go_simp
                    refine hK _ _ wI.heap.size wI.heap.size _ ?_ (Nat.le_refl _) (Nat.le_refl _) (Nat.le_refl _) (Below.refl _ _) hS0.out rfl
                    simp only [putAll, Act.put, List.setIfInBounds_toArray, List.set_cons_zero, List.set_cons_succ]
                case hend =>
                  intro X L H wI hS hF hP
                  (obtain ⟨av, ak, f6, o6⟩ := (hF 6 (by omega)).1; have f7 : X 7 = _ := (hF 7 (by omega)).1; have hbI := hS.1; clear hS hF hP; replace o6 := hide o6; have r0 := cu_below hbI r0 zf7; have r1 := cu_below hbI r1 zf7; have r2 := cu_below hbI r2 zf7; have g0 := fu_below hbI g0 zf7; have g1 := fu_below hbI g1 zf7; have g2 := fu_below hbI g2 zf7; have hbI2 := hide hbI; clear hbI)
                  simp only [putAll, Act.put, List.setIfInBounds_toArray, List.set_cons_zero, List.set_cons_succ, f6, f7]
                  change wpAny _ _ _ _ (2 + 1) _ _ _
                  refine wpAny_ready (rs := [8]) (by kernel_rfl) (by simp) (AllReady.cons rfl (fun K hK => ?_) AllReady.nil)
                  go_simp
                  refine hK _ _ ?_
                  clear hK K
                  change wpAny _ _ _ _ (1 + 1) _ _ _
                  refine wpAny_ready (rs := [9]) (by kernel_rfl) (by simp) (AllReady.cons rfl (fun K hK => ?_) AllReady.nil)
                  go_simp
                  refine hK _ _ ?_
                  clear hK K
                  change wpAny _ _ _ _ (0 + 1) _ _ _
                  refine wpAny_ready (rs := [10]) (by kernel_rfl) (by simp) (AllReady.cons rfl (fun K hK => ?_) AllReady.nil)
                  go_simp
                  refine hK _ _ ?_
                  clear hK K
                  refine wpAny_done (by kernel_rfl) ?_ _
                  go_wp2_with fail
                  refine bodyPost_ret (v := .tuple #[.agg #[.slice av LQ ak, .int .i64 cst, .slice (some ⟨g7, 0, none⟩) (K + 1) c7], .int .i64 0]) (by simp [results, Try.results60, go_sem, r0, r1, r2, g0, g1, g2]) rfl ?_
                  have hux := hut2.out
                  subst hux
                  rw [← hs0.out]
                  have hbwI := hbw7.out.trans (hbI2.out.mono (by omega))
                  refine ⟨.found (flook s u), hrun.out _ (.hit s hpu.out hsl), ?_, lc, av, ak, some ⟨g7, 0, none⟩, c7, hch2.out, ?_, ?_, ?_⟩
                  · exact ((hbwI.setCell hbfl _).setCell hbfl _).setCell hbfl _
                  · rw [← hcst.out, ← hL.out]
                    simp only [flook]
                    rw [← hK7.out]
                  · rw [← hL.out]
                    exact (((o6.out.setCell zf7 _).setCell zf7 _).setCell zf7 _).base_le (by omega)
                  · have zf5 : bf < w5.heap.size := by omega
                    simp only [flook]
                    rw [← hK7.out]
                    exact ((((own7.out.stays hbI2.out).setCell (a := ⟨bf, 0, none⟩) zf5 _).setCell (a := ⟨bf, 1, none⟩) zf5 _).setCell (a := ⟨bf, 2, none⟩) zf5 _).base_le (by omega)
              · have q3 : ((u : Int) == (tg : Int)) = false := by simp; omega
                have y4 := hX7.out.c4
                have dW := hX7.out.wait.atLB u hun
                have fW := hX7.out.wait.free u
                have zs7 := cell_lt y4
                have zw7 := cell_lt dW
                have iu : (0 : Int) ≤ (u : Int) ∧ (u : Int) < (n : Int) := by omega
                have hXb : Hid (FX w0.heap.size n sb gc gp gw (.slice (some ⟨b0, o0, none⟩) n hc) (.slice ta n tc) ra rb (flook s u) w5 (w7.setCell ⟨gw, u, none⟩ (.bool false))) := hide (hX7.out.setW u hun false)
                have hO8 := hide (own7.out.setCell (a := ⟨gw, u, none⟩) (by simp only; omega) (.bool false))
                have hstep := hide (show ∀ o, FRun (nes es) h taste ⟨ra, rb⟩ n tg st (fexpand (nes es) h u s) o → FRun (nes es) h taste ⟨ra, rb⟩ n tg st s0 o from fun o ho => hrun.out o (.step s u o hpu.out hsl hut ho))
                have hmid := hide (fmid_start hok.out hun hpw)
                have hfold := hide (show (todoOf es u 0).foldl (fedge h u) (flook s u) = fexpand (nes es) h u s by rw [todo_filter hes.out u, ← ffold_own]; rfl)
                have hK8 := hide (show (flook s u).ord.length = K + 1 from hK7.out.symm)
                obtain ⟨av, cv, rr0, hO1, hO2, hO3, rown, hrb⟩ := hOu.out.row u hun
                obtain ⟨LL, hLL⟩ : ∃ LL, LL = (outIdx es u es.length).length := ⟨_, rfl⟩
                rw [← hLL] at rr0 rown hrb
                have hLl : LL ≤ es.length := by rw [hLL]; exact outIdx_len es u es.length
                have hrr := hide (show ∀ wq, Keep (FXb gc gp gw) w5 wq → wq.cell? ⟨O, u, none⟩ = some (.slice av LL cv) from fun wq hq => hq.cu rr0 (fun h1 => by have := hgB.out _ h1; simp only at this; omega))
                have hrow := hide (show ∀ wq, Keep (FXb gc gp gw) w5 wq → Own encI 1 3 wq w3.heap.size (.slice av LL cv) (outIdx es u es.length) from fun wq hq => hq.own rown (fun j hj h1 => by have := hrb j hj; have := hgB.out _ h1; omega))
                generalize s.wt u = bb at dW
                obtain ⟨s1, hs1⟩ : ∃ x, x = flook s u := ⟨_, rfl⟩
                rw [← hs1] at hXb hmid hfold hK8
                have ho1 := hide (show LP (s.ord ++ [u]) = LP s1.ord by rw [hs1]; rfl)
                rw [ho1.out] at hO8
                replace hs1 := hide hs1
                replace hLL := hide hLL
                clear hX7 own7 hrun hpu rr0 rown hrb hok hpa hK7
                go_upto_region 28 with fail
                generalize w7.setCell ⟨gw, u, none⟩ (.bool false) = w8 at hXb hO8 ⊢
                clear y4 dW fW zs7 zw7
                have hz8 : w5.heap.size ≤ w8.heap.size := hXb.out.keep.size
                have rc0 := hrr.out w8 hXb.out.keep
                have zO := cell_lt rc0
                go_wp2
                go_loopw [148] (fun i wr => ∃ (j : Nat) (s2 : FR), j ≤ LL ∧ i = .int .i64 (j : Int) ∧ Hid (FX w0.heap.size n sb gc gp gw (.slice (some ⟨b0, o0, none⟩) n hc) (.slice ta n tc) ra rb s2 w5 wr) ∧ Hid (FMid n v h u s2) ∧ Hid ((todoOf es u j).foldl (fedge h u) s2 = fexpand (nes es) h u s) ∧ Hid (s2.ord = s1.ord) ∧ Hid (Own encI 1 3 wr w5.heap.size (.slice (some ⟨g7, 0, none⟩) (K + 1) c7) (LP s1.ord))) (fun i _ => LL - (intOf i).toNat)
                case atStart => exact ⟨0, s1, Nat.zero_le _, rfl, hXb, hmid, hfold, hide rfl, hO8⟩
                case round =>
                  clear hXb hmid hfold hO8 rc0
                  obtain ⟨j, s2, hj, rfl, hX, hmid, hfold, hof, hO⟩ := hrel
                  have hzr : w5.heap.size ≤ wr.heap.size := hX.out.keep.size
                  by_cases hlt : j < LL
                  · have hjl : j < (outIdx es u es.length).length := by rw [← hLL.out]; exact hlt
                    obtain ⟨i, hi1, hi2, hi3⟩ := outIdx_get es u j hjl
                    obtain ⟨u2, vv, e1', e2', e3, e4, e5, e6, -⟩ := right_edge hes.out i hi2
                    have e7 := hpos.out es[i] (List.getElem_mem hi2)
                    have htd := todo_step hjl hi1 hi2 hi3 e2'
                    have rown := hrow.out wr hX.out.keep
                    obtain ⟨gr, rfl, hgr1, hgr2⟩ := rown.blockI' (by omega)
                    have rc := rown.getI j hjl
                    rw [hi1] at rc
                    have ng1 := hX.out.keep.cu k1 (fun h1 => by have := hgB.out _ h1; simp at this; omega)
                    obtain ⟨b, o, rfl, hbB, m1, m2, m3⟩ := (hEk.out wr hX.out.keep).ed i hi2
                    obtain ⟨b1, o1, he1, hbB1, m4⟩ := (hHk.out wr hX.out.keep).atI vv e4
                    simp only [Option.some.injEq, Addr.mk.injEq] at he1
                    obtain ⟨rfl, rfl, -⟩ := he1
                    rw [e1'] at m1
                    rw [e2'] at m2
                    obtain ⟨ec, hec⟩ : ∃ ec, ec = es[i].c := ⟨_, rfl⟩
                    rw [← hec] at m3 e5 e6 e7 htd
                    have zb := cell_lt m1
                    have zb4 := cell_lt m4
                    (try simp only at zb)
                    (try simp only at zb4)
                    have zgr : w.heap.size < wr.heap.size := by omega
                    have y2 := hX.out.c2
                    have y3 := hX.out.c3
                    have y4 := hX.out.c4
                    have zs := cell_lt y2
                    have xC := hX.out.cost.atI u hun
                    have xV := hX.out.cost.atI vv e4
                    have xP := hX.out.pred.atI vv e4
                    have xW := hX.out.wait.atLB vv e4
                    have fC := hX.out.cost.free vv
                    have fP := hX.out.pred.free vv
                    have fW := hX.out.wait.free vv
                    have zc := cell_lt xC
                    have zp := cell_lt xP
                    have zw := cell_lt xW
                    (try simp only at zc)
                    (try simp only at zp)
                    (try simp only at zw)
                    have hcv := hmid.out.cv
                    have hcb := hmid.out.ok.cb vv
                    have hol : s2.ord.length ≤ 100000 := by rw [hof.out, hK8.out]; omega
                    have hyb := hh.out vv e4
                    obtain ⟨x2, hx2⟩ : ∃ x2, x2 = s2.cost u := ⟨_, rfl⟩
                    rw [← hx2] at xC hcv
                    obtain ⟨x3, hx3⟩ : ∃ x3, x3 = s2.cost vv := ⟨_, rfl⟩
                    rw [← hx3] at xV hcb
                    obtain ⟨y, hy⟩ : ∃ y, y = h vv := ⟨_, rfl⟩
                    rw [← hy] at m4 hyb
                    have ij : (0 : Int) ≤ (j : Int) ∧ (j : Int) < (LL : Int) := by omega
                    have ii : (0 : Int) ≤ (i : Int) ∧ (i : Int) < (es.length : Int) := by omega
                    have iv2 : (0 : Int) ≤ (vv : Int) ∧ (vv : Int) < (n : Int) := by omega
                    have hwrap : IntKind.i64.wrap (x2 + ec) = x2 + ec := IntWalk.i64_in _ (by omega)
                    have hmid2 := hide (fmid_edge hmid.out hun (e := ⟨u, vv, ec⟩) (by simp only; omega) hol)
                    have hfold2 := hfold.out
                    rw [htd, List.foldl_cons] at hfold2
                    have hof2 := hide (show (fedge h u s2 ⟨u, vv, ec⟩).ord = s1.ord by unfold fedge; split <;> exact hof.out)
                    have hAl := fun (m : Nat) => (up_drewN (n := m) (up_alloc (Below.refl wr.heap.size wr) (Nat.le_refl _)) : Below wr.heap.size wr ((wr.alloc (.cells #[.int .i64 (u2 : Int), .int .i64 (vv : Int), .int .i64 ec] 34)).drewN m))
                    have hXa := hide (fun m => hX.out.stays (hAl m))
                    have hOa := hide (fun m => hO.out.stays (hAl m))
                    replace hec := hide hec
                    replace e1' := hide e1'
                    replace e2' := hide e2'
                    replace hi1 := hide hi1
                    replace hi3 := hide hi3
                    clear htd rown hAl hfold hmid
                    by_cases hcl : x2 + ec < x3 ∧ y < 1099511627776
                    · obtain ⟨hc1, hc2⟩ := hcl
                      have hup := hide (show fedge h u s2 ⟨u, vv, ec⟩ = { s2 with cost := upz s2.cost vv (x2 + ec), pred := upz s2.pred vv (u : Int), wt := upz s2.wt vv true } by
                        unfold fedge
                        rw [if_pos ⟨rfl, by rw [← hy]; unfold FAR; omega, by rw [← hx2, ← hx3]; exact hc1⟩, hx2])
                      rw [hup.out] at hmid2 hfold2 hof2
                      replace hfold2 := hide hfold2
                      replace hx2 := hide hx2
                      replace hx3 := hide hx3
                      replace hy := hide hy
                      have hne2 := hne.out
                      go_wp2
                      go_quiet (fail)
                      have hXq := hXa.out nq
                      have hOq := hOa.out nq
                      have eV : ((wr.alloc (.cells #[.int .i64 (u2 : Int), .int .i64 (vv : Int), .int .i64 ec] 34)).drewN nq).cell? ⟨wr.heap.size, 1, none⟩ = some (.int .i64 (vv : Int)) := cu_drewN (by simp [go_sem])
                      have hzq : wr.heap.size ≤ ((wr.alloc (.cells #[.int .i64 (u2 : Int), .int .i64 (vv : Int), .int .i64 ec] 34)).drewN nq).heap.size := (up_drewN (n := nq) (up_alloc (Below.refl wr.heap.size wr) (Nat.le_refl _))).size
                      clear y2 y3 y4 xC xV xP xW fC fP fW m1 m2 m3 m4 rc ng1
                      generalize ((wr.alloc (.cells #[.int .i64 (u2 : Int), .int .i64 (vv : Int), .int .i64 ec] 34)).drewN nq) = w9 at hXq hOq eV hzq ⊢
                      have y2 := hXq.c2
                      have y3 := hXq.c3
                      have y4 := hXq.c4
                      have xV := hXq.cost.atI vv e4
                      rw [← hx3.out] at xV
                      obtain ⟨b1, o1, he1, hbB1, m4⟩ := (hHk.out w9 hXq.keep).atI vv e4
                      simp only [Option.some.injEq, Addr.mk.injEq] at he1
                      obtain ⟨rfl, rfl, -⟩ := he1
                      rw [← hy.out] at m4
                      have zs9 : sb < w9.heap.size := by omega
                      have zc9 : gc < w9.heap.size := by omega
                      have zp9 : gp < w9.heap.size := by omega
                      have zw9 : gw < w9.heap.size := by omega
                      have zb9 : b0 < w9.heap.size := by omega
                      have ze9 : wr.heap.size < w9.heap.size := cell_lt eV
                      replace hXq := hide hXq
                      replace hOq := hide hOq
                      have hdr := hide (fun m => ((up_drewN (n := m) (Below.refl w9.heap.size w9)) : Below w9.heap.size w9 (w9.drewN m)))
                      go_wp2
                      go_quiet (fail)
                      have hXr := hXq.out.stays (hdr.out nq)
                      have hOr := hOq.out.stays (hdr.out nq)
                      have eV := cu_below (hdr.out nq) eV ze9
                      have hz10 := (hdr.out nq).size
                      clear y2 y3 y4 xV m4 hXq hOq hdr
                      generalize w9.drewN nq = w10 at hXr hOr eV hz10 ⊢
                      have ze10 : wr.heap.size < w10.heap.size := by omega
                      obtain ⟨be, hbe⟩ : ∃ be, be = wr.heap.size := ⟨_, rfl⟩
                      rw [← hbe] at eV ze10
                      simp only [← hbe]
                      have hbn : w5.heap.size ≤ be := by omega
                      replace hbe := hide hbe
                      have hlx := hXr.lt
                      obtain ⟨Q, hQ⟩ : ∃ Q : (Nat → Int) → (Nat → Int) → World → Prop, Q = fun c p w => FX w0.heap.size n sb gc gp gw (.slice (some ⟨b0, o0, none⟩) n hc) (.slice ta n tc) ra rb { s2 with cost := c, pred := p } w5 w ∧ Own encI 1 3 w w5.heap.size (.slice (some ⟨g7, 0, none⟩) (K + 1) c7) (LP s1.ord) ∧ w.cell? ⟨be, 1, none⟩ = some (.int .i64 (vv : Int)) := ⟨_, rfl⟩
                      have hQ0 := hide (show Q s2.cost s2.pred w10.drew by rw [hQ]; exact ⟨hXr.stays (below_drew _), hOr.drew, eV⟩)
                      have hQc := hide (show ∀ c p w, Q c p w → Q (upz c vv (x2 + ec)) p (w.setCell ⟨gc, vv, none⟩ (.int .i64 (x2 + ec))) by rw [hQ]; exact fun c p w h => ⟨h.1.setC vv e4 (x2 + ec), h.2.1.setCell (a := ⟨gc, vv, none⟩) (by simp only; omega) _, cu_set h.2.2 (by simp; omega)⟩)
                      have hQp := hide (show ∀ c p w, Q c p w → Q c (upz p vv (u : Int)) (w.setCell ⟨gp, vv, none⟩ (.int .i64 (u : Int))) by rw [hQ]; exact fun c p w h => ⟨h.1.setP vv e4 (u : Int), h.2.1.setCell (a := ⟨gp, vv, none⟩) (by simp only; omega) _, cu_set h.2.2 (by simp; omega)⟩)
                      have hQv := hide (show ∀ c p w, Q c p w → (w.cell? ⟨sb, 2, none⟩ = some (.slice (some ⟨gc, 0, none⟩) n n) ∧ w.cell? ⟨sb, 3, none⟩ = some (.slice (some ⟨gp, 0, none⟩) n n) ∧ w.cell? ⟨sb, 4, none⟩ = some (.slice (some ⟨gw, 0, none⟩) n n) ∧ w.cell? ⟨be, 1, none⟩ = some (.int .i64 (vv : Int)) ∧ sb < w.heap.size ∧ gc < w.heap.size ∧ gp < w.heap.size ∧ gw < w.heap.size ∧ be < w.heap.size) by rw [hQ]; exact fun c p w h => ⟨h.1.c2, h.1.c3, h.1.c4, h.2.2, cell_lt h.1.c2, cell_lt (h.1.cost.atI vv e4), cell_lt (h.1.pred.atI vv e4), cell_lt (h.1.wait.atLB vv e4), cell_lt h.2.2⟩)
                      have hQx := hide (show ∀ c p w, Q c p w → (w.cell? ⟨gc, vv, none⟩ = some (.int .i64 (c vv)) ∧ w.frozen? ⟨gc, vv, none⟩ = false ∧ w.cell? ⟨gp, vv, none⟩ = some (.int .i64 (p vv)) ∧ w.frozen? ⟨gp, vv, none⟩ = false ∧ w.cell? ⟨gw, vv, none⟩ = some (.bool (s2.wt vv)) ∧ w.frozen? ⟨gw, vv, none⟩ = false) by rw [hQ]; exact fun c p w h => ⟨h.1.cost.atI vv e4, h.1.cost.free vv, h.1.pred.atI vv e4, h.1.pred.free vv, h.1.wait.atLB vv e4, h.1.wait.free vv⟩)
                      have hQe := hide (show ∀ c p w, Q c p w → FX w0.heap.size n sb gc gp gw (.slice (some ⟨b0, o0, none⟩) n hc) (.slice ta n tc) ra rb { s2 with cost := c, pred := p } w5 w ∧ Own encI 1 3 w w5.heap.size (.slice (some ⟨g7, 0, none⟩) (K + 1) c7) (LP s1.ord) by rw [hQ]; exact fun c p w h => ⟨h.1, h.2.1⟩)
                      replace hQ := hide hQ
                      have hs21 := hide (fun w h => st21 Q s2.cost s2.pred vv (x2 + ec) (u : Int) hQc.out (w := w) h)
                      have hs23 := hide (fun w h => st23 Q s2.cost s2.pred vv (x2 + ec) (u : Int) hQp.out (w := w) h)
                      have hSof := hide (show ∀ w, Qany Q s2.cost s2.pred vv (x2 + ec) (u : Int) w → ((w.cell? ⟨sb, 2, none⟩ = some (.slice (some ⟨gc, 0, none⟩) n n) ∧ w.cell? ⟨sb, 3, none⟩ = some (.slice (some ⟨gp, 0, none⟩) n n) ∧ w.cell? ⟨sb, 4, none⟩ = some (.slice (some ⟨gw, 0, none⟩) n n) ∧ w.cell? ⟨be, 1, none⟩ = some (.int .i64 (vv : Int)) ∧ sb < w.heap.size ∧ gc < w.heap.size ∧ gp < w.heap.size ∧ gw < w.heap.size ∧ be < w.heap.size) ∧ Hid (Qany Q s2.cost s2.pred vv (x2 + ec) (u : Int) w)) from fun w h => ⟨by obtain ⟨c, p, _, _, hq⟩ := h; exact hQv.out c p w hq, h⟩)
                      clear hXr hOr hQc hQp eV zs9 zc9 zp9 zw9 zb9 ze9 hzq
                      go_upto_region 34 with fail
                      refine wp_region_inw 24 (by kernel_rfl) [some 185, some 186, some 187, some 188, some 189, some 190, some 191, some 192, some 193, some 194, some 195, some 196, some 197, some 198, some 199, some 200, some 201, some 202, some 203, some 204, some 205, none, some 206, none] (F34 Q s2.cost s2.pred vv (x2 + ec) (u : Int) sb gc gp gw n be) (fun w => (w.cell? ⟨sb, 2, none⟩ = some (.slice (some ⟨gc, 0, none⟩) n n) ∧ w.cell? ⟨sb, 3, none⟩ = some (.slice (some ⟨gp, 0, none⟩) n n) ∧ w.cell? ⟨sb, 4, none⟩ = some (.slice (some ⟨gw, 0, none⟩) n n) ∧ w.cell? ⟨be, 1, none⟩ = some (.int .i64 (vv : Int)) ∧ sb < w.heap.size ∧ gc < w.heap.size ∧ gp < w.heap.size ∧ gw < w.heap.size ∧ be < w.heap.size) ∧ Hid (Qany Q s2.cost s2.pred vv (x2 + ec) (u : Int) w)) (RQ Q s2.cost s2.pred vv (x2 + ec) (u : Int)) (by kernel_rfl) (by kernel_rfl) (by kernel_rfl) (by kernel_rfl) (f34_stays Q s2.cost s2.pred vv (x2 + ec) (u : Int) sb gc gp gw n be) (fun i X L H X' L' H' w h hf => f34_loc Q s2.cost s2.pred vv (x2 + ec) (u : Int) sb gc gp gw n be i X L H X' L' H' w (h i (.inl rfl)).1 hf) (fun _ _ h => h.1) (hSof.out _ ⟨_, _, .inl rfl, .inl rfl, hQ0.out⟩) ?steps ?hend
                      case steps =>
                        refine ⟨?_, ?_, ?_, ?_, ?_, ?_, ?_, ?_, ?_, ?_, ?_, ?_, ?_, ?_, ?_, ?_, ?_, ?_, ?_, ?_, ?_, ?_, ?_, ?_, trivial⟩
                        · intro X L H wI hS hd hp K hK
                          have hS0 := hide hS
                          (try dsimp only at hS)
                          simp only [putAll, Act.put, List.setIfInBounds_toArray, List.set_cons_zero, List.set_cons_succ]
                          go_simp
                          refine hK _ _ wI.heap.size wI.heap.size _ ?_ (Nat.le_refl _) (Nat.le_refl _) (Nat.le_refl _) (rq_refl Q s2.cost s2.pred vv (x2 + ec) (u : Int) _) hS0.out rfl
                          simp only [putAll, Act.put, List.setIfInBounds_toArray, List.set_cons_zero, List.set_cons_succ]
                        · intro X L H wI hS hd hp K hK
                          have h0 : X 0 = _ := (hd 0 (by kernel_rfl)).1
                          have hS0 := hide hS
                          (try dsimp only at hS)
                          simp only [putAll, Act.put, List.setIfInBounds_toArray, List.set_cons_zero, List.set_cons_succ]
                          go_simp
                          refine hK _ _ wI.heap.size wI.heap.size _ ?_ (Nat.le_refl _) (Nat.le_refl _) (Nat.le_refl _) (rq_refl Q s2.cost s2.pred vv (x2 + ec) (u : Int) _) hS0.out rfl
                          simp only [putAll, Act.put, List.setIfInBounds_toArray, List.set_cons_zero, List.set_cons_succ, h0]
                        · intro X L H wI hS hd hp K hK
                          have h1 : X 1 = _ := (hd 1 (by kernel_rfl)).1
                          have hS0 := hide hS
                          (try dsimp only at hS)
                          simp only [putAll, Act.put, List.setIfInBounds_toArray, List.set_cons_zero, List.set_cons_succ]
                          go_simp
                          refine hK _ _ wI.heap.size wI.heap.size _ ?_ (Nat.le_refl _) (Nat.le_refl _) (Nat.le_refl _) (rq_refl Q s2.cost s2.pred vv (x2 + ec) (u : Int) _) hS0.out rfl
                          simp only [putAll, Act.put, List.setIfInBounds_toArray, List.set_cons_zero, List.set_cons_succ, h1]
                        · intro X L H wI hS hd hp K hK
                          have h2 : X 2 = _ := (hd 2 (by kernel_rfl)).1
                          have hS0 := hide hS
                          (try dsimp only at hS)
                          simp only [putAll, Act.put, List.setIfInBounds_toArray, List.set_cons_zero, List.set_cons_succ]
                          go_simp
                          refine hK _ _ wI.heap.size wI.heap.size _ ?_ (Nat.le_refl _) (Nat.le_refl _) (Nat.le_refl _) (rq_refl Q s2.cost s2.pred vv (x2 + ec) (u : Int) _) hS0.out rfl
                          simp only [putAll, Act.put, List.setIfInBounds_toArray, List.set_cons_zero, List.set_cons_succ, h2]
                        · intro X L H wI hS hd hp K hK
                          have hS0 := hide hS
                          (try dsimp only at hS)
                          simp only [putAll, Act.put, List.setIfInBounds_toArray, List.set_cons_zero, List.set_cons_succ]
                          go_simp
                          refine hK _ _ wI.heap.size wI.heap.size _ ?_ (Nat.le_refl _) (Nat.le_refl _) (Nat.le_refl _) (rq_refl Q s2.cost s2.pred vv (x2 + ec) (u : Int) _) hS0.out rfl
                          simp only [putAll, Act.put, List.setIfInBounds_toArray, List.set_cons_zero, List.set_cons_succ]
                        · intro X L H wI hS hd hp K hK
                          have h4 : X 4 = _ := (hd 4 (by kernel_rfl)).1
                          have hS0 := hide hS
                          (try dsimp only at hS)
                          simp only [putAll, Act.put, List.setIfInBounds_toArray, List.set_cons_zero, List.set_cons_succ]
                          go_simp
                          refine hK _ _ wI.heap.size wI.heap.size _ ?_ (Nat.le_refl _) (Nat.le_refl _) (Nat.le_refl _) (rq_refl Q s2.cost s2.pred vv (x2 + ec) (u : Int) _) hS0.out rfl
                          simp only [putAll, Act.put, List.setIfInBounds_toArray, List.set_cons_zero, List.set_cons_succ, h4]
                        · intro X L H wI hS hd hp K hK
                          have hS0 := hide hS
                          (try dsimp only at hS)
                          simp only [putAll, Act.put, List.setIfInBounds_toArray, List.set_cons_zero, List.set_cons_succ]
                          go_simp
                          refine hK _ _ wI.heap.size wI.heap.size _ ?_ (Nat.le_refl _) (Nat.le_refl _) (Nat.le_refl _) (rq_refl Q s2.cost s2.pred vv (x2 + ec) (u : Int) _) hS0.out rfl
                          simp only [putAll, Act.put, List.setIfInBounds_toArray, List.set_cons_zero, List.set_cons_succ]
                        · intro X L H wI hS hd hp K hK
                          have h6 : X 6 = _ := (hd 6 (by kernel_rfl)).1
                          have hS0 := hide hS
                          (try dsimp only at hS)
                          simp only [putAll, Act.put, List.setIfInBounds_toArray, List.set_cons_zero, List.set_cons_succ]
                          go_simp
                          refine hK _ _ wI.heap.size wI.heap.size _ ?_ (Nat.le_refl _) (Nat.le_refl _) (Nat.le_refl _) (rq_refl Q s2.cost s2.pred vv (x2 + ec) (u : Int) _) hS0.out rfl
                          simp only [putAll, Act.put, List.setIfInBounds_toArray, List.set_cons_zero, List.set_cons_succ, h6]
                        · intro X L H wI hS hd hp K hK
                          have h7 : X 7 = _ := (hd 7 (by kernel_rfl)).1
                          have hS0 := hide hS
                          (try dsimp only at hS)
                          simp only [putAll, Act.put, List.setIfInBounds_toArray, List.set_cons_zero, List.set_cons_succ]
                          go_simp
                          refine hK _ _ wI.heap.size wI.heap.size _ ?_ (Nat.le_refl _) (Nat.le_refl _) (Nat.le_refl _) (rq_refl Q s2.cost s2.pred vv (x2 + ec) (u : Int) _) hS0.out rfl
                          simp only [putAll, Act.put, List.setIfInBounds_toArray, List.set_cons_zero, List.set_cons_succ, h7]
                        · intro X L H wI hS hd hp K hK
                          have h8 : X 8 = _ := (hd 8 (by kernel_rfl)).1
                          have hS0 := hide hS
                          (try dsimp only at hS)
                          simp only [putAll, Act.put, List.setIfInBounds_toArray, List.set_cons_zero, List.set_cons_succ]
                          go_simp
                          refine hK _ _ wI.heap.size wI.heap.size _ ?_ (Nat.le_refl _) (Nat.le_refl _) (Nat.le_refl _) (rq_refl Q s2.cost s2.pred vv (x2 + ec) (u : Int) _) hS0.out rfl
                          simp only [putAll, Act.put, List.setIfInBounds_toArray, List.set_cons_zero, List.set_cons_succ, h8]
                        · intro X L H wI hS hd hp K hK
                          have hS0 := hide hS
                          (try dsimp only at hS)
                          simp only [putAll, Act.put, List.setIfInBounds_toArray, List.set_cons_zero, List.set_cons_succ]
                          go_simp
                          refine hK _ _ wI.heap.size wI.heap.size _ ?_ (Nat.le_refl _) (Nat.le_refl _) (Nat.le_refl _) (rq_refl Q s2.cost s2.pred vv (x2 + ec) (u : Int) _) hS0.out rfl
                          simp only [putAll, Act.put, List.setIfInBounds_toArray, List.set_cons_zero, List.set_cons_succ]
                        · intro X L H wI hS hd hp K hK
                          have h10 : X 10 = _ := (hd 10 (by kernel_rfl)).1
                          have hS0 := hide hS
                          (try dsimp only at hS)
                          simp only [putAll, Act.put, List.setIfInBounds_toArray, List.set_cons_zero, List.set_cons_succ]
                          go_simp
                          refine hK _ _ wI.heap.size wI.heap.size _ ?_ (Nat.le_refl _) (Nat.le_refl _) (Nat.le_refl _) (rq_refl Q s2.cost s2.pred vv (x2 + ec) (u : Int) _) hS0.out rfl
                          simp only [putAll, Act.put, List.setIfInBounds_toArray, List.set_cons_zero, List.set_cons_succ, h10]
                        · intro X L H wI hS hd hp K hK
                          have hS0 := hide hS
                          (try dsimp only at hS)
                          simp only [putAll, Act.put, List.setIfInBounds_toArray, List.set_cons_zero, List.set_cons_succ]
                          go_simp
                          refine hK _ _ wI.heap.size wI.heap.size _ ?_ (Nat.le_refl _) (Nat.le_refl _) (Nat.le_refl _) (rq_refl Q s2.cost s2.pred vv (x2 + ec) (u : Int) _) hS0.out rfl
                          simp only [putAll, Act.put, List.setIfInBounds_toArray, List.set_cons_zero, List.set_cons_succ]
                        · intro X L H wI hS hd hp K hK
                          have h12 : X 12 = _ := (hd 12 (by kernel_rfl)).1
                          have hS0 := hide hS
                          (try dsimp only at hS)
                          simp only [putAll, Act.put, List.setIfInBounds_toArray, List.set_cons_zero, List.set_cons_succ]
                          go_simp
                          refine hK _ _ wI.heap.size wI.heap.size _ ?_ (Nat.le_refl _) (Nat.le_refl _) (Nat.le_refl _) (rq_refl Q s2.cost s2.pred vv (x2 + ec) (u : Int) _) hS0.out rfl
                          simp only [putAll, Act.put, List.setIfInBounds_toArray, List.set_cons_zero, List.set_cons_succ, h12]
                        · intro X L H wI hS hd hp K hK
                          have h13 : X 13 = _ := (hd 13 (by kernel_rfl)).1
                          have hS0 := hide hS
                          (try dsimp only at hS)
                          simp only [putAll, Act.put, List.setIfInBounds_toArray, List.set_cons_zero, List.set_cons_succ]
                          go_simp
                          refine hK _ _ wI.heap.size wI.heap.size _ ?_ (Nat.le_refl _) (Nat.le_refl _) (Nat.le_refl _) (rq_refl Q s2.cost s2.pred vv (x2 + ec) (u : Int) _) hS0.out rfl
                          simp only [putAll, Act.put, List.setIfInBounds_toArray, List.set_cons_zero, List.set_cons_succ, h13]
                        · intro X L H wI hS hd hp K hK
                          have h14 : X 14 = _ := (hd 14 (by kernel_rfl)).1
                          have hS0 := hide hS
                          (try dsimp only at hS)
                          simp only [putAll, Act.put, List.setIfInBounds_toArray, List.set_cons_zero, List.set_cons_succ]
                          go_simp
                          refine hK _ _ wI.heap.size wI.heap.size _ ?_ (Nat.le_refl _) (Nat.le_refl _) (Nat.le_refl _) (rq_refl Q s2.cost s2.pred vv (x2 + ec) (u : Int) _) hS0.out rfl
                          simp only [putAll, Act.put, List.setIfInBounds_toArray, List.set_cons_zero, List.set_cons_succ, h14]
                        · intro X L H wI hS hd hp K hK
                          have hS0 := hide hS
                          (try dsimp only at hS)
                          simp only [putAll, Act.put, List.setIfInBounds_toArray, List.set_cons_zero, List.set_cons_succ]
                          go_simp
                          refine hK _ _ wI.heap.size wI.heap.size _ ?_ (Nat.le_refl _) (Nat.le_refl _) (Nat.le_refl _) (rq_refl Q s2.cost s2.pred vv (x2 + ec) (u : Int) _) hS0.out rfl
                          simp only [putAll, Act.put, List.setIfInBounds_toArray, List.set_cons_zero, List.set_cons_succ]
                        · intro X L H wI hS hd hp K hK
                          have h16 : X 16 = _ := (hd 16 (by kernel_rfl)).1
                          have hS0 := hide hS
                          (try dsimp only at hS)
                          simp only [putAll, Act.put, List.setIfInBounds_toArray, List.set_cons_zero, List.set_cons_succ]
                          go_simp
                          refine hK _ _ wI.heap.size wI.heap.size _ ?_ (Nat.le_refl _) (Nat.le_refl _) (Nat.le_refl _) (rq_refl Q s2.cost s2.pred vv (x2 + ec) (u : Int) _) hS0.out rfl
                          simp only [putAll, Act.put, List.setIfInBounds_toArray, List.set_cons_zero, List.set_cons_succ, h16]
                        · intro X L H wI hS hd hp K hK
                          have hS0 := hide hS
                          (try dsimp only at hS)
                          simp only [putAll, Act.put, List.setIfInBounds_toArray, List.set_cons_zero, List.set_cons_succ]
                          go_simp
                          refine hK _ _ wI.heap.size wI.heap.size _ ?_ (Nat.le_refl _) (Nat.le_refl _) (Nat.le_refl _) (rq_refl Q s2.cost s2.pred vv (x2 + ec) (u : Int) _) hS0.out rfl
                          simp only [putAll, Act.put, List.setIfInBounds_toArray, List.set_cons_zero, List.set_cons_succ]
                        · intro X L H wI hS hd hp K hK
                          have hS0 := hide hS
                          (try dsimp only at hS)
                          simp only [putAll, Act.put, List.setIfInBounds_toArray, List.set_cons_zero, List.set_cons_succ]
                          go_simp
                          refine hK _ _ wI.heap.size wI.heap.size _ ?_ (Nat.le_refl _) (Nat.le_refl _) (Nat.le_refl _) (rq_refl Q s2.cost s2.pred vv (x2 + ec) (u : Int) _) hS0.out rfl
                          simp only [putAll, Act.put, List.setIfInBounds_toArray, List.set_cons_zero, List.set_cons_succ]
                        · intro X L H wI hS hd hp K hK
                          have h3 : X 3 = _ := (hd 3 (by kernel_rfl)).1
                          have h5 : X 5 = _ := (hd 5 (by kernel_rfl)).1
                          have hS0 := hide hS
                          (try dsimp only at hS)
                          simp only [putAll, Act.put, List.setIfInBounds_toArray, List.set_cons_zero, List.set_cons_succ]
                          go_simp
                          refine hK _ _ wI.heap.size wI.heap.size _ ?_ (Nat.le_refl _) (Nat.le_refl _) (Nat.le_refl _) (rq_refl Q s2.cost s2.pred vv (x2 + ec) (u : Int) _) hS0.out rfl
                          simp only [putAll, Act.put, List.setIfInBounds_toArray, List.set_cons_zero, List.set_cons_succ, h3, h5]
                        · intro X L H wI hS hd hp K hK
                          (try have h18 : X 18 = _ := (hd 18 (by kernel_rfl)).1)
                          (try have h20 : X 20 = _ := (hd 20 (by kernel_rfl)).1)
                          have hS0 := hide hS
                          (try dsimp only at hS)
                          simp only [putAll, Act.put, List.setIfInBounds_toArray, List.set_cons_zero, List.set_cons_succ]
                          (have hqa := hS0.out.2; obtain ⟨c9, p9, -, -, hq9⟩ := hqa.out; obtain ⟨xV, fC, -, -, -, -⟩ := hQx.out _ _ _ hq9; have hst := hide (hs21.out _ hqa.out); generalize c9 vv = z1 at xV; go_simp; exact hK _ (.tuple #[]) wI.heap.size wI.heap.size _ (by simp only [putAll, Act.put, List.setIfInBounds_toArray, List.set_cons_zero, List.set_cons_succ, h18, h20]) (Nat.le_refl _) (Nat.le_refl _) (by simp) hst.out.2.1 (hSof.out _ hst.out.1) hst.out.2.2)
                        · intro X L H wI hS hd hp K hK
                          have h9 : X 9 = _ := (hd 9 (by kernel_rfl)).1
                          have h11 : X 11 = _ := (hd 11 (by kernel_rfl)).1
                          have hS0 := hide hS
                          (try dsimp only at hS)
                          simp only [putAll, Act.put, List.setIfInBounds_toArray, List.set_cons_zero, List.set_cons_succ]
                          go_simp
                          refine hK _ _ wI.heap.size wI.heap.size _ ?_ (Nat.le_refl _) (Nat.le_refl _) (Nat.le_refl _) (rq_refl Q s2.cost s2.pred vv (x2 + ec) (u : Int) _) hS0.out rfl
                          simp only [putAll, Act.put, List.setIfInBounds_toArray, List.set_cons_zero, List.set_cons_succ, h9, h11]
                        · intro X L H wI hS hd hp K hK
                          (try have h19 : X 19 = _ := (hd 19 (by kernel_rfl)).1)
                          (try have h22 : X 22 = _ := (hd 22 (by kernel_rfl)).1)
                          have hS0 := hide hS
                          (try dsimp only at hS)
                          simp only [putAll, Act.put, List.setIfInBounds_toArray, List.set_cons_zero, List.set_cons_succ]
                          (have h21 := (hd 21 (by kernel_rfl)).1; have hqa := hS0.out.2; obtain ⟨c9, p9, -, -, hq9⟩ := hqa.out; obtain ⟨-, -, xP, fP, -, -⟩ := hQx.out _ _ _ hq9; have hst := hide (hs23.out _ h21.out); generalize p9 vv = z1 at xP; replace h21 := hide h21; go_simp; exact hK _ (.tuple #[]) wI.heap.size wI.heap.size _ (by simp only [putAll, Act.put, List.setIfInBounds_toArray, List.set_cons_zero, List.set_cons_succ, h19, h22]) (Nat.le_refl _) (Nat.le_refl _) (by simp) hst.out.2.1 (hSof.out _ hst.out.1) hst.out.2.2)
                      case hend =>
                        intro X L H wI hS hF hP
                        (have f15 : X 15 = _ := (hF 15 (by omega)).1; have f17 : X 17 = _ := (hF 17 (by omega)).1; have hq := (hF 23 (by omega)).1; have hcc := hS.1; obtain ⟨-, -, -, -, xW, fW⟩ := hQx.out _ _ _ hq.out; obtain ⟨hXe, hOe⟩ := hQe.out _ _ _ hq.out; have hX11 := hide (hXe.setW vv e4 true); have hO11 := hide (hOe.setCell (a := ⟨gw, vv, none⟩) (by simp only; omega) (.bool true)); clear hXe hOe hq hS hF hP; generalize s2.wt vv = z3 at xW)
                        simp only [putAll, Act.put, List.setIfInBounds_toArray, List.set_cons_zero, List.set_cons_succ, f15, f17]
                        change wpAny _ _ _ _ (1 + 1) _ _ _
                        refine wpAny_ready (rs := [24]) (by kernel_rfl) (by simp) (AllReady.cons rfl (fun K hK => ?_) AllReady.nil)
                        go_simp
                        refine hK _ _ ?_
                        clear hK K
                        change wpAny _ _ _ _ (0 + 1) _ _ _
                        refine wpAny_ready (rs := [25]) (by kernel_rfl) (by simp) (AllReady.cons rfl (fun K hK => ?_) AllReady.nil)
                        go_simp
                        refine hK _ _ ?_
                        clear hK K
                        refine wpAny_done (by kernel_rfl) ?_ _
                        go_wp2_with fail
                        go_roundw
                        case rel => exact ⟨j + 1, _, by omega, by go_num, by first | exact hX11 | exact hide (hX11.out.stays (below_drew _)), hmid2, hfold2, hof2, by first | exact hO11 | exact hide hO11.out.drew⟩
                        case measure => simp [intOf]; omega
                    · have hsk := hide (show fedge h u s2 ⟨u, vv, ec⟩ = s2 by
                        unfold fedge
                        refine if_neg fun hc3 => hcl ⟨by rw [hx2, hx3]; exact hc3.2.2, ?_⟩
                        have h9 : h vv ≠ FAR := hc3.2.1
                        rw [← hy] at h9
                        unfold FAR at h9
                        omega)
                      rw [hsk.out] at hmid2 hfold2 hof2
                      replace hfold2 := hide hfold2
                      replace hx2 := hide hx2
                      replace hx3 := hide hx3
                      replace hy := hide hy
                      by_cases hc1 : x2 + ec < x3
                      · have hyF : y = 1099511627776 := by
                          refine Classical.byContradiction fun h1 => hcl ⟨hc1, by omega⟩
                        subst hyF
                        clear hcl
                        go_wp2
                        go_quiet (fail)
                        have hXq := hXa.out nq
                        have hOq := hOa.out nq
                        have eV : ((wr.alloc (.cells #[.int .i64 (u2 : Int), .int .i64 (vv : Int), .int .i64 ec] 34)).drewN nq).cell? ⟨wr.heap.size, 1, none⟩ = some (.int .i64 (vv : Int)) := cu_drewN (by simp [go_sem])
                        have hzq : wr.heap.size ≤ ((wr.alloc (.cells #[.int .i64 (u2 : Int), .int .i64 (vv : Int), .int .i64 ec] 34)).drewN nq).heap.size := (up_drewN (n := nq) (up_alloc (Below.refl wr.heap.size wr) (Nat.le_refl _))).size
                        clear y2 y3 y4 xC xV xP xW fC fP fW m1 m2 m3 m4 rc ng1
                        generalize ((wr.alloc (.cells #[.int .i64 (u2 : Int), .int .i64 (vv : Int), .int .i64 ec] 34)).drewN nq) = w9 at hXq hOq eV hzq ⊢
                        have y2 := hXq.c2
                        have y3 := hXq.c3
                        have y4 := hXq.c4
                        have xV := hXq.cost.atI vv e4
                        rw [← hx3.out] at xV
                        obtain ⟨b1, o1, he1, hbB1, m4⟩ := (hHk.out w9 hXq.keep).atI vv e4
                        simp only [Option.some.injEq, Addr.mk.injEq] at he1
                        obtain ⟨rfl, rfl, -⟩ := he1
                        rw [← hy.out] at m4
                        have zs9 : sb < w9.heap.size := by omega
                        have zc9 : gc < w9.heap.size := by omega
                        have zp9 : gp < w9.heap.size := by omega
                        have zw9 : gw < w9.heap.size := by omega
                        have zb9 : b0 < w9.heap.size := by omega
                        have ze9 : wr.heap.size < w9.heap.size := cell_lt eV
                        replace hXq := hide hXq
                        replace hOq := hide hOq
                        have hdr := hide (fun m => ((up_drewN (n := m) (Below.refl w9.heap.size w9)) : Below w9.heap.size w9 (w9.drewN m)))
                        go_wp2
                        go_quiet (fail)
                        have hXr := hide (hXq.out.stays (hdr.out nq))
                        have hOr := hide (hOq.out.stays (hdr.out nq))
                        go_wp2
                        go_roundw
                        case rel => exact ⟨j + 1, s2, by omega, by go_num, hXr, hmid2, hfold2, hof2, hOr⟩
                        case measure => simp [intOf]; omega
                      · have hc2 : decide (x2 + ec < x3) = false := by simpa using hc1
                        have hc3 : (x2 + ec < x3) = False := eq_false hc1
                        clear hcl
                        go_wp2
                        go_quiet (fail)
                        have hXq := hXa.out nq
                        have hOq := hOa.out nq
                        have eV : ((wr.alloc (.cells #[.int .i64 (u2 : Int), .int .i64 (vv : Int), .int .i64 ec] 34)).drewN nq).cell? ⟨wr.heap.size, 1, none⟩ = some (.int .i64 (vv : Int)) := cu_drewN (by simp [go_sem])
                        have hzq : wr.heap.size ≤ ((wr.alloc (.cells #[.int .i64 (u2 : Int), .int .i64 (vv : Int), .int .i64 ec] 34)).drewN nq).heap.size := (up_drewN (n := nq) (up_alloc (Below.refl wr.heap.size wr) (Nat.le_refl _))).size
                        clear y2 y3 y4 xC xV xP xW fC fP fW m1 m2 m3 m4 rc ng1
                        generalize ((wr.alloc (.cells #[.int .i64 (u2 : Int), .int .i64 (vv : Int), .int .i64 ec] 34)).drewN nq) = w9 at hXq hOq eV hzq ⊢
                        have y2 := hXq.c2
                        have y3 := hXq.c3
                        have y4 := hXq.c4
                        have xV := hXq.cost.atI vv e4
                        rw [← hx3.out] at xV
                        obtain ⟨b1, o1, he1, hbB1, m4⟩ := (hHk.out w9 hXq.keep).atI vv e4
                        simp only [Option.some.injEq, Addr.mk.injEq] at he1
                        obtain ⟨rfl, rfl, -⟩ := he1
                        rw [← hy.out] at m4
                        have zs9 : sb < w9.heap.size := by omega
                        have zc9 : gc < w9.heap.size := by omega
                        have zp9 : gp < w9.heap.size := by omega
                        have zw9 : gw < w9.heap.size := by omega
                        have zb9 : b0 < w9.heap.size := by omega
                        have ze9 : wr.heap.size < w9.heap.size := cell_lt eV
                        replace hXq := hide hXq
                        replace hOq := hide hOq
                        have hdr := hide (fun m => ((up_drewN (n := m) (Below.refl w9.heap.size w9)) : Below w9.heap.size w9 (w9.drewN m)))
                        go_wp2
                        (refine wp_region_quiet_hid (by kernel_rfl) (by kernel_rfl) (fun wq hst hni => ?_); (repeat (refine hst.out _ _ _ _ (fun K hK => ?_); go_simp; first | (refine hK.out _ ?_; clear hK K) | (apply Exists.intro; refine ⟨fun _ => ?_, hK.out _ ?_⟩; (fail); clear hK K))); refine hni.out _ _ ?_; clear hst hni wq; intro wqq hw'; obtain ⟨nq, hw''⟩ := hw'; subst hw'')
                        have hXr := hide (hXq.out.stays (hdr.out nq))
                        have hOr := hide (hOq.out.stays (hdr.out nq))
                        go_wp2
                        go_roundw
                        case rel => exact ⟨j + 1, s2, by omega, by go_num, hXr, hmid2, hfold2, hof2, hOr⟩
                        case measure => simp [intOf]; omega
                  · obtain rfl : LL = j := by omega
                    have hfin := hfold.out
                    rw [hLL.out, todo_end] at hfin
                    have hfin2 : s2 = fexpand (nes es) h u s := hfin
                    have hrun2 := hide (show ∀ o, FRun (nes es) h taste ⟨ra, rb⟩ n tg st s2 o → FRun (nes es) h taste ⟨ra, rb⟩ n tg st s0 o by rw [hfin2]; exact hstep.out)
                    have hok2 := hide hmid.out.ok
                    have hK2 := hide (show K + 1 = s2.ord.length by rw [hof.out]; exact hK8.out.symm)
                    have hO2 := hide (show Own encI 1 3 wr w5.heap.size (.slice (some ⟨g7, 0, none⟩) (K + 1) c7) (LP s2.ord) by rw [hof.out]; exact hO.out)
                    have hPk2 := hide (hPick.out s2 wr hX.out hok2.out (by have := hK2.out; omega))
                    replace hfin2 := hide hfin2
                    clear hfin
                    go_wp2_with fail
                    refine hPk2.out.mono ?_
                    rintro e w11 ⟨p2, rfl, hpa2, m11, hw11⟩
                    have hX12 := hide (show FX w0.heap.size n sb gc gp gw (.slice (some ⟨b0, o0, none⟩) n hc) (.slice ta n tc) ra rb s2 w5 w11 by rw [hw11]; exact hX.out.stays (up_drewN (Below.refl _ _)))
                    have hO12 := hide (show Own encI 1 3 w11 w5.heap.size (.slice (some ⟨g7, 0, none⟩) (K + 1) c7) (LP s2.ord) by rw [hw11]; exact hO2.out.stays (up_drewN (Below.refl _ _)))
                    replace hpa2 := hide hpa2
                    replace hw11 := hide hw11
                    clear hPk2 hX hO2
                    go_wp2_with fail
                    go_roundg (gk - 1)
                    case measure => omega
                    case rel => exact ⟨s2, p2, _, _, K + 1, rfl, rfl, hK2, hX12, hpa2, hok2, hrun2, hO12, by omega, by omega⟩
end Go.Proofs.Ytcehdpeeaogpiaa
