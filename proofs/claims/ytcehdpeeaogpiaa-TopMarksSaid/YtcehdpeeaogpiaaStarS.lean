/-
  What star.Search returns (key: star.Run$1). Conditions: a right net of costs above 0, guesses within their bounds, a key that grows with the cost.
-/
import Derived.Test.YtcehdpeeaogpiaaStarG
import Derived.Test.YtcehdpeeaogpiaaStarO
import Derived.Test.YtcehdpeeaogpiaaStarB
import Derived.Test.YtcehdpeeaogpiaaRegInv
import Derived.Deep.RegionHeld3
import Derived.Deep.DeepCutAuto
import Derived.BigQuiet
import Derived.Deep.QuietTactic
import Derived.Deep.LoopGhost
namespace Go.Proofs.Ytcehdpeeaogpiaa
open Go.RowKit
set_option linter.unusedSimpArgs false
set_option linter.unusedVariables false
set_option maxRecDepth 100000 in
set_option maxHeartbeats 20000000 in
theorem search_anyS (n v tg : Nat) (a ha : Option Addr) (cap hc : Nat) (es : List Ed) (h : Nat → Int) (w : World) (B : Nat) (hB : B ≤ w.heap.size) (hE : Row encE 3 w B a es) (hH : Row encI 1 w B ha (LI n h)) (hn1 : 1 ≤ n) (hn : n ≤ 64) (hl : es.length ≤ 600) (hes : Right n es) (hpos : ∀ e ∈ es, 1 ≤ e.c)
    (hv : v < n) (ht : tg < n) (hh : ∀ u, u < n → 0 ≤ h u ∧ h u ≤ 1099511627776) (key : Int → Int → Int) (hmono : ∀ c d g, c ≤ d → key c g ≤ key d g) (hF : ∀ w', Below w.heap.size w w' → KeyFnS key w') :
    Calls Try.prog 92 #[.agg #[.int .i64 (n : Int), .slice a es.length cap], .int .i64 (v : Int), .int .i64 (tg : Int), .slice ha n hc, .func (.func 93) #[] #[]] w (FoundAns key (nes es) h n tg (sStart h v) w) := by
  have hmk := fun w => run_zeros w n (by omega)
  have hmkB := fun w => run_zerosB w n (by omega)
  replace hes := hide hes
  replace hpos := hide hpos
  replace hmono := hide hmono
  replace hF := hide hF
  replace hh := hide hh
  go_enter Try.func92, Try.ntmps92
  go_upto_region 1 with fail
  obtain ⟨w0, h0⟩ : ∃ w0, w0 = (w.alloc (.cells #[.int .i64 (n : Int), .slice a es.length cap] 24)).alloc (.cells #[.slice none 0 0, .int .i64 0, .slice none 0 0] 47) := ⟨_, rfl⟩
  have hB0 : Below w.heap.size w w0 := by rw [h0]; exact (by repeat (first | with_reducible exact Below.refl _ _ | with_reducible assumption | with_reducible refine up_drewN ?_ | with_reducible refine up_drew ?_ | (with_reducible refine up_alloc ?_ ?_; rotate_left; (first | omega | (simp <;> omega) | simp)) | (with_reducible refine up_set ?_ ?_; rotate_left; (first | omega | (simp <;> omega) | simp)) | (with_reducible refine Below.trans ?_ (Below.mono (by with_reducible assumption) ?_); rotate_left; (first | omega | (simp <;> omega) | simp))))
  have hs0 : w0.heap.size = w.heap.size + 2 := by rw [h0]; simp
  have nc0 : w0.cell? ⟨w.heap.size, 0, none⟩ = some (.int .i64 (n : Int)) := by rw [h0]; simp [go_sem]
  have nc1 : w0.cell? ⟨w.heap.size, 1, none⟩ = some (.slice a es.length cap) := by rw [h0]; simp [go_sem]
  have d0 : w0.cell? ⟨w.heap.size + 1, 0, none⟩ = some (.slice none 0 0) := by rw [h0]; simp [go_sem]
  have d1 : w0.cell? ⟨w.heap.size + 1, 1, none⟩ = some (.int .i64 0) := by rw [h0]; simp [go_sem]
  have d2 : w0.cell? ⟨w.heap.size + 1, 2, none⟩ = some (.slice none 0 0) := by rw [h0]; simp [go_sem]
  have e0 : w0.frozen? ⟨w.heap.size + 1, 0, none⟩ = false := by rw [h0]; simp [go_sem]
  have e1 : w0.frozen? ⟨w.heap.size + 1, 1, none⟩ = false := by rw [h0]; simp [go_sem]
  have e2 : w0.frozen? ⟨w.heap.size + 1, 2, none⟩ = false := by rw [h0]; simp [go_sem]
  have hE0 := hide (hE.below hB0 hB)
  have hH0 := hide (hH.below hB0 hB)
  have hF0 := hide (show ∀ w', Below w0.heap.size w0 w' → KeyFnS key w' from fun w' hb => hF.out w' (hB0.trans (hb.mono (by omega))))
  replace hB0 := hide hB0
  have key0 := hide (show ∀ w', Below w0.heap.size w0 w' → (Below w0.heap.size w0 w' ∧ w'.cell? ⟨w.heap.size, 0, none⟩ = some (.int .i64 (n : Int)) ∧ w'.cell? ⟨w.heap.size, 1, none⟩ = some (.slice a es.length cap) ∧ w0.heap.size ≤ w'.heap.size) from
    fun w' hb => ⟨hb, (hb.cell (by simp; omega)).trans nc0, (hb.cell (by simp; omega)).trans nc1, hb.size⟩)
  replace hs0 := hide hs0
  simp only [← h0]
  replace nc0 := hide nc0
  replace nc1 := hide nc1
  replace d0 := hide d0
  replace d1 := hide d1
  replace d2 := hide d2
  replace e0 := hide e0
  replace e1 := hide e1
  replace e2 := hide e2
  clear h0 hE hH
  go_cut [12] (fun s12 wx => MidS w0 n es (.slice ha n hc) (.func (.func 93) #[] #[]) s12 wx)
  case first =>
    refine wp_region_inv 15 (by kernel_rfl) [some 19, some 20, some 21, some 22, some 23, some 24, some 25, some 26, some 27, some 28, some 29, some 30, some 31, some 32, some 33] (FSt w0 n es (.agg #[.int .i64 (n : Int), .slice a es.length cap]) (.slice ha n hc) (.func (.func 93) #[] #[]) w.heap.size) (fun w' => Below w0.heap.size w0 w' ∧ w'.cell? ⟨w.heap.size, 0, none⟩ = some (.int .i64 (n : Int)) ∧ w'.cell? ⟨w.heap.size, 1, none⟩ = some (.slice a es.length cap) ∧ w0.heap.size ≤ w'.heap.size) (fun w w' => Below w.heap.size w w') (by kernel_rfl) (by kernel_rfl) (by kernel_rfl) (by kernel_rfl) (fst_stays) (fun _ _ h => h.size) (key0.out _ (below_drew _)) ?steps ?hend
    case steps =>
      refine ⟨?_, ?_, ?_, ?_, ?_, ?_, ?_, ?_, ?_, ?_, ?_, ?_, ?_, ?_, ?_, trivial⟩
      · intro X L H wI hS hd K hK
        have hS0 := hide hS
        (try dsimp only at hS)
        simp only [putAll, Act.put, List.setIfInBounds_toArray, List.set_cons_zero, List.set_cons_succ]
        go_simp
        refine hK _ _ wI.heap.size wI.heap.size _ ?_ (Nat.le_refl _) (Nat.le_refl _) (Nat.le_refl _) (Below.refl _ _) hS0.out rfl
        simp only [putAll, Act.put, List.setIfInBounds_toArray, List.set_cons_zero, List.set_cons_succ]
      · intro X L H wI hS hd K hK
        have hS0 := hide hS
        (try dsimp only at hS)
        simp only [putAll, Act.put, List.setIfInBounds_toArray, List.set_cons_zero, List.set_cons_succ]
        go_simp
        refine hK _ _ wI.heap.size wI.heap.size _ ?_ (Nat.le_refl _) (Nat.le_refl _) (Nat.le_refl _) (Below.refl _ _) hS0.out rfl
        simp only [putAll, Act.put, List.setIfInBounds_toArray, List.set_cons_zero, List.set_cons_succ]
      · intro X L H wI hS hd K hK
        (try have h1 : X 1 = _ := hd 1 (by kernel_rfl))
        have hS0 := hide hS
        (try dsimp only at hS)
        simp only [putAll, Act.put, List.setIfInBounds_toArray, List.set_cons_zero, List.set_cons_succ]
        (go_simp; go_at_call 94; refine (outs_any n a cap es _ w0.heap.size hS0.out.2.2.2 ((hE0.out.mono (by have := hs0.out; omega)).below hS0.out.1 (Nat.le_refl _)) hn (by omega) (fun e he => by have := hes.out e he; omega)).mono ?_; rintro e wO ⟨O, rfl, oOwn, hb5⟩; exact hK _ _ wI.heap.size wO.heap.size _ (by simp only [putAll, Act.put, List.setIfInBounds_toArray, List.set_cons_zero, List.set_cons_succ, h1]) (Nat.le_refl _) hb5.size (Nat.le_refl _) hb5 (key0.out _ (hS0.out.1.trans (hb5.mono hS0.out.2.2.2))) ⟨O, rfl, OutsAt.made oOwn⟩)
      · intro X L H wI hS hd K hK
        have hS0 := hide hS
        (try dsimp only at hS)
        simp only [putAll, Act.put, List.setIfInBounds_toArray, List.set_cons_zero, List.set_cons_succ]
        go_simp
        refine hK _ _ wI.heap.size wI.heap.size _ ?_ (Nat.le_refl _) (Nat.le_refl _) (Nat.le_refl _) (Below.refl _ _) hS0.out rfl
        simp only [putAll, Act.put, List.setIfInBounds_toArray, List.set_cons_zero, List.set_cons_succ]
      · intro X L H wI hS hd K hK
        have hS0 := hide hS
        (try dsimp only at hS)
        simp only [putAll, Act.put, List.setIfInBounds_toArray, List.set_cons_zero, List.set_cons_succ]
        go_simp
        refine hK _ _ wI.heap.size wI.heap.size _ ?_ (Nat.le_refl _) (Nat.le_refl _) (Nat.le_refl _) (Below.refl _ _) hS0.out rfl
        simp only [putAll, Act.put, List.setIfInBounds_toArray, List.set_cons_zero, List.set_cons_succ]
      · intro X L H wI hS hd K hK
        have h4 : X 4 = _ := hd 4 (by kernel_rfl)
        have hS0 := hide hS
        (try dsimp only at hS)
        simp only [putAll, Act.put, List.setIfInBounds_toArray, List.set_cons_zero, List.set_cons_succ]
        go_simp
        refine hK _ _ wI.heap.size wI.heap.size _ ?_ (Nat.le_refl _) (Nat.le_refl _) (Nat.le_refl _) (Below.refl _ _) hS0.out rfl
        simp only [putAll, Act.put, List.setIfInBounds_toArray, List.set_cons_zero, List.set_cons_succ, h4]
      · intro X L H wI hS hd K hK
        (try have h5 : X 5 = _ := hd 5 (by kernel_rfl))
        have hS0 := hide hS
        (try dsimp only at hS)
        simp only [putAll, Act.put, List.setIfInBounds_toArray, List.set_cons_zero, List.set_cons_succ]
        (go_simp; exact hK _ _ wI.heap.size (wI.heap.size + 1) _ (by simp only [putAll, Act.put, List.setIfInBounds_toArray, List.set_cons_zero, List.set_cons_succ, h5]) (Nat.le_refl _) (by omega) (by simp) ((Below.refl _ _).alloc (Nat.le_refl _) _) (key0.out _ (hS0.out.1.alloc hS0.out.2.2.2 _)) ⟨rfl, by omega, own_zeros _ _ _ hS0.out.2.2.2 (by omega)⟩)
      · intro X L H wI hS hd K hK
        have hS0 := hide hS
        (try dsimp only at hS)
        simp only [putAll, Act.put, List.setIfInBounds_toArray, List.set_cons_zero, List.set_cons_succ]
        go_simp
        refine hK _ _ wI.heap.size wI.heap.size _ ?_ (Nat.le_refl _) (Nat.le_refl _) (Nat.le_refl _) (Below.refl _ _) hS0.out rfl
        simp only [putAll, Act.put, List.setIfInBounds_toArray, List.set_cons_zero, List.set_cons_succ]
      · intro X L H wI hS hd K hK
        have h7 : X 7 = _ := hd 7 (by kernel_rfl)
        have hS0 := hide hS
        (try dsimp only at hS)
        simp only [putAll, Act.put, List.setIfInBounds_toArray, List.set_cons_zero, List.set_cons_succ]
        go_simp
        refine hK _ _ wI.heap.size wI.heap.size _ ?_ (Nat.le_refl _) (Nat.le_refl _) (Nat.le_refl _) (Below.refl _ _) hS0.out rfl
        simp only [putAll, Act.put, List.setIfInBounds_toArray, List.set_cons_zero, List.set_cons_succ, h7]
      · intro X L H wI hS hd K hK
        (try have h8 : X 8 = _ := hd 8 (by kernel_rfl))
        have hS0 := hide hS
        (try dsimp only at hS)
        simp only [putAll, Act.put, List.setIfInBounds_toArray, List.set_cons_zero, List.set_cons_succ]
        (go_simp; exact hK _ _ wI.heap.size (wI.heap.size + 1) _ (by simp only [putAll, Act.put, List.setIfInBounds_toArray, List.set_cons_zero, List.set_cons_succ, h8]) (Nat.le_refl _) (by omega) (by simp) ((Below.refl _ _).alloc (Nat.le_refl _) _) (key0.out _ (hS0.out.1.alloc hS0.out.2.2.2 _)) ⟨rfl, by omega, own_zeros _ _ _ hS0.out.2.2.2 (by omega)⟩)
      · intro X L H wI hS hd K hK
        have hS0 := hide hS
        (try dsimp only at hS)
        simp only [putAll, Act.put, List.setIfInBounds_toArray, List.set_cons_zero, List.set_cons_succ]
        go_simp
        refine hK _ _ wI.heap.size wI.heap.size _ ?_ (Nat.le_refl _) (Nat.le_refl _) (Nat.le_refl _) (Below.refl _ _) hS0.out rfl
        simp only [putAll, Act.put, List.setIfInBounds_toArray, List.set_cons_zero, List.set_cons_succ]
      · intro X L H wI hS hd K hK
        have h10 : X 10 = _ := hd 10 (by kernel_rfl)
        have hS0 := hide hS
        (try dsimp only at hS)
        simp only [putAll, Act.put, List.setIfInBounds_toArray, List.set_cons_zero, List.set_cons_succ]
        go_simp
        refine hK _ _ wI.heap.size wI.heap.size _ ?_ (Nat.le_refl _) (Nat.le_refl _) (Nat.le_refl _) (Below.refl _ _) hS0.out rfl
        simp only [putAll, Act.put, List.setIfInBounds_toArray, List.set_cons_zero, List.set_cons_succ, h10]
      · intro X L H wI hS hd K hK
        (try have h11 : X 11 = _ := hd 11 (by kernel_rfl))
        have hS0 := hide hS
        (try dsimp only at hS)
        simp only [putAll, Act.put, List.setIfInBounds_toArray, List.set_cons_zero, List.set_cons_succ]
        (go_simp; exact hK _ _ wI.heap.size (wI.heap.size + 1) _ (by simp only [putAll, Act.put, List.setIfInBounds_toArray, List.set_cons_zero, List.set_cons_succ, h11]) (Nat.le_refl _) (by omega) (by simp) ((Below.refl _ _).alloc (Nat.le_refl _) _) (key0.out _ (hS0.out.1.alloc hS0.out.2.2.2 _)) ⟨rfl, by omega, own_zerosB _ _ _ hS0.out.2.2.2 (by omega)⟩)
      · intro X L H wI hS hd K hK
        have hS0 := hide hS
        (try dsimp only at hS)
        simp only [putAll, Act.put, List.setIfInBounds_toArray, List.set_cons_zero, List.set_cons_succ]
        (go_simp; go_at_call 138; refine (newT_any 139 _).mono ?_; rintro e w3 ⟨rfl, rfl⟩; exact hK _ _ wI.heap.size (wI.heap.size + 1) _ (by simp only [putAll, Act.put, List.setIfInBounds_toArray, List.set_cons_zero, List.set_cons_succ]) (Nat.le_refl _) (by omega) (by simp) ((Below.refl _ _).alloc (Nat.le_refl _) _) (key0.out _ (hS0.out.1.alloc hS0.out.2.2.2 _)) ⟨rfl, by omega, hS0.out.2.2.2, HeapT.fresh _ _ _ _⟩)
      · intro X L H wI hS hd K hK
        have hS0 := hide hS
        (try dsimp only at hS)
        simp only [putAll, Act.put, List.setIfInBounds_toArray, List.set_cons_zero, List.set_cons_succ]
        go_simp
        refine hK _ _ wI.heap.size wI.heap.size _ ?_ (Nat.le_refl _) (Nat.le_refl _) (Nat.le_refl _) (Below.refl _ _) hS0.out rfl
        simp only [putAll, Act.put, List.setIfInBounds_toArray, List.set_cons_zero, List.set_cons_succ]
    case hend =>
      intro X L H wI hS hF hP
      (have f0 : X 0 = _ := (hF 0 (by omega)).1; obtain ⟨O, f2, o2⟩ := (hF 2 (by omega)).1; have f3 : X 3 = _ := (hF 3 (by omega)).1; obtain ⟨f6, l6, o6⟩ := (hF 6 (by omega)).1; obtain ⟨f9, l9, o9⟩ := (hF 9 (by omega)).1; obtain ⟨f12, l12, o12⟩ := (hF 12 (by omega)).1; obtain ⟨f13, l13, k13, o13⟩ := (hF 13 (by omega)).1; have f14 : X 14 = _ := (hF 14 (by omega)).1; have z2 := (hF 2 (by omega)).2; have z6 := (hF 6 (by omega)).2; have z9 := (hF 9 (by omega)).2; have z12 := (hF 12 (by omega)).2; have z13 := (hF 13 (by omega)).2; have p2_6 := hP 2 6 (by omega) (by omega) (by omega); have p2_9 := hP 2 9 (by omega) (by omega) (by omega); have p2_12 := hP 2 12 (by omega) (by omega) (by omega); have p2_13 := hP 2 13 (by omega) (by omega) (by omega); have p6_9 := hP 6 9 (by omega) (by omega) (by omega); have p6_12 := hP 6 12 (by omega) (by omega) (by omega); have p6_13 := hP 6 13 (by omega) (by omega) (by omega); have p9_12 := hP 9 12 (by omega) (by omega) (by omega); have p9_13 := hP 9 13 (by omega) (by omega) (by omega); have p12_13 := hP 12 13 (by omega) (by omega) (by omega); have hS' := hide hS; clear hS hF hP; replace o2 := hide o2; replace o6 := hide o6; replace o9 := hide o9; replace o12 := hide o12; replace o13 := hide o13)
      simp only [putAll, Act.put, List.setIfInBounds_toArray, List.set_cons_zero, List.set_cons_succ, f0, f2, f3, f6, f9, f12, f13, f14]
      change wpAny _ _ _ _ (2 + 1) _ _ _
      refine wpAny_ready (rs := [15]) (by kernel_rfl) (by simp) (AllReady.cons rfl (fun K hK => ?_) AllReady.nil)
      go_simp
      refine hK _ _ ?_
      clear hK K
      change wpAny _ _ _ _ (1 + 1) _ _ _
      refine wpAny_ready (rs := [16]) (by kernel_rfl) (by simp) (AllReady.cons rfl (fun K hK => ?_) AllReady.nil)
      go_simp
      refine hK _ _ ?_
      clear hK K
      change wpAny _ _ _ _ (0 + 1) _ _ _
      refine wpAny_ready (rs := [17]) (by kernel_rfl) (by simp) (AllReady.cons rfl (fun K hK => ?_) AllReady.nil)
      go_simp
      refine hK _ _ ?_
      clear hK K
      refine wpAny_done (by kernel_rfl) ?_ _
      go_wp2_with fail
      go_meet
      case rel =>
        have hb := (Below.refl wI.heap.size wI).alloc (Nat.le_refl _) (.cells #[.int .i64 (n : Int), .slice a es.length cap, .slice (some ⟨O, 0, none⟩) n n, .slice ha n hc, .slice (some ⟨L 6, 0, none⟩) n n, .slice (some ⟨L 9, 0, none⟩) n n, .slice (some ⟨L 12, 0, none⟩) n n, .pointer (some ⟨L 13, 0, none⟩), .func (.func 93) #[] #[]] 211)
        refine ⟨wI.heap.size, L 6, L 9, L 12, L 13, O, L 2, H 2, rfl, by simp [go_sem], by simp [go_sem], by simp [go_sem], by simp [go_sem], by simp [go_sem], by simp [go_sem], by simp [go_sem], o6.out.stays hb, o9.out.stays hb, o12.out.stays hb, o13.out.stays hb, o2.out.stays hb, hS'.out.1.trans (hb.mono hS'.out.2.2.2), ⟨hS'.out.2.2.2, k13⟩, ?_, ?_, ?_⟩
        · simp; omega
        · omega
        · omega
  case rest =>
    clear hmk hmkB key0
    obtain ⟨sb, gc, gp, gd, gh, O, lo, hi, rfl, hM⟩ := hcut
    obtain ⟨wS, hwS⟩ : ∃ wS, wS = wc := ⟨_, rfl⟩
    have hX0 := hide hM.sx
    have hbS := hide hM.below
    have hou := hide hM.outs
    have hlo1 : w0.heap.size ≤ gc := hM.cost.at_base.1
    have hlo2 : w0.heap.size ≤ gp := hM.pred.at_base.1
    have hlo3 : w0.heap.size ≤ gd := hM.done.at_base.1
    have hlo4 : w0.heap.size ≤ gh := hM.low.2
    have hlo5 : w0.heap.size ≤ sb := hM.low.1
    have hdis := hide hM.dis
    have hne := hM.ne
    have c4 := hM.c4
    clear hM
    simp only [← hwS] at hX0 hbS hou c4 ⊢
    clear hwS wc
    have hs00 := hs0.out
    have hzS : w0.heap.size ≤ wS.heap.size := hbS.out.size
    have hBS : B ≤ wS.heap.size := by omega
    have hrowS := hide (hH0.out.below hbS.out (by omega))
    have hrowE := hide (hE0.out.below hbS.out (by omega))
    have hHB := hide (show ∀ b o, ha = some ⟨b, o, none⟩ → ¬ SXb gc gp gd gh b from fun b o hab => by
      intro hc'
      have hrr := hrowS.out 0 (by rw [li_len]; omega)
      obtain ⟨b', o', g1, g2, _⟩ := hrr
      rw [hab] at g1
      simp only [Option.some.injEq, Addr.mk.injEq] at g1
      obtain ⟨rfl, _, _⟩ := g1
      rcases hc' with h1 | h1 | h1 | h1 <;> omega)
    have hK0 := hide (show ∀ w', Keep (SXb gc gp gd gh) wS w' → Below w0.heap.size w0 w' from fun w' hk => hbS.out.trans (hk.toBelow (fun j hj => by rcases hj with h1 | h1 | h1 | h1 <;> omega) hzS))
    have hF1 := hide (show ∀ w', Keep (SXb gc gp gd gh) wS w' → KeyFnS key w' from fun w' hk => hF0.out w' (hK0.out w' hk))
    clear hs00
    replace hne := hide hne
    go_wp2
    go_loopw [41] (fun i wr => ∃ k : Nat, k ≤ n ∧ i = .int .i64 (k : Int) ∧ Hid (SX w0.heap.size n sb gc gp gd gh (.slice (some ⟨O, 0, none⟩) n n) (.slice ha n hc) (.func (.func 93) #[] #[]) (.slice none 0 0) 0 (fun _ => ⟨0, 0, 0⟩) ⟨first k (fun _ => FAR) (fun _ => 0), first k (fun _ => -1) (fun _ => 0), []⟩ wS wr)) (fun i _ => n - (intOf i).toNat)
    case atStart => exact ⟨0, Nat.zero_le _, rfl, by rw [first_zero, first_zero]; exact hX0⟩
    case round =>
      clear hX0 c4
      obtain ⟨k, hk, rfl, hX⟩ := hrel
      have hne' := hne.out
      by_cases hlt : k < n
      · have k4 := hX.out.c4
        have k5 := hX.out.c5
        have kc := hX.out.cost.atI k hlt
        have kp := hX.out.pred.atI k hlt
        have fc := hX.out.cost.free k
        have fp := hX.out.pred.free k
        have hX2 := (hX.out.setC k hlt FAR).setP k hlt (-1)
        simp only [first_step k (fun _ => FAR) (fun _ => 0), first_step k (fun _ => (-1 : Int)) (fun _ => 0)] at hX2
        replace hX2 := hide hX2
        have ik : (0 : Int) ≤ (k : Int) ∧ (k : Int) < (n : Int) := by omega
        generalize (first k (fun _ => FAR) (fun _ => 0)) k = y1 at kc
        generalize (first k (fun _ => (-1 : Int)) (fun _ => 0)) k = y2 at kp
        unfold FAR at hX2
        go_wp2
        go_region
        go_wp2
        go_roundw
        case rel => exact ⟨k + 1, by omega, by go_num, by unfold FAR; first | exact hX2 | exact hide (hX2.out.stays (below_drew _))⟩
        case measure => simp [intOf]; omega
      · obtain rfl : n = k := by omega
        have hXs := hide (hX.out.recost s00 (by rw [first_all]; rfl) (by rw [first_all]; rfl) rfl)
        have hreach := hide (reach_anyS w0.heap.size n sb gc gp gd gh v hc 0 0 none ha (.slice (some ⟨O, 0, none⟩) n n) (fun _ => ⟨0, 0, 0⟩) s00 h 0 (-1) wS wr B hBS hXs.out hrowS.out hHB.out hv hn (by omega) key hF1.out hmono.out (by omega) (by omega) (hh.out v hv) (by simp [s00, FAR]) (fun i h1 h2 => by omega) ⟨fun p hp => by simp [RW] at hp, fun u hu => by have := hu.2.1; simp [s00] at this⟩)
        have e0 : sreach h s00 v 0 (-1) = sStart h v := by
          unfold sreach sStart
          by_cases hf : h v = FAR
          · rw [if_neg (fun x => x.2.1 hf), if_pos hf]
          · rw [if_pos ⟨by simp [s00], hf, by simp [s00, FAR]⟩, if_neg hf]
            simp only [s00]
            rw [upz_own (fun _ => (-1 : Int)) v]
        rw [e0] at hreach
        clear hX e0
        go_wp2_with fail
        refine hreach.out.mono ?_
        rintro e w4 ⟨rfl, a1, q1, c1, f1, hX4, hq1, hok4, hhs4, hk4, hbl4⟩
        have hok0 : SOk n v h (sStart h v) := by
          unfold sStart
          split
          · exact ⟨by simp [s00], fun u hu => by simp [s00] at hu, fun u => .inl rfl, fun u hu => by simp [s00] at hu⟩
          · rename_i hf
            refine ⟨by simp, fun u hu => by simp at hu, fun u => ?_, fun u hu => ?_⟩
            · by_cases huv : u = v
              · subst huv; right; simp [upz_same]
              · left; show upz (fun _ => FAR) v 0 u = FAR; rw [upz_other _ _ huv]
            · by_cases huv : u = v
              · subst huv; exact hf
              · have : upz (fun _ => FAR) v 0 u < FAR := hu
                rw [upz_other _ _ huv] at this
                omega
        have hwy0 : Ways (sStart h v) := by
          unfold sStart
          split
          · intro u hu; simp [s00] at hu
          · intro u hu
            by_cases huv : u = v
            · subst huv; exact ⟨[u], .top u (by simp), fun x hx => by simp at hx⟩
            · have : upz (fun _ => FAR) v 0 u < FAR := hu
              rw [upz_other _ _ huv] at this
              omega
        have hrs := rest_le (nes es) (fun u => decide (u ∈ (sStart h v).ord))
        have hnl : (nes es).length = es.length := by simp [nes]
        have hord0 : (sStart h v).ord = [] := by unfold sStart; split <;> rfl
        have hX5 := hide hX4
        have hok5 := hide hok4
        have hhs5 := hide hhs4
        have hok1 := hide hok0
        have hwy1 := hide hwy0
        have hrun1 := hide (show ∀ o, SRun key (nes es) h n tg (sStart h v) o → SRun key (nes es) h n tg (sStart h v) o from fun o h => h)
        have ho1 := hide (show Own encI 1 3 w4 wS.heap.size (.slice none 0 0) (LP (sStart h v).ord) by rw [hord0]; exact Own.nil _ _)
        have hd1 := hide (show ∀ j, (Value.slice none 0 0).ownBlock = some j → (Value.slice a1 q1 c1).ownBlock ≠ some j from fun j hj => by simp [Value.ownBlock] at hj)
        have hl0 : (sStart h v).ord.length = 0 := by rw [hord0]; rfl
        obtain ⟨s0, hs0e⟩ : ∃ s0, s0 = sStart h v := ⟨_, rfl⟩
        rw [← hs0e] at hX5 hhs5 hok1 hwy1 ho1 hl0 hrs
        rw [← hs0e]
        replace hs0e := hide hs0e
        have hrun2 : Hid (∀ o, SRun key (nes es) h n tg s0 o → SRun key (nes es) h n tg s0 o) := hide (fun o h => h)
        clear hX4 hok4 hhs4 hok0 hwy0 hk4 hbl4 hord0 hreach hXs hrun1
        go_wp2_with fail
        go_loopg [14] 700 (fun gk s14 wr => ∃ (s : SR) (q : Nat) (a0 : Option Addr) (qc : Nat) (f : Nat → Ed) (ao : Option Addr) (co k : Nat), s14 = .slice ao k co ∧ Hid (k = s.ord.length) ∧ Hid (SX w0.heap.size n sb gc gp gd gh (.slice (some ⟨O, 0, none⟩) n n) (.slice ha n hc) (.func (.func 93) #[] #[]) (.slice a0 q qc) q f s wS wr) ∧ Hid (HHas key h n s (RW q f)) ∧ Hid (HeapOK plLt q f) ∧ Hid (SOk n v h s) ∧ Hid (Ways s) ∧
          Hid (∀ o, SRun key (nes es) h n tg s o → SRun key (nes es) h n tg s0 o) ∧ Hid (Own encI 1 3 wr wS.heap.size (.slice ao k co) (LP s.ord)) ∧ Hid (∀ j, (Value.slice ao k co).ownBlock = some j → (Value.slice a0 q qc).ownBlock ≠ some j) ∧ q + rest (nes es) (fun u => decide (u ∈ s.ord)) ≤ gk ∧ gk ≤ 700)
        case atStart => exact ⟨s0, q1, a1, c1, f1, none, 0, 0, rfl, hide hl0.symm, hX5, hhs5, hok5, hok1, hwy1, hrun2, ho1, hd1, by omega, by omega⟩
        case round =>
          clear hX5 hok5 hhs5 hok1 hwy1 ho1 hd1 hl0 hrs hnl hq1 hrun2
          obtain ⟨s, q, a0, qc, f, ao, co, k, rfl, hk, hX, hhs, hok, hsok, hwy, hrun, hO, hd, hqr, hgk⟩ := hrel
          have k7 := hX.out.c7
          have kh1 := hX.out.heap.c1
          by_cases hq0 : q = 0
          · subst hq0
            have hbw : Below w0.heap.size w0 wr := hK0.out wr hX.out.keep
            have hzr : w0.heap.size ≤ wr.heap.size := hbw.size
            have hs00 := hs0.out
            have r0 := cu_below hbw d0.out (by simp; omega)
            have r1 := cu_below hbw d1.out (by simp; omega)
            have r2 := cu_below hbw d2.out (by simp; omega)
            have g0 := fu_below hbw e0.out (by simp; omega)
            have g1 := fu_below hbw e1.out (by simp; omega)
            have g2 := fu_below hbw e2.out (by simp; omega)
            have hbw2 := hide (hB0.out.trans (hbw.mono (by omega)))
            clear hs00
            go_wp2_with fail
            refine (lenT_any _ _ _ _ _ kh1).mono ?_
            rintro e w5 ⟨rfl, rfl⟩
            go_wp2
            refine bodyPost_ret (v := .tuple #[FoundNone, .int .i64 5]) (by simp [results, Try.results92, go_sem, FoundNone, r0, r1, r2, g0, g1, g2]) rfl ?_
            rw [← hs0e.out]
            refine ⟨none, hrun.out _ (.none s (hhas_none hhs.out)), ((hbw2.out.setCell (by simp) _).setCell (by simp) _).setCell (by simp) _, rfl⟩
          · obtain ⟨q', rfl⟩ : ∃ q', q = q' + 1 := ⟨q - 1, by omega⟩
            obtain ⟨gs, rfl, hgs1, hgs2⟩ := hX.out.heap.own.blockI' (by omega)
            have hqp : (0 : Int) < ((q' + 1 : Nat) : Int) := by omega
            obtain ⟨u, hun, hpc, hpv, huF, hpk⟩ := hhs.out.ent (f 0) (by rw [RW]; exact List.mem_map.2 ⟨0, by simp, rfl⟩)
            obtain ⟨pk, hpk0⟩ : ∃ pk, pk = (f 0).u := ⟨_, rfl⟩
            have hf0 : f 0 = ⟨pk, h u, (u : Int)⟩ := by rw [hpk0, ← hpc, ← hpv]
            have hPop := popT_any gh gh q' gs qc f wr hX.out.heap (by omega)
            obtain ⟨p1, p2⟩ := pop_ok plLt_ord hok.out
            have hmin := hide (fun i hi => heap_top plLt_ord hok.out i hi)
            rw [← hpk0] at hpk
            rw [hf0] at hPop p2 hmin
            have hmin2 := hide (show ∀ x ∈ RW (q' + 1) f, plLt x ⟨pk, h u, (u : Int)⟩ = false from fun x hx => by
              obtain ⟨i, hi, rfl⟩ := List.mem_map.1 hx
              exact hmin.out i (List.mem_range.1 hi))
            have hXk := hide (fun w' f' h1 h2 => hX.out.pop (w' := w') (gs := gs) (c := qc) (k' := q') (f' := f') rfl h1 h2)
            have hOk := hide (show ∀ w', Keep (fun j => j = gh ∨ j = gs) wr w' → Own encI 1 3 w' wS.heap.size (.slice ao k co) (LP s.ord) from fun w' hk => hk.own hO.out (fun j hj hc => by
              have h1 := (hO.out.block_lt j hj).1
              have h2 := hX.out.lt.2.2.2.2
              rcases hc with h3 | h3
              · omega
              · exact hd.out j hj (by rw [h3]; rfl)))
            have hog := hide (show ∀ j, (Value.slice ao k co).ownBlock = some j → wS.heap.size ≤ j ∧ j < wr.heap.size from fun j hj => hO.out.block_lt j hj)
            generalize siftDown plLt q' (upz f 0 (f q')) 0 = f2 at hPop p1 p2
            replace hPop := hide hPop
            replace p1 := hide p1
            replace p2 := hide p2
            replace hpk := hide hpk
            have hcb := hsok.out.cb u
            obtain ⟨y, hy⟩ : ∃ y, y = h u := ⟨_, rfl⟩
            obtain ⟨x, hx⟩ : ∃ x, x = s.cost u := ⟨_, rfl⟩
            have hyb := hh.out u hun
            rw [← hx] at hcb huF
            rw [← hy] at hPop hyb
            have hlen := sok_len hsok.out
            replace hy := hide hy
            replace hx := hide hx
            clear hf0 hmin hpk0 hpc hpv
            go_wp2_with fail
            refine (lenT_any _ _ _ _ _ kh1).mono ?_
            rintro e w5 ⟨rfl, rfl⟩
            go_wp2_with fail
            refine hPop.out.mono ?_
            rintro e w5 ⟨rfl, hA5, hK5⟩
            have hX5 := hide (hXk.out _ _ hA5 hK5)
            have hO5 := hide (hOk.out _ hK5)
            have hz5 := hK5.size
            clear hPop hXk hOk hA5 hK5 kh1 k7 hqp hX hO
            have hb6 : ∀ m, Below w5.heap.size w5 ((w5.alloc (.cells #[.int .i64 pk, .int .i64 y, .int .i64 (u : Int)] 178)).drewN m) := fun m => up_drewN (up_alloc (Below.refl _ _) (Nat.le_refl _))
            have hzw : wS.heap.size ≤ w5.heap.size := hX5.out.keep.size
            have k4 := hX5.out.c4
            have k6 := hX5.out.c6
            have dD := hX5.out.atD u hun
            have dC := hX5.out.cost.atI u hun
            rw [← hx.out] at dC
            have hbl := hX5.out.lt
            have zsb : sb < w5.heap.size := by omega
            have zgc : gc < w5.heap.size := by omega
            have zgd : gd < w5.heap.size := by omega
            clear hbl
            have iu : (0 : Int) ≤ (u : Int) ∧ (u : Int) < (n : Int) := by omega
            by_cases hin : u ∈ s.ord
            · have hdd : decide (u ∈ s.ord) = true := by simpa using hin
              rw [hdd] at dD
              have hhs6 := hide (hhas_drop hhs.out p2.out rfl (.inl hin))
              clear hdd hin
              go_wp2
              go_quiet (fail)
              have hX6 := hide (hX5.out.stays (hb6 nq))
              have hO6 := hide (hO5.out.stays (hb6 nq))
              go_wp2
              go_roundg (gk - 1)
              case measure => omega
              case rel => exact ⟨s, q', _, _, f2, ao, co, k, rfl, hk, hX6, hhs6, p1, hsok, hwy, hrun, hO6, hd, by omega, by omega⟩
            · have hdd : decide (u ∈ s.ord) = false := by simpa using hin
              rw [hdd] at dD
              have hC := hide (show ∀ w', Below w5.heap.size w5 w' → Calls Try.prog 93 #[.int .i64 x, .int .i64 y] w' fun e w'' => e = .returned (.int .i64 (key x y)) ∧ w'' = w' from fun w' hb => hF1.out w' (hX5.out.keep.trans (Keep.new hb)) x y (by unfold FAR at *; omega) (by unfold FAR at *; omega) (by omega) (by omega))
              obtain ⟨kk, hkk⟩ : ∃ kk, kk = key x y := ⟨_, rfl⟩
              rw [← hkk] at hC
              have hkk2 : kk = key (s.cost u) (h u) := by rw [hkk, hx.out, hy.out]
              by_cases hgt : kk < pk
              · have hhs6 := hide (hhas_drop hhs.out p2.out rfl (.inr (by rw [← hkk2]; exact hgt)))
                clear hdd
                replace hkk := hide hkk
                replace hkk2 := hide hkk2
                go_wp2
                go_quiet (first | (go_at_call 93; exact Calls.quiet_of_same (hC.out _ (by exact hb6 _))))
                have hX6 := hide (hX5.out.stays (hb6 nq))
                have hO6 := hide (hO5.out.stays (hb6 nq))
                go_wp2
                go_roundg (gk - 1)
                case measure => omega
                case rel => exact ⟨s, q', _, _, f2, ao, co, k, rfl, hk, hX6, hhs6, p1, hsok, hwy, hrun, hO6, hd, by omega, by omega⟩
              · obtain ⟨hnx, hhs6⟩ := hhas_next hhs.out p2.out hmin2.out rfl hin (by show pk ≤ _; rw [← hkk2]; omega)
                have hsm := hide (smid_start hsok.out hnx.1)
                have hok8 := hide (sok_look hsok.out hnx.1)
                have hwy8 := hide (ways_look hwy.out u)
                have hrm := rest_mark (E := nes es) (S := fun z => decide (z ∈ s.ord)) (v := u) hdd
                have hup : upz (fun z => decide (z ∈ s.ord)) u true = fun z => decide (z ∈ (look1 s u).ord) := by
                  funext z
                  unfold upz
                  simp only [look1, List.mem_append, List.mem_singleton]
                  by_cases hz : z = u
                  · simp [hz]
                  · simp [hz]
                rw [hup] at hrm
                have hLL := todo_len hes.out u
                have hlp : LP (look1 s u).ord = LP s.ord ++ [(u : Int)] := by simp [LP, look1]
                have hkl : (LP s.ord).length = k := by rw [lp_len]; exact hk.out.symm
                have hk8 := hide (show k + 1 = (look1 s u).ord.length by simp [look1, hk.out])
                have hkn : k ≤ 64 := by have := hk.out; omega
                replace hhs6 := hide hhs6
                replace hnx := hide hnx
                replace hrm := hide hrm
                replace hLL := hide hLL
                replace hlp := hide hlp
                replace hkk := hide hkk
                replace hkk2 := hide hkk2
                clear hup hdd hin hmin2 p2 hhs hok
                go_wp2
                go_quiet (first | (go_at_call 93; exact Calls.quiet_of_same (hC.out _ (by exact hb6 _))))
                have hX6 := hide (hX5.out.stays (hb6 nq))
                have hO6 := hide (hO5.out.stays (hb6 nq))
                have xc : ((w5.alloc (.cells #[.int .i64 pk, .int .i64 y, .int .i64 (u : Int)] 178)).drewN nq).cell? ⟨w5.heap.size, 2, none⟩ = some (.int .i64 (u : Int)) := cu_drewN (by simp [go_sem])
                clear hC hb6 hX5 hO5 k4 k6 dD dC
                generalize ((w5.alloc (.cells #[.int .i64 pk, .int .i64 y, .int .i64 (u : Int)] 178)).drewN nq) = wx at hX6 hO6 xc ⊢
                have k6 := hX6.out.c6
                have dD := hX6.out.atD u hun
                have fD := hX6.out.done.free u
                have hX7 := hide ((hX6.out.setD u hun).stays (below_drew _))
                have hO7 := hide ((hO6.out.elsewhere (p := ⟨gd, u, none⟩) (fun e => by have h1 : wS.heap.size ≤ gd := (hog.out _ e).1; have h2 := hX6.out.lt.2.2.2.1; omega) (.bool true)).drew)
                have xc7 : (wx.setCell ⟨gd, u, none⟩ (.bool true)).drew.cell? ⟨w5.heap.size, 2, none⟩ = some (.int .i64 (u : Int)) := cu_set xc (by simp; omega)
                generalize decide (u ∈ s.ord) = bb at dD
                go_wp2
                go_region
                generalize (wx.setCell ⟨gd, u, none⟩ (.bool true)).drew = wy at hX7 hO7 xc7 ⊢
                clear hX6 hO6 xc k6 dD fD bb wx
                have hpy : w5.heap.size < wy.heap.size := cell_lt xc7
                have hzy : wS.heap.size ≤ wy.heap.size := by omega
                have hd7 := hide (show ∀ j, (Value.slice ao k co).ownBlock = some j → (Value.slice (some ⟨gs, 0, none⟩) q' qc).ownBlock ≠ some j from hd.out)
                go_upto_region 14 with ((at_builtin; (refine wpList_pushL (e := 3) (enc := encI) (xs := (LP s.ord)) (v := .slice ao (k) co) (base := wS.heap.size) rfl (.tmp 103) (.tmp 106) 29 rfl _ 8 Try.underlying29 info_int rfl ?d17 lenI oneI (k) ?d27 ?d37 ?d47 ⟨wy.heap.size, 0, none⟩ 1 (u : Int) ?d57 ?d67 ?d77 ?d87 ?d97 ?_); (case d17 => omega); (case d27 => exact hkl); (case d37 => rfl); (case d47 => exact (hO7.out.alloc _)); (case d57 => rfl); (case d67 => exact newI _ _ _ _ rfl); (case d77 => omega); (case d87 => unfold maxLen; omega); (case d97 => first | omega | (simp; done) | (simp; omega)); intro g7 c7 w7 own7 hb7 hgr7 hat7 hgl7; rw [← hlp.out] at own7; have hXa := hX7.out.stays ((Below.refl _ _).alloc (Nat.le_refl _) (.cells #[.int .i64 (u : Int)] 3)); have kp7 := Keep.grown (S := fun j => (Value.slice ao k co).ownBlock = some j) (Keep.refl _ _) hgr7 (fun j hj => .inl hj); have hX8 := hide (hXa.other kp7 (fun j hj => ⟨(hog.out j hj).1, hd7.out j hj⟩)); have xc8 := kp7.cu (cu_alloc xc7) (fun e => by have h1 := (hog.out _ e).2; simp at h1; omega); replace own7 := hide own7; replace hgr7 := hide hgr7; replace hb7 := hide hb7; clear hXa kp7))
                have hzy2 : wy.heap.size + 1 ≤ w7.heap.size := by have := hgr7.out.size; simpa using this
                have hd8 := hide (show ∀ j, (Value.slice (some ⟨g7, 0, none⟩) (k + 1) c7).ownBlock = some j → (Value.slice (some ⟨gs, 0, none⟩) q' qc).ownBlock ≠ some j from fun j hj => by
                  simp only [Value.ownBlock, Option.some.injEq] at hj
                  subst hj
                  rcases hat7 with h1 | h1
                  · exact hd7.out _ h1
                  · intro h2
                    simp only [Value.ownBlock, Option.some.injEq] at h2
                    simp at h1
                    omega)
                have hsx := hX8.out.lt
                clear hat7 hd hd7 hgr7 hb7
                by_cases hut : u = tg
                · have q2 : ((u : Int) == (tg : Int)) = true := by rw [hut]; simp
                  have k5 := hX8.out.c5
                  have k4 := hX8.out.c4
                  have dC := hX8.out.cost.atI tg ht
                  have zsb : sb < w7.heap.size := by omega
                  have zgc : gc < w7.heap.size := by omega
                  have hw : Waits n s u := hnx.out.1
                  obtain ⟨lc, hch, hct⟩ := hwy8.out tg (by rw [← hut]; exact hw.2.1)
                  obtain ⟨hll, hlm⟩ := ways_len hok8.out ht hch hct
                  obtain ⟨cst, hcst⟩ : ∃ cst, cst = (look1 s u).cost tg := ⟨_, rfl⟩
                  rw [← hcst] at dC
                  have hPr := hide (show Row encI 1 w7 w7.heap.size (some ⟨gp, 0, none⟩) (LI n (look1 s u).pred) from own_row hX8.out.pred)
                  have hch2 := hide hch
                  have hlm2 := hide hlm
                  have hut2 := hide hut
                  have hKw := hide (hX8.out.keep)
                  replace hcst := hide hcst
                  have hzs : w.heap.size + 1 < w7.heap.size := by have := hs0.out; omega
                  have key1 := hide (show ∀ w', Below w7.heap.size w7 w' → (Below w7.heap.size w7 w' ∧ w'.cell? ⟨sb, 5, none⟩ = some (.slice (some ⟨gp, 0, none⟩) n n) ∧ w'.cell? ⟨sb, 4, none⟩ = some (.slice (some ⟨gc, 0, none⟩) n n) ∧ w'.cell? ⟨gc, tg, none⟩ = some (.int .i64 cst)) from
                    fun w' hb => ⟨hb, cu_below hb k5 zsb, cu_below hb k4 zsb, cu_below hb dC zgc⟩)
                  have it : (0 : Int) ≤ (tg : Int) ∧ (tg : Int) < (n : Int) := by omega
                  clear k4 k5 dC hch hlm hct hut hw
                  go_upto_region 15 with fail
                  refine wp_region_inv 14 (by kernel_rfl) [some 112, some 113, some 114, some 115, some 116, some 117, some 118, some 119, some 120, some 121, some 122, some 123, some 124, some 125] (FBk n sb gp gc tg cst (.slice (some ⟨g7, 0, none⟩) (k + 1) c7) lc w7.heap.size) (fun w' => Below w7.heap.size w7 w' ∧ w'.cell? ⟨sb, 5, none⟩ = some (.slice (some ⟨gp, 0, none⟩) n n) ∧ w'.cell? ⟨sb, 4, none⟩ = some (.slice (some ⟨gc, 0, none⟩) n n) ∧ w'.cell? ⟨gc, tg, none⟩ = some (.int .i64 cst)) (fun w w' => Below w.heap.size w w') (by kernel_rfl) (by kernel_rfl) (by kernel_rfl) (by kernel_rfl) (fbk_stays) (fun _ _ h => h.size) (key1.out _ (below_drew _)) ?steps ?hend
                  case steps =>
                    refine ⟨?_, ?_, ?_, ?_, ?_, ?_, ?_, ?_, ?_, ?_, ?_, ?_, ?_, ?_, trivial⟩
                    · intro X L H wI hS hd K hK
                      have hS0 := hide hS
                      (try dsimp only at hS)
                      simp only [putAll, Act.put, List.setIfInBounds_toArray, List.set_cons_zero, List.set_cons_succ]
                      go_simp
                      refine hK _ _ wI.heap.size wI.heap.size _ ?_ (Nat.le_refl _) (Nat.le_refl _) (Nat.le_refl _) (Below.refl _ _) hS0.out rfl
                      simp only [putAll, Act.put, List.setIfInBounds_toArray, List.set_cons_zero, List.set_cons_succ]
                    · intro X L H wI hS hd K hK
                      have h0 : X 0 = _ := hd 0 (by kernel_rfl)
                      have hS0 := hide hS
                      (try dsimp only at hS)
                      simp only [putAll, Act.put, List.setIfInBounds_toArray, List.set_cons_zero, List.set_cons_succ]
                      go_simp
                      refine hK _ _ wI.heap.size wI.heap.size _ ?_ (Nat.le_refl _) (Nat.le_refl _) (Nat.le_refl _) (Below.refl _ _) hS0.out rfl
                      simp only [putAll, Act.put, List.setIfInBounds_toArray, List.set_cons_zero, List.set_cons_succ, h0]
                    · intro X L H wI hS hd K hK
                      have h1 : X 1 = _ := hd 1 (by kernel_rfl)
                      have hS0 := hide hS
                      (try dsimp only at hS)
                      simp only [putAll, Act.put, List.setIfInBounds_toArray, List.set_cons_zero, List.set_cons_succ]
                      go_simp
                      refine hK _ _ wI.heap.size wI.heap.size _ ?_ (Nat.le_refl _) (Nat.le_refl _) (Nat.le_refl _) (Below.refl _ _) hS0.out rfl
                      simp only [putAll, Act.put, List.setIfInBounds_toArray, List.set_cons_zero, List.set_cons_succ, h1]
                    · intro X L H wI hS hd K hK
                      have h2 : X 2 = _ := hd 2 (by kernel_rfl)
                      have hS0 := hide hS
                      (try dsimp only at hS)
                      simp only [putAll, Act.put, List.setIfInBounds_toArray, List.set_cons_zero, List.set_cons_succ]
                      go_simp
                      refine hK _ _ wI.heap.size wI.heap.size _ ?_ (Nat.le_refl _) (Nat.le_refl _) (Nat.le_refl _) (Below.refl _ _) hS0.out rfl
                      simp only [putAll, Act.put, List.setIfInBounds_toArray, List.set_cons_zero, List.set_cons_succ, h2]
                    · intro X L H wI hS hd K hK
                      have hS0 := hide hS
                      (try dsimp only at hS)
                      simp only [putAll, Act.put, List.setIfInBounds_toArray, List.set_cons_zero, List.set_cons_succ]
                      go_simp
                      refine hK _ _ wI.heap.size wI.heap.size _ ?_ (Nat.le_refl _) (Nat.le_refl _) (Nat.le_refl _) (Below.refl _ _) hS0.out rfl
                      simp only [putAll, Act.put, List.setIfInBounds_toArray, List.set_cons_zero, List.set_cons_succ]
                    · intro X L H wI hS hd K hK
                      have hS0 := hide hS
                      (try dsimp only at hS)
                      simp only [putAll, Act.put, List.setIfInBounds_toArray, List.set_cons_zero, List.set_cons_succ]
                      go_simp
                      refine hK _ _ wI.heap.size wI.heap.size _ ?_ (Nat.le_refl _) (Nat.le_refl _) (Nat.le_refl _) (Below.refl _ _) hS0.out rfl
                      simp only [putAll, Act.put, List.setIfInBounds_toArray, List.set_cons_zero, List.set_cons_succ]
                    · intro X L H wI hS hd K hK
                      have h5 : X 5 = _ := hd 5 (by kernel_rfl)
                      have hS0 := hide hS
                      (try dsimp only at hS)
                      simp only [putAll, Act.put, List.setIfInBounds_toArray, List.set_cons_zero, List.set_cons_succ]
                      go_simp
                      refine hK _ _ wI.heap.size wI.heap.size _ ?_ (Nat.le_refl _) (Nat.le_refl _) (Nat.le_refl _) (Below.refl _ _) hS0.out rfl
                      simp only [putAll, Act.put, List.setIfInBounds_toArray, List.set_cons_zero, List.set_cons_succ, h5]
                    · intro X L H wI hS hd K hK
                      have h6 : X 6 = _ := hd 6 (by kernel_rfl)
                      have hS0 := hide hS
                      (try dsimp only at hS)
                      simp only [putAll, Act.put, List.setIfInBounds_toArray, List.set_cons_zero, List.set_cons_succ]
                      go_simp
                      refine hK _ _ wI.heap.size wI.heap.size _ ?_ (Nat.le_refl _) (Nat.le_refl _) (Nat.le_refl _) (Below.refl _ _) hS0.out rfl
                      simp only [putAll, Act.put, List.setIfInBounds_toArray, List.set_cons_zero, List.set_cons_succ, h6]
                    · intro X L H wI hS hd K hK
                      have h7 : X 7 = _ := hd 7 (by kernel_rfl)
                      have hS0 := hide hS
                      (try dsimp only at hS)
                      simp only [putAll, Act.put, List.setIfInBounds_toArray, List.set_cons_zero, List.set_cons_succ]
                      go_simp
                      refine hK _ _ wI.heap.size wI.heap.size _ ?_ (Nat.le_refl _) (Nat.le_refl _) (Nat.le_refl _) (Below.refl _ _) hS0.out rfl
                      simp only [putAll, Act.put, List.setIfInBounds_toArray, List.set_cons_zero, List.set_cons_succ, h7]
                    · intro X L H wI hS hd K hK
                      have hS0 := hide hS
                      (try dsimp only at hS)
                      simp only [putAll, Act.put, List.setIfInBounds_toArray, List.set_cons_zero, List.set_cons_succ]
                      go_simp
                      refine hK _ _ wI.heap.size wI.heap.size _ ?_ (Nat.le_refl _) (Nat.le_refl _) (Nat.le_refl _) (Below.refl _ _) hS0.out rfl
                      simp only [putAll, Act.put, List.setIfInBounds_toArray, List.set_cons_zero, List.set_cons_succ]
                    · intro X L H wI hS hd K hK
                      have h8 : X 8 = _ := hd 8 (by kernel_rfl)
                      have h9 : X 9 = _ := hd 9 (by kernel_rfl)
                      have hS0 := hide hS
                      (try dsimp only at hS)
                      simp only [putAll, Act.put, List.setIfInBounds_toArray, List.set_cons_zero, List.set_cons_succ]
                      go_simp
                      refine hK _ _ wI.heap.size wI.heap.size _ ?_ (Nat.le_refl _) (Nat.le_refl _) (Nat.le_refl _) (Below.refl _ _) hS0.out rfl
                      simp only [putAll, Act.put, List.setIfInBounds_toArray, List.set_cons_zero, List.set_cons_succ, h8, h9]
                    · intro X L H wI hS hd K hK
                      have h10 : X 10 = _ := hd 10 (by kernel_rfl)
                      have hS0 := hide hS
                      (try dsimp only at hS)
                      simp only [putAll, Act.put, List.setIfInBounds_toArray, List.set_cons_zero, List.set_cons_succ]
                      go_simp
                      refine hK _ _ wI.heap.size wI.heap.size _ ?_ (Nat.le_refl _) (Nat.le_refl _) (Nat.le_refl _) (Below.refl _ _) hS0.out rfl
                      simp only [putAll, Act.put, List.setIfInBounds_toArray, List.set_cons_zero, List.set_cons_succ, h10]
                    · intro X L H wI hS hd K hK
                      (try have h3 : X 3 = _ := hd 3 (by kernel_rfl))
                      (try have h4 : X 4 = _ := hd 4 (by kernel_rfl))
                      (try have h11 : X 11 = _ := hd 11 (by kernel_rfl))
                      have hS0 := hide hS
                      (try dsimp only at hS)
                      simp only [putAll, Act.put, List.setIfInBounds_toArray, List.set_cons_zero, List.set_cons_succ]
                      (go_simp; go_at_call 175; refine (back_any n tg n (some ⟨gp, 0, none⟩) (look1 s u).pred lc cst _ w7.heap.size hS0.out.1.size (hPr.out.below hS0.out.1 (Nat.le_refl _)) hch2.out hn hll hlm2.out).mono ?_; rintro e wB ⟨ba, bk, rfl, oB, hbB⟩; exact hK _ _ wI.heap.size wB.heap.size _ (by simp only [putAll, Act.put, List.setIfInBounds_toArray, List.set_cons_zero, List.set_cons_succ, h3, h4, h11]) (Nat.le_refl _) hbB.size (Nat.le_refl _) hbB (key1.out _ (hS0.out.1.trans (hbB.mono hS0.out.1.size))) ⟨ba, bk, rfl, oB.base_le hS0.out.1.size⟩)
                    · intro X L H wI hS hd K hK
                      have hS0 := hide hS
                      (try dsimp only at hS)
                      simp only [putAll, Act.put, List.setIfInBounds_toArray, List.set_cons_zero, List.set_cons_succ]
                      go_simp
                      refine hK _ _ wI.heap.size wI.heap.size _ ?_ (Nat.le_refl _) (Nat.le_refl _) (Nat.le_refl _) (Below.refl _ _) hS0.out rfl
                      simp only [putAll, Act.put, List.setIfInBounds_toArray, List.set_cons_zero, List.set_cons_succ]
                  case hend =>
                    intro X L H wI hS hF hP
                    (obtain ⟨ba, bk, f12, o12⟩ := (hF 12 (by omega)).1; have f13 : X 13 = _ := (hF 13 (by omega)).1; have hbI := hS.1; clear hS hF hP; replace o12 := hide o12; have hbw := hK0.out w7 hKw.out; have hbr := hbw.trans (hbI.mono hbw.size); have r0 := cu_below hbr d0.out (by have := hs0.out; simp; omega); have r1 := cu_below hbr d1.out (by have := hs0.out; simp; omega); have r2 := cu_below hbr d2.out (by have := hs0.out; simp; omega); have g0 := fu_below hbr e0.out (by have := hs0.out; simp; omega); have g1 := fu_below hbr e1.out (by have := hs0.out; simp; omega); have g2 := fu_below hbr e2.out (by have := hs0.out; simp; omega); have hbr2 := hide hbr; have hbI2 := hide hbI; clear hbw hbr hbI)
                    simp only [putAll, Act.put, List.setIfInBounds_toArray, List.set_cons_zero, List.set_cons_succ, f12, f13]
                    change wpAny _ _ _ _ (2 + 1) _ _ _
                    refine wpAny_ready (rs := [14]) (by kernel_rfl) (by simp) (AllReady.cons rfl (fun K hK => ?_) AllReady.nil)
                    go_simp
                    refine hK _ _ ?_
                    clear hK K
                    change wpAny _ _ _ _ (1 + 1) _ _ _
                    refine wpAny_ready (rs := [15]) (by kernel_rfl) (by simp) (AllReady.cons rfl (fun K hK => ?_) AllReady.nil)
                    go_simp
                    refine hK _ _ ?_
                    clear hK K
                    change wpAny _ _ _ _ (0 + 1) _ _ _
                    refine wpAny_ready (rs := [16]) (by kernel_rfl) (by simp) (AllReady.cons rfl (fun K hK => ?_) AllReady.nil)
                    go_simp
                    refine hK _ _ ?_
                    clear hK K
                    refine wpAny_done (by kernel_rfl) ?_ _
                    go_wp2_with fail
                    refine bodyPost_ret (v := .tuple #[.agg #[.slice ba lc.length bk, .int .i64 cst, .slice (some ⟨g7, 0, none⟩) (k + 1) c7], .int .i64 0]) (by simp [results, Try.results92, go_sem, r0, r1, r2, g0, g1, g2]) rfl ?_
                    have hzB := hB0.out.size
                    have hz7 : w.heap.size + 1 < wS.heap.size := by have := hs0.out; omega
                    have hux := hut2.out
                    subst hux
                    rw [← hs0e.out]
                    refine ⟨some (look1 s u), hrun.out _ (.hit s hnx.out), ?_, lc, ba, bk, some ⟨g7, 0, none⟩, c7, hch2.out, ?_, ?_, ?_⟩
                    · exact (((hB0.out.trans (hbr2.out.mono hzB)).setCell (by simp) _).setCell (by simp) _).setCell (by simp) _
                    · rw [← hk8.out, ← hcst.out]
                    · exact (((o12.out.setCell hzs _).setCell hzs _).setCell hzs _).base_le (by omega)
                    · have hr := ((((own7.out.stays hbI2.out).setCell (a := ⟨w.heap.size + 1, 0, none⟩) hz7 (.slice ba lc.length bk)).setCell (a := ⟨w.heap.size + 1, 1, none⟩) hz7 (.int .i64 cst)).setCell (a := ⟨w.heap.size + 1, 2, none⟩) hz7 (.slice (some ⟨g7, 0, none⟩) (k + 1) c7))
                      rw [← hk8.out]
                      exact hr.base_le (by omega)
                · have q2 : ((u : Int) == (tg : Int)) = false := by simp; omega
                  have k2 := hX8.out.c2
                  obtain ⟨av, cv, r0, hO1, hO2, hO3, rown, hrb⟩ := hou.out.row u hun
                  have hdd := hdis.out
                  have r1 := hX8.out.keep.cu r0 (by intro hc'; rcases hc' with h1 | h1 | h1 | h1 <;> simp only at h1 <;> omega)
                  obtain ⟨LL, hL⟩ : ∃ LL, LL = (outIdx es u es.length).length := ⟨_, rfl⟩
                  rw [← hL] at r0 r1 rown hrb
                  have hLl : LL ≤ es.length := by rw [hL]; exact outIdx_len es u es.length
                  have hrow := hide (show ∀ wq, Keep (SXb gc gp gd gh) wS wq → Own encI 1 3 wq lo (.slice av LL cv) (outIdx es u es.length) from fun wq hq => hq.own rown (fun j hj hc' => by
                    have := hrb j hj
                    rcases hc' with h1 | h1 | h1 | h1 <;> omega))
                  have hrm2 := hrm.out
                  rw [← hLL.out, ← hL] at hrm2
                  have hfold := hide (show (todoOf es u 0).foldl (sedge h u) (look1 s u) = expand (nes es) h u s by rw [todo_filter hes.out u, ← fold_own]; rfl)
                  have hstep := hide (show ∀ o, SRun key (nes es) h n tg (expand (nes es) h u s) o → SRun key (nes es) h n tg s0 o from fun o ho => hrun.out o (.step s u o hnx.out hut ho))
                  have hexl : w5.heap.size < w7.heap.size := cell_lt xc8
                  have hOl : O < w7.heap.size := by have := hX8.out.keep.size; omega
                  have zsb : sb < w7.heap.size := by have := hX8.out.keep.size; omega
                  have hX9 := hX8
                  have hgs5 := hide (show (Value.slice (some ⟨gs, 0, none⟩) q' qc).ownBlock ≠ some w5.heap.size from fun e => by simp [Value.ownBlock] at e; omega)
                  generalize hRR : (rest (nes es) fun z => decide (z ∈ (look1 s u).ord)) = RR at hrm2
                  replace hRR := hide hRR
                  replace hL := hide hL
                  have ofix := hide (show (look1 s u).ord = (look1 s u).ord from rfl)
                  clear r0 hdd rown hrb hrm hLL hrun hnx hlp
                  obtain ⟨gq, hgq⟩ : ∃ gq, gq = gk - 1 := ⟨_, rfl⟩
                  have hbudget : q' + LL + RR ≤ gq := by omega
                  obtain ⟨s1, hs1⟩ : ∃ s1, s1 = look1 s u := ⟨_, rfl⟩
                  rw [← hs1] at hX9 hhs6 hsm hwy8 hfold ofix hk8 hok8
                  have ho8 := hide (show Own encI 1 3 w7 wS.heap.size (.slice (some ⟨g7, 0, none⟩) (k + 1) c7) (LP s1.ord) by rw [hs1]; exact own7.out)
                  replace hs1 := hide hs1
                  clear own7 hX8
                  go_wp2
                  go_quiet (fail)
                  have hX10 := hide (hX9.out.stays (w' := w7.drewN nq) (up_drewN (Below.refl _ _)))
                  have ho10 := hide (ho8.out.stays (w' := w7.drewN nq) (up_drewN (Below.refl _ _)))
                  have xc10 : (w7.drewN nq).cell? ⟨w5.heap.size, 2, none⟩ = some (.int .i64 (u : Int)) := cu_drewN xc8
                  clear hX9 ho8 xc8 r1 k2
                  generalize w7.drewN nq = w8 at hX10 ho10 xc10 ⊢
                  go_wp2
                  go_loopw [136] (fun i wr => ∃ (j : Nat) (s2 : SR) (q2 : Nat) (a2 : Option Addr) (c2 : Nat) (f3 : Nat → Ed), j ≤ LL ∧ i = .int .i64 (j : Int) ∧ Hid (SX w0.heap.size n sb gc gp gd gh (.slice (some ⟨O, 0, none⟩) n n) (.slice ha n hc) (.func (.func 93) #[] #[]) (.slice a2 q2 c2) q2 f3 s2 wS wr) ∧ Hid (HHas key h n s2 (RW q2 f3)) ∧ Hid (HeapOK plLt q2 f3) ∧ Hid (SMid n v h u s2) ∧ Hid (Ways s2) ∧
                    Hid ((todoOf es u j).foldl (sedge h u) s2 = expand (nes es) h u s) ∧ Hid (s2.ord = s1.ord) ∧ q2 + (LL - j) + RR ≤ gq ∧ wr.cell? ⟨w5.heap.size, 2, none⟩ = some (.int .i64 (u : Int)) ∧ Hid (Own encI 1 3 wr wS.heap.size (.slice (some ⟨g7, 0, none⟩) (k + 1) c7) (LP s1.ord)) ∧
                    Hid (∀ j, (Value.slice (some ⟨g7, 0, none⟩) (k + 1) c7).ownBlock = some j → (Value.slice a2 q2 c2).ownBlock ≠ some j) ∧ Hid ((Value.slice a2 q2 c2).ownBlock ≠ some w5.heap.size)) (fun i _ => LL - (intOf i).toNat)
                  case atStart => exact ⟨0, s1, q', _, _, f2, Nat.zero_le _, rfl, hX10, hhs6, p1, hsm, hwy8, hfold, hide rfl, by omega, xc10, ho10, hd8, hgs5⟩
                  case round =>
                    clear hX10 hhs6 p1 hsm hwy8 hfold ofix xc10 ho10 hd8 hgs5
                    obtain ⟨j, s2, q2, a2, c2, f3, hj, rfl, hX, hhs, hok, hsm, hwy, hfold, hof, hbud, xc, ho, hd, hpb⟩ := hrel
                    have hzr : wS.heap.size ≤ wr.heap.size := hX.out.keep.size
                    have hxr : w5.heap.size < wr.heap.size := cell_lt xc
                    by_cases hlt : j < LL
                    · have hjl : j < (outIdx es u es.length).length := by rw [← hL.out]; exact hlt
                      obtain ⟨i, hi1, hi2, hi3⟩ := outIdx_get es u j hjl
                      obtain ⟨u2, vv, e1', e2', e3, e4, e5, e6, -⟩ := right_edge hes.out i hi2
                      have e7 := hpos.out es[i] (List.getElem_mem hi2)
                      have htd := todo_step hjl hi1 hi2 hi3 e2'
                      have rown := hrow.out wr hX.out.keep
                      obtain ⟨gr, rfl, hgr1, hgr2⟩ := rown.blockI' (by omega)
                      have rc := rown.getI j hjl
                      rw [hi1] at rc
                      have hs00 := hs0.out
                      have hwb := hK0.out wr hX.out.keep
                      have k8 := cu_below hwb nc1.out (by simp; omega)
                      obtain ⟨b, o, rfl, hbB, m1, m2, m3⟩ := hrowE.out.ed i hi2
                      have hbne : ¬ SXb gc gp gd gh b := by
                        intro hc'
                        rcases hc' with h1 | h1 | h1 | h1 <;> omega
                      have m1 := hX.out.keep.cu m1 hbne
                      have m2 := hX.out.keep.cu m2 hbne
                      have m3 := hX.out.keep.cu m3 hbne
                      rw [e1'] at m1
                      rw [e2'] at m2
                      obtain ⟨ec, hec⟩ : ∃ ec, ec = es[i].c := ⟨_, rfl⟩
                      rw [← hec] at m3 e5 e6 e7 htd
                      have hbr : b < wr.heap.size := by omega
                      have hbw : w.heap.size < wr.heap.size := by omega
                      have zsb : sb < wr.heap.size := by have := hX.out.lt; omega
                      have zgc : gc < wr.heap.size := by have := hX.out.lt; omega
                      have x4 := hX.out.c4
                      have xC := hX.out.cost.atI u hun
                      have hcu := hsm.out.cv
                      have hcb := hsm.out.ok.cb vv
                      have hlen2 := sok_len hsm.out.ok
                      obtain ⟨x2, hx2⟩ : ∃ x2, x2 = s2.cost u := ⟨_, rfl⟩
                      rw [← hx2] at xC hcu
                      have ij : (0 : Int) ≤ (j : Int) ∧ (j : Int) < (LL : Int) := by omega
                      have ii : (0 : Int) ≤ (i : Int) ∧ (i : Int) < (es.length : Int) := by omega
                      have hgrl : gr < wr.heap.size := hgr2
                      have hsr : ∀ c', c' = x2 + ec → sreach h s2 vv c' (u : Int) = sedge h u s2 ⟨u, vv, ec⟩ := fun c' hc' => by rw [hc', hx2]; exact sreach_edge h s2 u vv ec
                      have hreach := hide (fun (w' : World) (hb : Below wr.heap.size wr w') => reach_anyS w0.heap.size n sb gc gp gd gh vv hc q2 c2 a2 ha (.slice (some ⟨O, 0, none⟩) n n) f3 s2 h (x2 + ec) (u : Int) wS w' B hBS (hX.out.stays hb) hrowS.out hHB.out e4 hn (by omega) key hF1.out hmono.out (by omega) (by omega) (hh.out vv e4) (by unfold FAR at *; omega) hok.out hhs.out)
                      rw [hsr _ rfl] at hreach
                      have hwrap := hide (show IntKind.i64.wrap (x2 + ec) = x2 + ec from IntWalk.i64_in _ (by unfold FAR at *; omega))
                      have hsm2 := hide (smid_edge hsm.out (e := ⟨u, vv, ec⟩) (by simp only; omega) (by omega))
                      have hwy2 := hide (ways_edge (h := h) (v := u) (e := ⟨u, vv, ec⟩) hwy.out hsm.out.inO ((hsm.out.ok.ordLt u hsm.out.inO).2))
                      have hfold2 := hfold.out
                      rw [htd, List.foldl_cons] at hfold2
                      have hof2 := hide (show (sedge h u s2 ⟨u, vv, ec⟩).ord = s1.ord by unfold sedge; split <;> exact hof.out)
                      have hog2 := hide (show ∀ j, (Value.slice (some ⟨g7, 0, none⟩) (k + 1) c7).ownBlock = some j → wS.heap.size ≤ j ∧ j < wr.heap.size from ho.out.block_lt)
                      replace hfold2 := hide hfold2
                      replace hx2 := hide hx2
                      replace hec := hide hec
                      replace e1' := hide e1'
                      replace e2' := hide e2'
                      replace hi1 := hide hi1
                      replace hi3 := hide hi3
                      replace hsr := hide hsr
                      have hsl := hX.out.lt
                      have hpB : ¬ SXb gc gp gd gh w5.heap.size := by
                        intro hc'
                        rcases hc' with h1 | h1 | h1 | h1 <;> omega
                      have hgB := hide (show ∀ j, wS.heap.size ≤ j → ¬ SXb gc gp gd gh j from fun j hj hc' => by rcases hc' with h1 | h1 | h1 | h1 <;> omega)
                      clear htd rown hwb hbne hfold hsm hwy hok hhs hof hs00 hsl
                      have key2 := hide (show ∀ w', Below (wr.alloc (.cells #[.int .i64 (u2 : Int), .int .i64 (vv : Int), .int .i64 ec] 34)).heap.size (wr.alloc (.cells #[.int .i64 (u2 : Int), .int .i64 (vv : Int), .int .i64 ec] 34)) w' → (Below wr.heap.size wr w' ∧ w'.cell? ⟨wr.heap.size, 1, none⟩ = some (.int .i64 (vv : Int)) ∧ w'.cell? ⟨wr.heap.size, 2, none⟩ = some (.int .i64 ec) ∧ w'.cell? ⟨sb, 4, none⟩ = some (.slice (some ⟨gc, 0, none⟩) n n) ∧ w'.cell? ⟨w5.heap.size, 2, none⟩ = some (.int .i64 (u : Int)) ∧ w'.cell? ⟨gc, u, none⟩ = some (.int .i64 x2)) from fun w' hb =>
                        ⟨unalloc (hb.mono (by simp)) (Nat.le_refl _), cu_below hb (by simp [go_sem]) (by simp), cu_below hb (by simp [go_sem]) (by simp), cu_below hb (cu_alloc x4) (by simp; omega), cu_below hb (cu_alloc xc) (by simp; omega), cu_below hb (cu_alloc xC) (by simp; omega)⟩)
                      go_wp2
                      refine wp_region_end (S := (fun w' => Below wr.heap.size wr w' ∧ w'.cell? ⟨wr.heap.size, 1, none⟩ = some (.int .i64 (vv : Int)) ∧ w'.cell? ⟨wr.heap.size, 2, none⟩ = some (.int .i64 ec) ∧ w'.cell? ⟨sb, 4, none⟩ = some (.slice (some ⟨gc, 0, none⟩) n n) ∧ w'.cell? ⟨w5.heap.size, 2, none⟩ = some (.int .i64 (u : Int)) ∧ w'.cell? ⟨gc, u, none⟩ = some (.int .i64 x2))) (t := 16) (by kernel_rfl) ?_ (fun hHeld hInv => ?_)
                      · exact key2.out _ (up_drew (Below.refl _ _))
                      replace hInv := hide hInv
                      refine wpAnyE_take (i := 0) (v := ?_) (List.getElem?_toArray.trans rfl) (by kernel_rfl) (by kernel_rfl) (by kernel_rfl) (by kernel_rfl) (fun _ _ _ h => h) (Or.inl ⟨by rfl, ?_⟩) hInv.out (by assumption) (fun hInv' => ?_)
                      rotate_left
                      · intro w hSw; (try dsimp only at hSw); go_simp; (try with_reducible rfl)
                      replace hInv := hide hInv'; clear hInv'; try simp only [Act.put, List.setIfInBounds_toArray, List.set_cons_zero, List.set_cons_succ]
                      refine wpAnyE_take (i := 1) (v := ?_) (List.getElem?_toArray.trans rfl) (by kernel_rfl) (by kernel_rfl) (by kernel_rfl) (by kernel_rfl) (fun _ _ _ h => h) (Or.inl ⟨by rfl, ?_⟩) hInv.out (by assumption) (fun hInv' => ?_)
                      rotate_left
                      · intro w hSw; (try dsimp only at hSw); go_simp; (try with_reducible rfl)
                      replace hInv := hide hInv'; clear hInv'; try simp only [Act.put, List.setIfInBounds_toArray, List.set_cons_zero, List.set_cons_succ]
                      refine wpAnyE_take (i := 2) (v := ?_) (List.getElem?_toArray.trans rfl) (by kernel_rfl) (by kernel_rfl) (by kernel_rfl) (by kernel_rfl) (fun _ _ _ h => h) (Or.inl ⟨by rfl, ?_⟩) hInv.out (by assumption) (fun hInv' => ?_)
                      rotate_left
                      · intro w hSw; (try dsimp only at hSw); go_simp; (try with_reducible rfl)
                      replace hInv := hide hInv'; clear hInv'; try simp only [Act.put, List.setIfInBounds_toArray, List.set_cons_zero, List.set_cons_succ]
                      refine wpAnyE_take (i := 3) (v := ?_) (List.getElem?_toArray.trans rfl) (by kernel_rfl) (by kernel_rfl) (by kernel_rfl) (by kernel_rfl) (fun _ _ _ h => h) (Or.inl ⟨by rfl, ?_⟩) hInv.out (by assumption) (fun hInv' => ?_)
                      rotate_left
                      · intro w hSw; (try dsimp only at hSw); go_simp; (try with_reducible rfl)
                      replace hInv := hide hInv'; clear hInv'; try simp only [Act.put, List.setIfInBounds_toArray, List.set_cons_zero, List.set_cons_succ]
                      refine wpAnyE_take (i := 4) (v := ?_) (List.getElem?_toArray.trans rfl) (by kernel_rfl) (by kernel_rfl) (by kernel_rfl) (by kernel_rfl) (fun _ _ _ h => h) (Or.inl ⟨by rfl, ?_⟩) hInv.out (by assumption) (fun hInv' => ?_)
                      rotate_left
                      · intro w hSw; (try dsimp only at hSw); go_simp; (try with_reducible rfl)
                      replace hInv := hide hInv'; clear hInv'; try simp only [Act.put, List.setIfInBounds_toArray, List.set_cons_zero, List.set_cons_succ]
                      refine wpAnyE_take (i := 5) (v := ?_) (List.getElem?_toArray.trans rfl) (by kernel_rfl) (by kernel_rfl) (by kernel_rfl) (by kernel_rfl) (fun _ _ _ h => h) (Or.inl ⟨by rfl, ?_⟩) hInv.out (by assumption) (fun hInv' => ?_)
                      rotate_left
                      · intro w hSw; (try dsimp only at hSw); go_simp; (try with_reducible rfl)
                      replace hInv := hide hInv'; clear hInv'; try simp only [Act.put, List.setIfInBounds_toArray, List.set_cons_zero, List.set_cons_succ]
                      refine wpAnyE_take (i := 6) (v := ?_) (List.getElem?_toArray.trans rfl) (by kernel_rfl) (by kernel_rfl) (by kernel_rfl) (by kernel_rfl) (fun _ _ _ h => h) (Or.inl ⟨by rfl, ?_⟩) hInv.out (by assumption) (fun hInv' => ?_)
                      rotate_left
                      · intro w hSw; (try dsimp only at hSw); go_simp; (try with_reducible rfl)
                      replace hInv := hide hInv'; clear hInv'; try simp only [Act.put, List.setIfInBounds_toArray, List.set_cons_zero, List.set_cons_succ]
                      refine wpAnyE_take (i := 7) (v := ?_) (List.getElem?_toArray.trans rfl) (by kernel_rfl) (by kernel_rfl) (by kernel_rfl) (by kernel_rfl) (fun _ _ _ h => h) (Or.inl ⟨by rfl, ?_⟩) hInv.out (by assumption) (fun hInv' => ?_)
                      rotate_left
                      · intro w hSw; (try dsimp only at hSw); go_simp; (try with_reducible rfl)
                      replace hInv := hide hInv'; clear hInv'; try simp only [Act.put, List.setIfInBounds_toArray, List.set_cons_zero, List.set_cons_succ]
                      refine wpAnyE_take (i := 8) (v := ?_) (List.getElem?_toArray.trans rfl) (by kernel_rfl) (by kernel_rfl) (by kernel_rfl) (by kernel_rfl) (fun _ _ _ h => h) (Or.inl ⟨by rfl, ?_⟩) hInv.out (by assumption) (fun hInv' => ?_)
                      rotate_left
                      · intro w hSw; (try dsimp only at hSw); go_simp; (try with_reducible rfl)
                      replace hInv := hide hInv'; clear hInv'; try simp only [Act.put, List.setIfInBounds_toArray, List.set_cons_zero, List.set_cons_succ]
                      refine wpAnyE_take (i := 9) (v := ?_) (List.getElem?_toArray.trans rfl) (by kernel_rfl) (by kernel_rfl) (by kernel_rfl) (by kernel_rfl) (fun _ _ _ h => h) (Or.inl ⟨by rfl, ?_⟩) hInv.out (by assumption) (fun hInv' => ?_)
                      rotate_left
                      · intro w hSw; (try dsimp only at hSw); go_simp; (try with_reducible rfl)
                      replace hInv := hide hInv'; clear hInv'; try simp only [Act.put, List.setIfInBounds_toArray, List.set_cons_zero, List.set_cons_succ]
                      refine wpAnyE_take (i := 10) (v := ?_) (List.getElem?_toArray.trans rfl) (by kernel_rfl) (by kernel_rfl) (by kernel_rfl) (by kernel_rfl) (fun _ _ _ h => h) (Or.inl ⟨by rfl, ?_⟩) hInv.out (by assumption) (fun hInv' => ?_)
                      rotate_left
                      · intro w hSw; (try dsimp only at hSw); go_simp; (try with_reducible rfl)
                      replace hInv := hide hInv'; clear hInv'; try simp only [Act.put, List.setIfInBounds_toArray, List.set_cons_zero, List.set_cons_succ]
                      refine wpAnyE_take (i := 11) (v := ?_) (List.getElem?_toArray.trans rfl) (by kernel_rfl) (by kernel_rfl) (by kernel_rfl) (by kernel_rfl) (fun _ _ _ h => h) (Or.inl ⟨by rfl, ?_⟩) hInv.out (by assumption) (fun hInv' => ?_)
                      rotate_left
                      · intro w hSw; (try dsimp only at hSw); go_simp; (try with_reducible rfl)
                      replace hInv := hide hInv'; clear hInv'; try simp only [Act.put, List.setIfInBounds_toArray, List.set_cons_zero, List.set_cons_succ]
                      refine wpAnyE_take (i := 12) (v := ?_) (List.getElem?_toArray.trans rfl) (by kernel_rfl) (by kernel_rfl) (by kernel_rfl) (by kernel_rfl) (fun _ _ _ h => h) (Or.inl ⟨by rfl, ?_⟩) hInv.out (by assumption) (fun hInv' => ?_)
                      rotate_left
                      · intro w hSw; (try dsimp only at hSw); go_simp; (try with_reducible rfl)
                      replace hInv := hide hInv'; clear hInv'; try simp only [Act.put, List.setIfInBounds_toArray, List.set_cons_zero, List.set_cons_succ]
                      refine wpAnyE_take (i := 13) (v := ?_) (List.getElem?_toArray.trans rfl) (by kernel_rfl) (by kernel_rfl) (by kernel_rfl) (by kernel_rfl) (fun _ _ _ h => h) (Or.inl ⟨by rfl, ?_⟩) hInv.out (by assumption) (fun hInv' => ?_)
                      rotate_left
                      · intro w hSw; (try dsimp only at hSw); go_simp; (try with_reducible rfl)
                      replace hInv := hide hInv'; clear hInv'; try simp only [Act.put, List.setIfInBounds_toArray, List.set_cons_zero, List.set_cons_succ]
                      refine wpAnyE_take (i := 14) (v := ?_) (List.getElem?_toArray.trans rfl) (by kernel_rfl) (by kernel_rfl) (by kernel_rfl) (by kernel_rfl) (fun _ _ _ h => h) (Or.inl ⟨by rfl, ?_⟩) hInv.out (by assumption) (fun hInv' => ?_)
                      rotate_left
                      · intro w hSw; (try dsimp only at hSw); go_simp; (try with_reducible rfl)
                      replace hInv := hide hInv'; clear hInv'; try simp only [Act.put, List.setIfInBounds_toArray, List.set_cons_zero, List.set_cons_succ]
                      refine wpAnyE_take (i := 15) (v := ?_) (List.getElem?_toArray.trans rfl) (by kernel_rfl) (by kernel_rfl) (by kernel_rfl) (by kernel_rfl) (fun _ _ _ h => h) (Or.inl ⟨by rfl, ?_⟩) hInv.out (by assumption) (fun hInv' => ?_)
                      rotate_left
                      · intro w hSw; (try dsimp only at hSw); go_simp; (try with_reducible rfl)
                      replace hInv := hide hInv'; clear hInv'; try simp only [Act.put, List.setIfInBounds_toArray, List.set_cons_zero, List.set_cons_succ]
                      refine wpAnyE_one (i := 16) (List.getElem?_toArray.trans rfl) (by kernel_rfl) (fun K hK => ?_) hInv.out
                      (go_simp; (try rw [hwrap.out]); have hbH := hHeld.1; refine (hreach.out _ hbH).mono ?_; rintro e w6 ⟨rfl, a3, q3, c3, f4, hX11, hq11, hok11, hhs11, hk11, hb11⟩)
                      refine hK.out _ _ (fun h => absurd rfl h) (fun _ => ?_)
                      clear hK K hInv; try simp only [Act.put, List.setIfInBounds_toArray, List.set_cons_zero, List.set_cons_succ]
                      refine wpAnyE_done (by kernel_rfl) ?_ _
                      have hzc := hbH.size
                      have xc11 := hk11.cu (cu_below hbH xc (by simp; omega)) (fun hc' => by rcases hc' with h1 | h1; exact hpB h1; exact hpb.out h1)
                      have ho11 := hk11.own (ho.out.stays hbH) (fun j hj hc' => by rcases hc' with h1 | h1; exact hgB.out j (hog2.out j hj).1 h1; exact hd.out j hj h1)
                      have hd11 := hide (show ∀ j, (Value.slice (some ⟨g7, 0, none⟩) (k + 1) c7).ownBlock = some j → (Value.slice a3 q3 c3).ownBlock ≠ some j from fun j hj hc' => by
                        rcases hb11 j hc' with h1 | h1
                        · exact hd.out j hj h1
                        · have := (hog2.out j hj).2; omega)
                      have hpb11 := hide (show (Value.slice a3 q3 c3).ownBlock ≠ some w5.heap.size from fun hc' => by
                        rcases hb11 _ hc' with h1 | h1
                        · exact hpb.out h1
                        · omega)
                      replace hX11 := hide hX11
                      replace hok11 := hide hok11
                      replace hhs11 := hide hhs11
                      replace ho11 := hide ho11
                      clear hk11 hb11 hX ho hHeld hbH hreach key2 hd hpb
                      go_wp2
                      go_roundw
                      case rel => exact ⟨j + 1, sedge h u s2 ⟨u, vv, ec⟩, q3, a3, c3, f4, by omega, by go_num, hX11, hhs11, hok11, hsm2, hwy2, hfold2, hof2, by omega, xc11, ho11, hd11, hpb11⟩
                      case measure => simp [intOf]; omega
                    · obtain rfl : LL = j := by omega
                      have hfin := hfold.out
                      rw [hL.out, todo_end] at hfin
                      have hfin2 : s2 = expand (nes es) h u s := hfin
                      have hrun2 := hide (show ∀ o, SRun key (nes es) h n tg s2 o → SRun key (nes es) h n tg s0 o by rw [hfin2]; exact hstep.out)
                      have hk2 := hide (show k + 1 = s2.ord.length by rw [hof.out]; exact hk8.out)
                      have ho2 := hide (show Own encI 1 3 wr wS.heap.size (.slice (some ⟨g7, 0, none⟩) (k + 1) c7) (LP s2.ord) by rw [hof.out]; exact ho.out)
                      have hsok2 := hide hsm.out.ok
                      have hrr : (rest (nes es) fun z => decide (z ∈ s2.ord)) = RR := by rw [hof.out, hs1.out]; exact hRR.out
                      have hbud2 : q2 + (rest (nes es) fun z => decide (z ∈ s2.ord)) ≤ gq := by rw [hrr]; omega
                      replace hfin2 := hide hfin2
                      clear hfin hrr
                      go_wp2
                      go_roundg gq
                      case measure => omega
                      case rel => exact ⟨s2, q2, a2, c2, f3, _, _, _, rfl, hk2, hX, hhs, hok, hsok2, hwy, hrun2, ho2, hd, hbud2, by omega⟩
end Go.Proofs.Ytcehdpeeaogpiaa
