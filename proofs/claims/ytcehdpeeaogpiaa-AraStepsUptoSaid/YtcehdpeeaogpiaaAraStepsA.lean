/-
  Several texts in one:
  The walk of felllaw.AraSteps: it returns true. Conditions: the arguments read as data, and are no longer than their bounds.
  Proved here: felllaw.AraSteps returns true where what is read is of bulk at most 1048576.
-/
import Derived.Test.YtcehdpeeaogpiaaAME
import Derived.Test.YtcehdpeeaogpiaaOpen
import Derived.Deep.RegionHeld3
import Derived.Deep.LoopGhost
import Derived.Test.YtcehdpeeaogpiaaUpto
/-! The walk of felllaw.AraSteps: it returns true. Conditions: the arguments read as data, and are no longer than their bounds. -/
namespace Go.Proofs.Ytcehdpeeaogpiaa
open Go.RowKit
set_option linter.unusedSimpArgs false
set_option linter.unusedVariables false
/-- what lies apart: the program's search, the document's, the list gone through -/
structure SepA (w0 wr : World) (gl : Nat) (A R C C2 : Nat → Prop) : Prop where
  g : w0.heap.size ≤ gl ∧ gl < wr.heap.size
  a : ∀ j, A j → w0.heap.size ≤ j ∧ j < wr.heap.size ∧ ¬ R j ∧ j ≠ gl
  r : ∀ j, R j → w0.heap.size ≤ j ∧ j < wr.heap.size ∧ ¬ C j ∧ j ≠ gl
  c : ∀ j, C j → j < wr.heap.size
  d : ∀ j, C2 j → j < w0.heap.size
theorem SepA.mono {w0 wr w' : World} {gl : Nat} {A R C C2 : Nat → Prop} (h : SepA w0 wr gl A R C C2) (hz : wr.heap.size ≤ w'.heap.size) : SepA w0 w' gl A R C C2 :=
  ⟨⟨h.g.1, by have := h.g.2; omega⟩, fun j hj => ⟨(h.a j hj).1, by have := (h.a j hj).2.1; omega, (h.a j hj).2.2⟩, fun j hj => ⟨(h.r j hj).1, by have := (h.r j hj).2.1; omega, (h.r j hj).2.2⟩, fun j hj => by have := h.c j hj; omega, h.d⟩
theorem SepA.growA {w0 wr w' : World} {gl : Nat} {A R C C2 : Nat → Prop} (h : SepA w0 wr gl A R C C2) (hz : wr.heap.size ≤ w'.heap.size) : SepA w0 w' gl (grown A wr w') R C C2 := by
  have hg := h.g
  refine ⟨⟨hg.1, by omega⟩, fun j hj => ?_, (h.mono hz).r, (h.mono hz).c, h.d⟩
  rcases hj with hj | hj
  · exact (h.mono hz).a j hj
  · exact ⟨by omega, hj.2, fun hr => by have := (h.r j hr).2.1; omega, by omega⟩
theorem SepA.growR {w0 wr w' : World} {gl : Nat} {A R C C2 : Nat → Prop} (h : SepA w0 wr gl A R C C2) (hz : wr.heap.size ≤ w'.heap.size) : SepA w0 w' gl A (grown R wr w') C C2 := by
  have hg := h.g
  refine ⟨⟨hg.1, by omega⟩, fun j hj => ?_, fun j hj => ?_, (h.mono hz).c, h.d⟩
  · have h1 := h.a j hj
    exact ⟨h1.1, by omega, fun hr => by rcases hr with hr | hr; (exact h1.2.2.1 hr); omega, h1.2.2.2⟩
  · rcases hj with hj | hj
    · exact (h.mono hz).r j hj
    · exact ⟨by omega, hj.2, fun hc => by have := h.c j hc; omega, by omega⟩
theorem cb_lt {w : World} {B : Nat} {es : List Ed} {l : List Int} {ws : List P2} {ae ha aw : Option Addr} (hE : Row encE 3 w B ae es) (hH : Row encI 1 w B ha l) (hW : Row encP 2 w B aw ws) (hl : 0 < l.length) (hw : 0 < ws.length) : ∀ j, CB es ae ha aw j → j < B := by
  rintro j (⟨he, o, e⟩ | ⟨o, e⟩ | ⟨o, e⟩)
  · obtain ⟨b, o2, h1, h2, _⟩ := hE 0 (by cases es with | nil => exact absurd rfl he | cons _ _ => simp)
    rw [e] at h1; simp only [Option.some.injEq, Addr.mk.injEq] at h1; omega
  · obtain ⟨b, o2, h1, h2, _⟩ := hH 0 hl
    rw [e] at h1; simp only [Option.some.injEq, Addr.mk.injEq] at h1; omega
  · obtain ⟨b, o2, h1, h2, _⟩ := hW 0 hw
    rw [e] at h1; simp only [Option.some.injEq, Addr.mk.injEq] at h1; omega
set_option maxRecDepth 100000 in
set_option maxHeartbeats 8000000 in
theorem walk_AraSteps (x0 : Int) (a0 : Option Addr) (cap0 : Nat) (es0 : List Ed) (x1 : Int) (x2 : Int) (a3 : Option Addr) (cap3 : Nat) (x3 : List Int) (a4 : Option Addr) (cap4 : Nat) (x4 : List P2) (a5 : Option Addr) (cap5 : Nat) (x5 : List Int) (w : World) (b0 : Bd x0) (l0 : es0.length ≤ cap0) (m0 : cap0 ≤ maxLen) (r0 : Row encE 3 w w.heap.size a0 es0) (be0 : ∀ x ∈ es0, BdE x) (b1 : Bd x1) (b2 : Bd x2) (l3 : x3.length ≤ cap3) (m3 : cap3 ≤ maxLen) (r3 : Row encI 1 w w.heap.size a3 x3) (b3 : ∀ x ∈ x3, Bd x) (l4 : x4.length ≤ cap4) (m4 : cap4 ≤ maxLen) (r4 : Row encP 2 w w.heap.size a4 x4) (b4 : ∀ x ∈ x4, BdP x) (l5 : x5.length ≤ cap5) (m5 : cap5 ≤ maxLen) (r5 : Row encI 1 w w.heap.size a5 x5) (b5 : ∀ x ∈ x5, Bd x) (n0 : es0.length ≤ 1048576) (n3 : x3.length ≤ 1048576) (n4 : x4.length ≤ 524288) (n5 : x5.length ≤ 1048576) :
    Calls Try.prog 11 #[.agg #[.int .i64 x0, .slice a0 es0.length cap0], .int .i64 x1, .int .i64 x2, .slice a3 x3.length cap3, .slice a4 x4.length cap4, .slice a5 x5.length cap5] w fun e w' => e = .returned (.bool true) ∧ Below w.heap.size w w' := by
  have hl : es0.length ≤ 9223372036854775807 := by omega
  have hl3 : x3.length ≤ 9223372036854775807 := by omega
  have hAN := hide (fun (er : Int) (her : er = if slookErr x0 es0 x1 x2 x3 ≠ 0 then slookErr x0 es0 x1 x2 x3 else wsErr x4) (h0 : er ≠ 0) (w' : World) (hb : Below w.heap.size w w') => anew_bad x0 a0 cap0 es0 x1 x2 a3 cap3 x3 a4 x4.length cap4 x4 rfl w' w.heap.size hb.size (r0.below hb (Nat.le_refl _)) (r3.below hb (Nat.le_refl _)) (r4.below hb (Nat.le_refl _)) hl hl3 er her h0)
  have hRL := hide (fun (w' : World) (hb : Below w.heap.size w w') => rslook_any x0 a0 cap0 es0 x1 x2 a3 cap3 x3 w' w.heap.size hb.size (r0.below hb (Nat.le_refl _)) (r3.below hb (Nat.le_refl _)) hl hl3)
  have hRW := hide (fun (w' : World) (hb : Below w.heap.size w w') => raweights_any a4 x4.length cap4 x4 rfl w' w.heap.size hb.size (r4.below hb (Nat.le_refl _)))
  obtain ⟨se, hse⟩ : ∃ se, se = slookErr x0 es0 x1 x2 x3 := ⟨_, rfl⟩
  obtain ⟨we, hwe⟩ : ∃ we, we = wsErr x4 := ⟨_, rfl⟩
  by_cases hgood : se = 0 ∧ we = 0
  · clear hAN
    obtain ⟨g1, g2⟩ := hgood
    have hs0 : slookErr x0 es0 x1 x2 x3 = 0 := by rw [← hse]; exact g1
    have hw0 : wsErr x4 = 0 := by rw [← hwe]; exact g2
    rw [hs0] at hRL
    rw [hw0] at hRW
    obtain ⟨n, v, t, rfl, rfl, rfl, a1, a2, q4, a5', a6, a7, a8, a9, a10, a11, a12⟩ := slook_all hs0
    obtain ⟨d1, d2, d3⟩ := wsErr_ok hw0
    have hRun := hide (fun (w' : World) (hb : Below w.heap.size w w') => anew_ok n v t a0 cap0 es0 a3 cap3 x3 a4 x4.length cap4 x4 rfl w' w.heap.size hb.size (r0.below hb (Nat.le_refl _)) (r3.below hb (Nat.le_refl _)) (r4.below hb (Nat.le_refl _)) hl hl3 hs0 hw0)
    have hNew := hide (fun (w' : World) (hb : Below w.heap.size w w') => rnew_any n v t cap3 x4.length cap4 es0.length cap0 a0 a3 a4 es0 (hAt x3) x4 w' w.heap.size hb.size (r0.below hb (Nat.le_refl _)) (by have := li_hAt x3; rw [a9] at this; rw [this]; exact r3.below hb (Nat.le_refl _)) (r4.below hb (Nat.le_refl _)) ⟨a1, a2⟩ a7 a8 (fun u _ => a10 u) d3 ⟨rfl, d1, d2⟩ ⟨a5', a6, rfl, q4⟩)
    have hCB := hide (cb_lt r0 r3 r4 (by omega) (by omega))
    rw [a9] at hRL hRun ⊢
    obtain ⟨h, hh⟩ : ∃ h, h = hAt x3 := ⟨_, rfl⟩
    rw [← hh] at hRun hNew
    replace hh := hide hh
    have htn := a8
    have hr5 := hide r5
    have hLb := hide (show ∀ x ∈ ((0 : Int) :: x5), Bd x from fun x hx => by rcases List.mem_cons.1 hx with rfl | hx; (unfold Bd; omega); exact b5 x hx)
    clear hse hwe g1 g2 hs0 hw0 r0 r3 r4 r5 be0 b3 b4 b5 l0 l3 l4 l5 m0 m3 m4 m5 b0 b1 b2 a5' a6 a10 a11 a12 d3 hl3 n0 n3
    go_enter Try.func11, Try.ntmps11
    go_wp2_with fail
    refine (hRun.out _ (by exact (by repeat (first | with_reducible exact Below.refl _ _ | with_reducible assumption | with_reducible refine up_drewN ?_ | with_reducible refine up_drew ?_ | (with_reducible refine up_alloc ?_ ?_; rotate_left; (first | omega | (simp <;> omega) | simp)) | (with_reducible refine up_set ?_ ?_; rotate_left; (first | omega | (simp <;> omega) | simp)) | (with_reducible refine Below.trans ?_ (Below.mono (by with_reducible assumption) ?_); rotate_left; (first | omega | (simp <;> omega) | simp)))))).mono ?_
    intro e w1 hN
    obtain ⟨sb, s0, A0, C, rfl, hst0, hA0, hAl, hb1, hCl⟩ := anew_obj hN
    clear hN
    have k0 := cu_below hb1 (p := ⟨w.heap.size, 0, none⟩) (v := .int .i64 (n : Int)) (by simp [go_sem]) (by simp)
    have k1 := cu_below hb1 (p := ⟨w.heap.size, 1, none⟩) (v := .slice a0 es0.length cap0) (by simp [go_sem]) (by simp)
    have hb2 := hide ((((by repeat (first | with_reducible exact Below.refl _ _ | with_reducible assumption | with_reducible refine up_drewN ?_ | with_reducible refine up_drew ?_ | (with_reducible refine up_alloc ?_ ?_; rotate_left; (first | omega | (simp <;> omega) | simp)) | (with_reducible refine up_set ?_ ?_; rotate_left; (first | omega | (simp <;> omega) | simp)) | (with_reducible refine Below.trans ?_ (Below.mono (by with_reducible assumption) ?_); rotate_left; (first | omega | (simp <;> omega) | simp)))) : Below w.heap.size w _)).trans (hb1.mono (by simp)))
    have hAl2 := hide (show ∀ j, A0 j ∨ C j → w.heap.size ≤ j from fun j hj => Nat.le_trans (by simp) (hAl j hj))
    have hAC1 := hide (show (∀ j, A0 j → j < w1.heap.size) ∧ ∀ j, C j → j < w1.heap.size from ⟨fun j hj => hA0.lt hj, hCl⟩)
    have z1 : w.heap.size < w1.heap.size := cell_lt k0
    replace hst0 := hide hst0
    replace hA0 := hide hA0
    clear hb1 hRun hAl hCl
    go_wp2_with fail
    refine (hRL.out _ hb2.out).mono ?_
    rintro e w2 ⟨rfl, hb3⟩
    have k0 := cu_below hb3 k0 z1
    have k1 := cu_below hb3 k1 z1
    have hA2 := hide (hA0.out.stays hb3)
    have hb4 := hide (hb2.out.trans (hb3.mono hb2.out.size))
    have z2 : w.heap.size < w2.heap.size := cell_lt k0
    have z12 := hb3.size
    clear hb3 hb2 z1 hA0 hRL
    go_wp2_with fail
    refine (hRW.out _ hb4.out).mono ?_
    rintro e w3 ⟨rfl, hb5⟩
    have k0 := cu_below hb5 k0 z2
    have k1 := cu_below hb5 k1 z2
    have hA3 := hide (hA2.out.stays hb5)
    have hb6 := hide (hb4.out.trans (hb5.mono hb4.out.size))
    have z3 : w.heap.size < w3.heap.size := cell_lt k0
    have z23 := hb5.size
    clear hb5 hb4 z2 hA2 hRW
    go_wp2_with fail
    refine (hNew.out _ hb6.out).mono ?_
    intro e w4 hN
    obtain ⟨rb, s1, R0, rfl, hst1, hR0, hRl, hb7⟩ := rnew_obj rfl rfl hN
    obtain rfl : s0 = s1 := asettle_one hst0.out hst1
    have hA4 := hide (hA3.out.stays hb7)
    have hb8 := hide (hb6.out.trans (hb7.mono hb6.out.size))
    have z34 := hb7.size
    have hSep0 := hide (show (∀ j, A0 j → w.heap.size ≤ j ∧ j < w4.heap.size ∧ ¬ R0 j) ∧ (∀ j, R0 j → w.heap.size ≤ j ∧ j < w4.heap.size ∧ ¬ C j) ∧ ∀ j, C j → j < w4.heap.size from ⟨fun j hj => ⟨hAl2.out j (.inl hj), by have := hAC1.out.1 j hj; omega, fun hr => by have := hRl j hr; have := hAC1.out.1 j hj; omega⟩, fun j hj => ⟨by have := hRl j hj; omega, hR0.lt hj, fun hc => by have := hRl j hj; have := hAC1.out.2 j hc; omega⟩, fun j hj => by have := hAC1.out.2 j hj; omega⟩)
    replace hR0 := hide hR0
    clear hNew hst1 hst0 k0 k1 hb7 hb6 hA3 hRl hN hAl2 hAC1 z12 z23 z34 z3
    obtain ⟨M, hM⟩ : ∃ M, M = 1 + x5.length := ⟨_, rfl⟩
    have hrow5 := hide ((hr5.out.below hb8.out (Nat.le_refl _)).below (Below.refl w4.heap.size w4 |>.alloc (Nat.le_refl _) (.cells #[.int .i64 0] 3)) hb8.out.size)
    have hbz8 := hb8.out.size
    have own1 := hide (own_one w4 w4.heap.size 3 0 (Nat.le_refl _))
    go_wp2_with (at_builtin; (refine wpList_all (enc := encI) (v := .slice (some ⟨w4.heap.size, 0, none⟩) 1 1) (xs := [0]) (base := w4.heap.size) rfl (.tmp 59) (.tmp 60) 29 rfl _ 8 Try.underlying29 info_int rfl ?d1 lenI oneI 1 rfl rfl own1.out w.heap.size a5 x5.length cap5 x5 rfl rfl hrow5.out ?d4 ?d5 ?d6 ?_); (case d1 => omega); (case d4 => omega); (case d5 => unfold maxLen; omega); (case d6 => simp); intro a4' c4' w5 own5 hb9 hg9; simp only [List.cons_append, List.nil_append] at own5; simp only [← hM] at own5 ⊢)
    have hO5 := hide own5
    have hb10 := hide ((Below.refl w4.heap.size w4 |>.alloc (Nat.le_refl _) (.cells #[.int .i64 0] 3)).trans hb9)
    have hA5 := hide (hA4.out.stays hb10.out)
    have hR5 := hide (hR0.out.stays hb10.out)
    obtain ⟨gl, rfl, hgl1, hgl2⟩ : ∃ gl, a4' = some ⟨gl, 0, none⟩ ∧ w4.heap.size ≤ gl ∧ gl < w5.heap.size := by
      rcases hO5.out.form with ⟨_, h9⟩ | ⟨g, cap, h8, h9, h10, _⟩
      · cases h9
      · simp only [Value.slice.injEq] at h8
        exact ⟨g, h8.1, h9, h10⟩
    have hSep5 := hide (show SepA w w5 gl A0 R0 C (CB es0 a0 a3 a4) from ⟨⟨by omega, hgl2⟩, fun j hj => by have h1 := hSep0.out.1 j hj; have := hb10.out.size; exact ⟨h1.1, by omega, h1.2.2, by omega⟩, fun j hj => by have h1 := hSep0.out.2.1 j hj; have := hb10.out.size; exact ⟨h1.1, by omega, h1.2.2, by omega⟩, fun j hj => by have h1 := hSep0.out.2.2 j hj; have := hb10.out.size; omega, hCB.out⟩)
    have hb11 := hide (hb8.out.trans (hb10.out.mono hb8.out.size))
    obtain ⟨Ls, hLs⟩ : ∃ Ls, Ls = (0 : Int) :: x5 := ⟨_, rfl⟩
    have hLM := hide (show Ls.length = M by rw [hLs, hM]; simp; omega)
    have hM1 : M ≤ 1048577 := by omega
    rw [← hLs] at hO5
    rw [← hLs] at hLb
    have hM2 : (1 : Int) + (x5.length : Int) = (M : Int) := by omega
    simp only [← hM, hM2]
    clear hM2
    clear own5 own1 hb9 hg9 hb8 hb10 hA4 hR0 hSep0 hCB hr5 hrow5 hgl1 hgl2 hbz8 n5
    replace hLs := hide hLs
    replace hM := hide hM
    obtain ⟨wB, hwB⟩ : ∃ b, b = w4.heap.size := ⟨_, rfl⟩
    rw [← hwB] at hO5
    replace hwB := hide hwB
    go_loopw [63] (fun i wr => ∃ (k : Nat) (s1 : AS) (A R : Nat → Prop), k ≤ M ∧ i = .int .i64 (k : Int) ∧ Hid (AObj n t es0 h x4 s1 sb A C wr) ∧ Hid (RObj n t es0 h x4 s1 rb R (CB es0 a0 a3 a4) wr) ∧ Hid (Own encI 1 3 wr wB (.slice (some ⟨gl, 0, none⟩) M c4') Ls) ∧ Hid (Below w.heap.size w wr) ∧ Hid (SepA w wr gl A R C (CB es0 a0 a3 a4))) (fun i _ => M - (intOf i).toNat)
    case atStart => exact ⟨0, s0, A0, R0, Nat.zero_le _, rfl, hA5, hR5, hO5, hb11, hSep5⟩
    case round =>
      clear hA5 hR5 hO5 hb11 hSep5
      obtain ⟨i, s1, A, R, hi, rfl, hA, hR, hOl, hb, hSep⟩ := hrel
      by_cases hlt : i < M
      · have hiL : i < Ls.length := by rw [hLM.out]; exact hlt
        have hcell := hOl.out.getI i hiL
        obtain ⟨nv, hnvd⟩ : ∃ nv, nv = Ls[i] := ⟨_, rfl⟩
        have hnv : -9223372036854775808 ≤ nv ∧ nv ≤ 9223372036854775807 := by have := hLb.out _ (List.getElem_mem hiL); rw [← hnvd] at this; unfold Bd at this; omega
        rw [← hnvd] at hcell
        replace hnvd := hide hnvd
        have ii : (0 : Int) ≤ (i : Int) ∧ (i : Int) < (M : Int) := by omega
        have zgl := cell_lt hcell
        simp only at zgl
        obtain ⟨wo, hwo⟩ : ∃ wo : World, wo = wr := ⟨_, rfl⟩
        obtain ⟨hin0, htl0, hm8, hm1, hn64⟩ := hA.out.inv
        replace hin0 := hide hin0
        go_wp2
        go_loopg [19] (64 * x4.length + 2) (fun gk s19 wr => ∃ (k : Nat) (s2 : AS) (R : Nat → Prop), s19 = .int .i64 (k : Int) ∧ ((k : Int) ≤ nv ∨ k = 0) ∧ Hid (ASteps x4 es0 h n t k s1 k s2) ∧ Hid (AObj n t es0 h x4 s1 sb A C wr) ∧ Hid (RObj n t es0 h x4 s2 rb R (CB es0 a0 a3 a4) wr) ∧ Hid (Own encI 1 3 wr wB (.slice (some ⟨gl, 0, none⟩) M c4') Ls) ∧ Hid (Below w.heap.size w wr) ∧ Hid (SepA w wr gl A R C (CB es0 a0 a3 a4)) ∧ 64 * x4.length + 2 ≤ gk + s2.done)
        case atStart => exact ⟨0, s1, R, rfl, .inr rfl, hide (ASteps.zero s1), hA, hR, hOl, hb, hSep, by omega⟩
        case round =>
          clear hA hR hOl hb hSep hcell zgl hwo wo
          obtain ⟨k, s2, R, rfl, hkn, hsk, hA, hR, hOl, hb, hSep, hgk⟩ := hrel
          obtain ⟨ar, aw, rc, wc, base, k5, k12, -⟩ := hR.out.told
          obtain ⟨hin, htl, -, -, -⟩ := hR.out.inv
          have hdn := hin.dn
          have hnb := nb_le n s2.lk
          obtain ⟨tt, htt⟩ : ∃ tt, tt = s2.told.length := ⟨_, rfl⟩
          rw [← htt] at k12
          replace hin := hide hin
          by_cases hkl : (k : Int) < nv
          · have hk9 : (k : Int) + 1 ≤ 9223372036854775807 := by omega
            by_cases hov : tt = x4.length
            · have hov2 : ((tt : Int) == (x4.length : Int)) = true := by simp; omega
              have hfin : ASteps x4 es0 h n t nv.toNat s1 k s2 := asteps_over (N := nv.toNat) hsk.out (by omega) (by omega)
              have hLv : ∀ k, Calls Try.prog 65 #[.pointer (some ⟨rb, 0, none⟩)] (wr.drewN k) (fun e w' => e = .returned (.bool ((tt : Int) == (x4.length : Int))) ∧ ∃ k', w' = (wr.drewN k).drewN k') := fun k => rover_any rb tt rc x4.length wc ar aw (wr.drewN k) (cu_drewN k12) (cu_drewN k5)
              clear hLv
              have hL := 0
              replace htt := hide htt
              go_wp2_with fail
              refine (rover_any rb tt rc x4.length wc ar aw _ (by exact (by repeat (first | with_reducible assumption | with_reducible refine cu_drew ?_ | with_reducible refine cu_drewN ?_ | with_reducible refine cu_alloc ?_ | (with_reducible refine cu_set ?_ ?_; rotate_left; (first | with_reducible assumption | omega | (simp <;> omega) | simp)) | with_reducible refine fu_drew ?_ | with_reducible refine fu_drewN ?_ | with_reducible refine fu_alloc ?_ | with_reducible refine fu_set ?_))) (by exact (by repeat (first | with_reducible assumption | with_reducible refine cu_drew ?_ | with_reducible refine cu_drewN ?_ | with_reducible refine cu_alloc ?_ | (with_reducible refine cu_set ?_ ?_; rotate_left; (first | with_reducible assumption | omega | (simp <;> omega) | simp)) | with_reducible refine fu_drew ?_ | with_reducible refine fu_drewN ?_ | with_reducible refine fu_alloc ?_ | with_reducible refine fu_set ?_)))).mono ?_
              rintro e w4x ⟨rfl, kk, rfl⟩
              rw [hov2]
              have hA := hide (hA.out.stays (up_drewN (n := kk) (Below.refl _ _)))
              have hR := hide (hR.out.stays (up_drewN (n := kk) (Below.refl _ _)))
              have hOl := hide (hOl.out.drewN kk)
              have hb := hide (up_drewN (n := kk) hb.out)
              have hSep := hide (hSep.out.mono (w' := wr.drewN kk) (Nat.le_refl _))
              have k5 := 0
              have k12 := 0
              generalize wr.drewN kk = wx at hA hR hOl hb hSep ⊢
              have hst2 := hide hfin
              obtain ⟨hAi1, hAi2, hAi3, hAi4, hAi5⟩ := hA.out.inv
              replace hA := hide (hA.out.stays (below_drew wx))
              replace hR := hide (hR.out.stays (below_drew wx))
              replace hOl := hide hOl.out.drew
              replace hb := hide (up_drew hb.out)
              replace hSep := hide (hSep.out.mono (w' := (wx).drew) (Nat.le_refl _))
              have hSt := hide (aobj_step htn nv hnv.2 hA.out)
              clear hfin hA hL k5 k12 hsk
              go_upto_region 17 with fail
              refine wp_region_any (by kernel_rfl) ?_
              change wpAny _ _ _ _ (21 + 1) _ _ _
              refine wpAny_take (i := 0) (v := ?_) (List.getElem?_toArray.trans rfl) (by kernel_rfl) (by kernel_rfl) (by kernel_rfl) (fun _ _ _ h => h) (Or.inl ⟨by rfl, ?_⟩) ?_
              rotate_left
              · intro w; go_simp; (try with_reducible rfl)
              try simp only [Act.put, List.setIfInBounds_toArray, List.set_cons_zero, List.set_cons_succ]
              change wpAny _ _ _ _ (20 + 1) _ _ _
              refine wpAny_take (i := 1) (v := ?_) (List.getElem?_toArray.trans rfl) (by kernel_rfl) (by kernel_rfl) (by kernel_rfl) (fun _ _ _ h => h) (Or.inl ⟨by rfl, ?_⟩) ?_
              rotate_left
              · intro w; go_simp; (try with_reducible rfl)
              try simp only [Act.put, List.setIfInBounds_toArray, List.set_cons_zero, List.set_cons_succ]
              change wpAny _ _ _ _ (19 + 1) _ _ _
              refine wpAny_take (i := 3) (v := ?_) (List.getElem?_toArray.trans rfl) (by kernel_rfl) (by kernel_rfl) (by kernel_rfl) (fun _ _ _ h => h) (Or.inl ⟨by rfl, ?_⟩) ?_
              rotate_left
              · intro w; go_simp; (try with_reducible rfl)
              try simp only [Act.put, List.setIfInBounds_toArray, List.set_cons_zero, List.set_cons_succ]
              change wpAny _ _ _ _ (18 + 1) _ _ _
              refine wpAny_ready (rs := [2]) (by kernel_rfl) (by simp) (AllReady.cons rfl (fun K hK => ?_) AllReady.nil)
              go_simp
              go_at_call 67
              refine hSt.out.mono ?_
              rintro e w5 ⟨k3, s3, rfl, hsts3, hA5, kp5⟩
              refine hK _ _ ?_
              clear hK K hSt
              obtain ⟨rfl, rfl⟩ := asteps_one hst2.out hsts3
              have hR5 := hide (hR.out.keep kp5 (fun j hj => by have := hSep.out; rcases hj with hj | hj; (exact fun ha => (this.a j ha).2.2.1 hj); (exact fun ha => by have h1 := this.d j hj; have h2 := (this.a j ha).1; omega)))
              have hO5 := hide (kp5.own hOl.out (fun j hj ha => (hSep.out.a j ha).2.2.2 (by simp only [Value.ownBlock, Option.some.injEq] at hj; exact hj.symm)))
              have hb5 := hide (hb.out.trans (kp5.toBelow (fun j hj => (hSep.out.a j hj).1) hb.out.size))
              have hSep5 := hide (hSep.out.growA kp5.size)
              obtain ⟨ara, awa, rca, wca, ka5, ka12⟩ := hA5.cells
              obtain ⟨ar, aw, rc, wc, base, kr5, kr12, hRB⟩ := hR5.out.told
              obtain ⟨T, hT⟩ : ∃ T, T = s2.told.length := ⟨_, rfl⟩
              have hOvA := hide (show ∀ w', Below w5.heap.size w5 w' → Calls Try.prog 68 #[.pointer (some ⟨sb, 0, none⟩)] w' (fun e w'' => e = .returned (.bool ((T : Int) == (x4.length : Int))) ∧ Below w'.heap.size w' w'') from fun w' hb' => (aover_any sb T rca x4.length wca ara awa w' (by rw [hT]; exact cu_below hb' ka12 (cell_lt ka12)) (cu_below hb' ka5 (cell_lt ka5))).mono (by
                rintro e w'' ⟨rfl, kk, rfl⟩
                exact ⟨rfl, up_drewN (Below.refl _ _)⟩))
              have hOvR := hide (show ∀ w', Below w5.heap.size w5 w' → Calls Try.prog 65 #[.pointer (some ⟨rb, 0, none⟩)] w' (fun e w'' => e = .returned (.bool ((T : Int) == (x4.length : Int))) ∧ Below w'.heap.size w' w'') from fun w' hb' => (rover_any rb T rc x4.length wc ar aw w' (by rw [hT]; exact cu_below hb' kr12 (cell_lt kr12)) (cu_below hb' kr5 (cell_lt kr5))).mono (by
                rintro e w'' ⟨rfl, kk, rfl⟩
                exact ⟨rfl, up_drewN (Below.refl _ _)⟩))
              have hRd := hide (show ∀ w', Below w5.heap.size w5 w' → Calls Try.prog 70 #[.pointer (some ⟨sb, 0, none⟩)] w' (fun e w'' => ∃ a c, e = .returned (.slice a T c) ∧ RoundsAt w'.heap.size w'' (.slice a T c) s2.told ∧ Below w'.heap.size w' w'') from fun w' hb' => by rw [hT]; exact aobj_rounds (hA5.stays hb'))
              have hEq := hide (show ∀ a c B w', Below w5.heap.size w5 w' → RoundsAt B w' (.slice a T c) s2.told → Calls Try.prog 69 #[.slice a T c, .slice ar T rc, .func (.func 71) #[] #[]] w' (fun e w'' => e = .returned (.bool true) ∧ Below w'.heap.size w' w'') from fun a c B w' hb' h1 => eqrounds_any a ar c rc T _ _ s2.told w' h1 (by rw [hT]; exact hRB.stays hb') hT.symm (by rw [hT]; have := hA5.inv; omega) hA5.inv.1.lp)
              have kr12' := hide (fun w' (hb' : Below w5.heap.size w5 w') => (by rw [hT]; exact cu_below hb' kr12 (cell_lt kr12) : w'.cell? ⟨rb, 12, none⟩ = some (.slice ar T rc)))
              have key0 := hide (show ∀ w', Below w5.heap.size w5 w' → (fun w' => Below w5.heap.size w5 w' ∧ w'.cell? ⟨rb, 12, none⟩ = some (.slice ar T rc)) w' from fun w' hb' => ⟨hb', kr12'.out w' hb'⟩)
              have qe1 : ((((T : Int) == (x4.length : Int)) : Bool) != ((T : Int) == (x4.length : Int))) = false := by simp
              have qk : (((k : Int) != (k : Int)) : Bool) = false := by simp
              have hA5' := hide hA5
              generalize hov : ((T : Int) == (x4.length : Int)) = ov at hOvA hOvR qe1 
              clear ka5 ka12 kr5 kr12 hRB hA5 hsts3 hst2 kr12' hov
              replace hT := hide hT
              refine wpAny_of_held (S := (fun w' => Below w5.heap.size w5 w' ∧ w'.cell? ⟨rb, 12, none⟩ = some (.slice ar T rc))) _ _ _ _ ?_
              have hHeld : ((fun w' => Below w5.heap.size w5 w' ∧ w'.cell? ⟨rb, 12, none⟩ = some (.slice ar T rc))) _ := key0.out _ (Below.refl _ _)
              (try dsimp only at hHeld)
              refine planH [4, 5, 6, 8] ?_
              iterate 4
                refine PlanH.take (v := ?_) (List.getElem?_toArray.trans rfl) (by kernel_rfl) (fun _ _ _ h => h) (Or.inl ⟨by rfl, ?_⟩) hHeld ?_
                rotate_left
                · intro w hSw; (try dsimp only at hSw); go_simp; (try with_reducible rfl)
                try simp only [Act.put, List.setIfInBounds_toArray, List.set_cons_zero, List.set_cons_succ]
              refine wpAnyH_ready (rs := [7]) (by kernel_rfl) (by simp) (AllReadyH.cons (List.getElem?_toArray.trans rfl) (fun K hK => ?_) AllReadyH.nil)
              (go_simp; refine (hOvA.out _ hHeld.1).mono ?_; rintro e w6 ⟨rfl, hb6⟩)
              have hHeld := key0.out _ (below_step hHeld.1 hb6)
              refine hK.out _ _ hHeld (fun _ => ?_)
              clear hK K; try simp only [Act.put, List.setIfInBounds_toArray, List.set_cons_zero, List.set_cons_succ]
              refine wpAnyH_ready (rs := [9]) (by kernel_rfl) (by simp) (AllReadyH.cons (List.getElem?_toArray.trans rfl) (fun K hK => ?_) AllReadyH.nil)
              (go_simp; refine (hOvR.out _ hHeld.1).mono ?_; rintro e w7 ⟨rfl, hb7⟩)
              have hHeld := key0.out _ (below_step hHeld.1 hb7)
              refine hK.out _ _ hHeld (fun _ => ?_)
              clear hK K; try simp only [Act.put, List.setIfInBounds_toArray, List.set_cons_zero, List.set_cons_succ]
              refine planH [10, 11, 12, 13, 15, 16, 17, 18] ?_
              iterate 8
                refine PlanH.take (v := ?_) (List.getElem?_toArray.trans rfl) (by kernel_rfl) (fun _ _ _ h => h) (Or.inl ⟨by rfl, ?_⟩) hHeld ?_
                rotate_left
                · intro w hSw; (try dsimp only at hSw); go_simp; (try with_reducible rfl)
                try simp only [Act.put, List.setIfInBounds_toArray, List.set_cons_zero, List.set_cons_succ]
              refine wpAnyH_ready (rs := [14]) (by kernel_rfl) (by simp) (AllReadyH.cons (List.getElem?_toArray.trans rfl) (fun K hK => ?_) AllReadyH.nil)
              (go_simp; refine (hRd.out _ hHeld.1).mono ?_; rintro e w8 ⟨ae, ce, rfl, hRA8, hb8⟩)
              have hHeld := key0.out _ (below_step hHeld.1 hb8)
              refine hK.out _ _ hHeld (fun _ => ?_)
              clear hK K; try simp only [Act.put, List.setIfInBounds_toArray, List.set_cons_zero, List.set_cons_succ]
              refine wpAnyH_ready (rs := [19]) (by kernel_rfl) (by simp) (AllReadyH.cons (List.getElem?_toArray.trans rfl) (fun K hK => ?_) AllReadyH.nil)
              (go_simp; refine (hEq.out _ _ _ _ hHeld.1 hRA8).mono ?_; rintro e w9 ⟨rfl, hb9⟩)
              have hHeld := key0.out _ (below_step hHeld.1 hb9)
              refine hK.out _ _ hHeld (fun _ => ?_)
              clear hK K; try simp only [Act.put, List.setIfInBounds_toArray, List.set_cons_zero, List.set_cons_succ]
              refine planH [20, 21] ?_
              iterate 2
                refine PlanH.take (v := ?_) (List.getElem?_toArray.trans rfl) (by kernel_rfl) (fun _ _ _ h => h) (Or.inl ⟨by rfl, ?_⟩) hHeld ?_
                rotate_left
                · intro w hSw; (try dsimp only at hSw); go_simp; (try with_reducible rfl)
                try simp only [Act.put, List.setIfInBounds_toArray, List.set_cons_zero, List.set_cons_succ]
              refine wpAnyH_done (by kernel_rfl) ?_ _
              have hb9' := hHeld.1
              have hA9 := hide (hA5'.out.stays hb9')
              have hR9 := hide (hR5.out.stays hb9')
              have hO9 := hide (hO5.out.stays hb9')
              have hbw9 := hide (hb5.out.trans (hb9'.mono hb5.out.size))
              have hSep9 := hide (hSep5.out.mono hb9'.size)
              clear hA5' hR5 hO5 hb5 hSep5 hOvA hOvR hRd hEq key0 hR hOl hb hSep hgk
              go_wp2
              go_roundw
              case rel => exact ⟨i + 1, s2, _, R, by omega, by go_num, hA9, hR9, hO9, hbw9, hSep9⟩
              case measure => simp [intOf]; omega
            · have hov2 : ((tt : Int) == (x4.length : Int)) = false := by simp; omega
              have hlt2 : s2.told.length < x4.length := by omega
              replace htt := hide htt
              go_wp2_with fail
              refine (rover_any rb tt rc x4.length wc ar aw _ (by exact (by repeat (first | with_reducible assumption | with_reducible refine cu_drew ?_ | with_reducible refine cu_drewN ?_ | with_reducible refine cu_alloc ?_ | (with_reducible refine cu_set ?_ ?_; rotate_left; (first | with_reducible assumption | omega | (simp <;> omega) | simp)) | with_reducible refine fu_drew ?_ | with_reducible refine fu_drewN ?_ | with_reducible refine fu_alloc ?_ | with_reducible refine fu_set ?_))) (by exact (by repeat (first | with_reducible assumption | with_reducible refine cu_drew ?_ | with_reducible refine cu_drewN ?_ | with_reducible refine cu_alloc ?_ | (with_reducible refine cu_set ?_ ?_; rotate_left; (first | with_reducible assumption | omega | (simp <;> omega) | simp)) | with_reducible refine fu_drew ?_ | with_reducible refine fu_drewN ?_ | with_reducible refine fu_alloc ?_ | with_reducible refine fu_set ?_)))).mono ?_
              rintro e w4x ⟨rfl, kk, rfl⟩
              rw [hov2]
              have hA2 := hide (hA.out.stays (up_drewN (n := kk) (Below.refl _ _)))
              have hR2 := hide (hR.out.stays (up_drewN (n := kk) (Below.refl _ _)))
              have hOl2 := hide (hOl.out.drewN kk)
              have hb2 := hide (up_drewN (n := kk) hb.out)
              have hSep2 := hide (hSep.out.mono (w' := wr.drewN kk) (Nat.le_refl _))
              have hSt := hide (robj_step htn hlt2 hR2.out)
              clear k5 k12 hA hR hOl hb hSep
              generalize wr.drewN kk = wx at hA2 hR2 hOl2 hb2 hSep2 hSt ⊢
              go_wp2_with fail
              refine hSt.out.mono ?_
              rintro e w6 ⟨rfl, s3, hst3, hR3, kp3⟩
              have hdn3 := astep_done hst3
              have hsk3 := hide (asteps_more hsk.out hlt2 hst3)
              have hA3 := hide (hA2.out.keep kp3 (fun j hj hr => by rcases hj with hj | hj; (exact (hSep2.out.a j hj).2.2.1 hr); (exact (hSep2.out.r j hr).2.2.1 hj)))
              have hO3 := hide (kp3.own hOl2.out (fun j hj hr => (hSep2.out.r j hr).2.2.2 (by simp only [Value.ownBlock, Option.some.injEq] at hj; exact hj.symm)))
              have hb3 := hide (hb2.out.trans (kp3.toBelow (fun j hj => (hSep2.out.r j hj).1) hb2.out.size))
              have hSep3 := hide (hSep2.out.growR kp3.size)
              replace hR3 := hide hR3
              clear hst3 hsk hA2 hR2 hOl2 hb2 hSep2 hSt kp3
              have wk : IntKind.i64.wrap ((k : Int) + 1) = (k : Int) + 1 := IntWalk.i64_in _ (by omega)
              go_wp2
              go_roundg (gk - 1)
              case measure => omega
              case rel => exact ⟨k + 1, s3, _, by go_num, .inl (by omega), hsk3, hA3, hR3, hO3, hb3, hSep3, by omega⟩
          · have hfin : ASteps x4 es0 h n t nv.toNat s1 k s2 := by
              rcases hkn with h1 | h1
              · have e : nv.toNat = k := by omega
                rw [e]; exact hsk.out
              · subst h1
                have e : nv.toNat = 0 := by omega
                rw [e]; exact hsk.out
            replace htt := hide htt
            have hL := 0
            have hst2 := hide hfin
            obtain ⟨hAi1, hAi2, hAi3, hAi4, hAi5⟩ := hA.out.inv
            replace hA := hide (hA.out.stays (below_drew wr))
            replace hR := hide (hR.out.stays (below_drew wr))
            replace hOl := hide hOl.out.drew
            replace hb := hide (up_drew hb.out)
            replace hSep := hide (hSep.out.mono (w' := (wr).drew) (Nat.le_refl _))
            have hSt := hide (aobj_step htn nv hnv.2 hA.out)
            clear hfin hA hL k5 k12 hsk
            go_upto_region 17 with fail
            refine wp_region_any (by kernel_rfl) ?_
            change wpAny _ _ _ _ (21 + 1) _ _ _
            refine wpAny_take (i := 0) (v := ?_) (List.getElem?_toArray.trans rfl) (by kernel_rfl) (by kernel_rfl) (by kernel_rfl) (fun _ _ _ h => h) (Or.inl ⟨by rfl, ?_⟩) ?_
            rotate_left
            · intro w; go_simp; (try with_reducible rfl)
            try simp only [Act.put, List.setIfInBounds_toArray, List.set_cons_zero, List.set_cons_succ]
            change wpAny _ _ _ _ (20 + 1) _ _ _
            refine wpAny_take (i := 1) (v := ?_) (List.getElem?_toArray.trans rfl) (by kernel_rfl) (by kernel_rfl) (by kernel_rfl) (fun _ _ _ h => h) (Or.inl ⟨by rfl, ?_⟩) ?_
            rotate_left
            · intro w; go_simp; (try with_reducible rfl)
            try simp only [Act.put, List.setIfInBounds_toArray, List.set_cons_zero, List.set_cons_succ]
            change wpAny _ _ _ _ (19 + 1) _ _ _
            refine wpAny_take (i := 3) (v := ?_) (List.getElem?_toArray.trans rfl) (by kernel_rfl) (by kernel_rfl) (by kernel_rfl) (fun _ _ _ h => h) (Or.inl ⟨by rfl, ?_⟩) ?_
            rotate_left
            · intro w; go_simp; (try with_reducible rfl)
            try simp only [Act.put, List.setIfInBounds_toArray, List.set_cons_zero, List.set_cons_succ]
            change wpAny _ _ _ _ (18 + 1) _ _ _
            refine wpAny_ready (rs := [2]) (by kernel_rfl) (by simp) (AllReady.cons rfl (fun K hK => ?_) AllReady.nil)
            go_simp
            go_at_call 67
            refine hSt.out.mono ?_
            rintro e w5 ⟨k3, s3, rfl, hsts3, hA5, kp5⟩
            refine hK _ _ ?_
            clear hK K hSt
            obtain ⟨rfl, rfl⟩ := asteps_one hst2.out hsts3
            have hR5 := hide (hR.out.keep kp5 (fun j hj => by have := hSep.out; rcases hj with hj | hj; (exact fun ha => (this.a j ha).2.2.1 hj); (exact fun ha => by have h1 := this.d j hj; have h2 := (this.a j ha).1; omega)))
            have hO5 := hide (kp5.own hOl.out (fun j hj ha => (hSep.out.a j ha).2.2.2 (by simp only [Value.ownBlock, Option.some.injEq] at hj; exact hj.symm)))
            have hb5 := hide (hb.out.trans (kp5.toBelow (fun j hj => (hSep.out.a j hj).1) hb.out.size))
            have hSep5 := hide (hSep.out.growA kp5.size)
            obtain ⟨ara, awa, rca, wca, ka5, ka12⟩ := hA5.cells
            obtain ⟨ar, aw, rc, wc, base, kr5, kr12, hRB⟩ := hR5.out.told
            obtain ⟨T, hT⟩ : ∃ T, T = s2.told.length := ⟨_, rfl⟩
            have hOvA := hide (show ∀ w', Below w5.heap.size w5 w' → Calls Try.prog 68 #[.pointer (some ⟨sb, 0, none⟩)] w' (fun e w'' => e = .returned (.bool ((T : Int) == (x4.length : Int))) ∧ Below w'.heap.size w' w'') from fun w' hb' => (aover_any sb T rca x4.length wca ara awa w' (by rw [hT]; exact cu_below hb' ka12 (cell_lt ka12)) (cu_below hb' ka5 (cell_lt ka5))).mono (by
              rintro e w'' ⟨rfl, kk, rfl⟩
              exact ⟨rfl, up_drewN (Below.refl _ _)⟩))
            have hOvR := hide (show ∀ w', Below w5.heap.size w5 w' → Calls Try.prog 65 #[.pointer (some ⟨rb, 0, none⟩)] w' (fun e w'' => e = .returned (.bool ((T : Int) == (x4.length : Int))) ∧ Below w'.heap.size w' w'') from fun w' hb' => (rover_any rb T rc x4.length wc ar aw w' (by rw [hT]; exact cu_below hb' kr12 (cell_lt kr12)) (cu_below hb' kr5 (cell_lt kr5))).mono (by
              rintro e w'' ⟨rfl, kk, rfl⟩
              exact ⟨rfl, up_drewN (Below.refl _ _)⟩))
            have hRd := hide (show ∀ w', Below w5.heap.size w5 w' → Calls Try.prog 70 #[.pointer (some ⟨sb, 0, none⟩)] w' (fun e w'' => ∃ a c, e = .returned (.slice a T c) ∧ RoundsAt w'.heap.size w'' (.slice a T c) s2.told ∧ Below w'.heap.size w' w'') from fun w' hb' => by rw [hT]; exact aobj_rounds (hA5.stays hb'))
            have hEq := hide (show ∀ a c B w', Below w5.heap.size w5 w' → RoundsAt B w' (.slice a T c) s2.told → Calls Try.prog 69 #[.slice a T c, .slice ar T rc, .func (.func 71) #[] #[]] w' (fun e w'' => e = .returned (.bool true) ∧ Below w'.heap.size w' w'') from fun a c B w' hb' h1 => eqrounds_any a ar c rc T _ _ s2.told w' h1 (by rw [hT]; exact hRB.stays hb') hT.symm (by rw [hT]; have := hA5.inv; omega) hA5.inv.1.lp)
            have kr12' := hide (fun w' (hb' : Below w5.heap.size w5 w') => (by rw [hT]; exact cu_below hb' kr12 (cell_lt kr12) : w'.cell? ⟨rb, 12, none⟩ = some (.slice ar T rc)))
            have key0 := hide (show ∀ w', Below w5.heap.size w5 w' → (fun w' => Below w5.heap.size w5 w' ∧ w'.cell? ⟨rb, 12, none⟩ = some (.slice ar T rc)) w' from fun w' hb' => ⟨hb', kr12'.out w' hb'⟩)
            have qe1 : ((((T : Int) == (x4.length : Int)) : Bool) != ((T : Int) == (x4.length : Int))) = false := by simp
            have qk : (((k : Int) != (k : Int)) : Bool) = false := by simp
            have hA5' := hide hA5
            generalize hov : ((T : Int) == (x4.length : Int)) = ov at hOvA hOvR qe1 
            clear ka5 ka12 kr5 kr12 hRB hA5 hsts3 hst2 kr12' hov
            replace hT := hide hT
            refine wpAny_of_held (S := (fun w' => Below w5.heap.size w5 w' ∧ w'.cell? ⟨rb, 12, none⟩ = some (.slice ar T rc))) _ _ _ _ ?_
            have hHeld : ((fun w' => Below w5.heap.size w5 w' ∧ w'.cell? ⟨rb, 12, none⟩ = some (.slice ar T rc))) _ := key0.out _ (Below.refl _ _)
            (try dsimp only at hHeld)
            refine planH [4, 5, 6, 8] ?_
            iterate 4
              refine PlanH.take (v := ?_) (List.getElem?_toArray.trans rfl) (by kernel_rfl) (fun _ _ _ h => h) (Or.inl ⟨by rfl, ?_⟩) hHeld ?_
              rotate_left
              · intro w hSw; (try dsimp only at hSw); go_simp; (try with_reducible rfl)
              try simp only [Act.put, List.setIfInBounds_toArray, List.set_cons_zero, List.set_cons_succ]
            refine wpAnyH_ready (rs := [7]) (by kernel_rfl) (by simp) (AllReadyH.cons (List.getElem?_toArray.trans rfl) (fun K hK => ?_) AllReadyH.nil)
            (go_simp; refine (hOvA.out _ hHeld.1).mono ?_; rintro e w6 ⟨rfl, hb6⟩)
            have hHeld := key0.out _ (below_step hHeld.1 hb6)
            refine hK.out _ _ hHeld (fun _ => ?_)
            clear hK K; try simp only [Act.put, List.setIfInBounds_toArray, List.set_cons_zero, List.set_cons_succ]
            refine wpAnyH_ready (rs := [9]) (by kernel_rfl) (by simp) (AllReadyH.cons (List.getElem?_toArray.trans rfl) (fun K hK => ?_) AllReadyH.nil)
            (go_simp; refine (hOvR.out _ hHeld.1).mono ?_; rintro e w7 ⟨rfl, hb7⟩)
            have hHeld := key0.out _ (below_step hHeld.1 hb7)
            refine hK.out _ _ hHeld (fun _ => ?_)
            clear hK K; try simp only [Act.put, List.setIfInBounds_toArray, List.set_cons_zero, List.set_cons_succ]
            refine planH [10, 11, 12, 13, 15, 16, 17, 18] ?_
            iterate 8
              refine PlanH.take (v := ?_) (List.getElem?_toArray.trans rfl) (by kernel_rfl) (fun _ _ _ h => h) (Or.inl ⟨by rfl, ?_⟩) hHeld ?_
              rotate_left
              · intro w hSw; (try dsimp only at hSw); go_simp; (try with_reducible rfl)
              try simp only [Act.put, List.setIfInBounds_toArray, List.set_cons_zero, List.set_cons_succ]
            refine wpAnyH_ready (rs := [14]) (by kernel_rfl) (by simp) (AllReadyH.cons (List.getElem?_toArray.trans rfl) (fun K hK => ?_) AllReadyH.nil)
            (go_simp; refine (hRd.out _ hHeld.1).mono ?_; rintro e w8 ⟨ae, ce, rfl, hRA8, hb8⟩)
            have hHeld := key0.out _ (below_step hHeld.1 hb8)
            refine hK.out _ _ hHeld (fun _ => ?_)
            clear hK K; try simp only [Act.put, List.setIfInBounds_toArray, List.set_cons_zero, List.set_cons_succ]
            refine wpAnyH_ready (rs := [19]) (by kernel_rfl) (by simp) (AllReadyH.cons (List.getElem?_toArray.trans rfl) (fun K hK => ?_) AllReadyH.nil)
            (go_simp; refine (hEq.out _ _ _ _ hHeld.1 hRA8).mono ?_; rintro e w9 ⟨rfl, hb9⟩)
            have hHeld := key0.out _ (below_step hHeld.1 hb9)
            refine hK.out _ _ hHeld (fun _ => ?_)
            clear hK K; try simp only [Act.put, List.setIfInBounds_toArray, List.set_cons_zero, List.set_cons_succ]
            refine planH [20, 21] ?_
            iterate 2
              refine PlanH.take (v := ?_) (List.getElem?_toArray.trans rfl) (by kernel_rfl) (fun _ _ _ h => h) (Or.inl ⟨by rfl, ?_⟩) hHeld ?_
              rotate_left
              · intro w hSw; (try dsimp only at hSw); go_simp; (try with_reducible rfl)
              try simp only [Act.put, List.setIfInBounds_toArray, List.set_cons_zero, List.set_cons_succ]
            refine wpAnyH_done (by kernel_rfl) ?_ _
            have hb9' := hHeld.1
            have hA9 := hide (hA5'.out.stays hb9')
            have hR9 := hide (hR5.out.stays hb9')
            have hO9 := hide (hO5.out.stays hb9')
            have hbw9 := hide (hb5.out.trans (hb9'.mono hb5.out.size))
            have hSep9 := hide (hSep5.out.mono hb9'.size)
            clear hA5' hR5 hO5 hb5 hSep5 hOvA hOvR hRd hEq key0 hR hOl hb hSep hgk
            go_wp2
            go_roundw
            case rel => exact ⟨i + 1, s2, _, R, by omega, by go_num, hA9, hR9, hO9, hbw9, hSep9⟩
            case measure => simp [intOf]; omega
      · obtain rfl : M = i := by omega
        clear hA hR hOl hSep
        go_wp2
        go_ret
        exact ⟨rfl, hb.out⟩
  · rw [← hse] at hRL
    rw [← hwe] at hRW
    rw [← hse, ← hwe] at hAN
    have r5' := hide r5
    by_cases hs : se = 0
    · have hw : we ≠ 0 := fun e => hgood ⟨hs, e⟩
      subst hs
      have hRun2 := hide (hAN.out we (by simp) hw)
      have qw : (we != 0) = true := by simpa using hw
      have qe : (we == we) = true := by simp
      clear hAN hgood hse hwe hw r0 r3 r4 r5 r5' be0 b3 b4 b5 l0 l3 l4 l5 m0 m3 m4 m5 b0 b1 b2 hl hl3 n0 n3 n5
      go_enter Try.func11, Try.ntmps11
      go_wp2_with fail
      refine (hRun2.out _ (by exact (by repeat (first | with_reducible exact Below.refl _ _ | with_reducible assumption | with_reducible refine up_drewN ?_ | with_reducible refine up_drew ?_ | (with_reducible refine up_alloc ?_ ?_; rotate_left; (first | omega | (simp <;> omega) | simp)) | (with_reducible refine up_set ?_ ?_; rotate_left; (first | omega | (simp <;> omega) | simp)) | (with_reducible refine Below.trans ?_ (Below.mono (by with_reducible assumption) ?_); rotate_left; (first | omega | (simp <;> omega) | simp)))))).mono ?_
      rintro e w1 ⟨rfl, hb1⟩
      have k0 := cu_below hb1 (p := ⟨w.heap.size, 0, none⟩) (v := .int .i64 x0) (by simp [go_sem]) (by simp)
      have k1 := cu_below hb1 (p := ⟨w.heap.size, 1, none⟩) (v := .slice a0 es0.length cap0) (by simp [go_sem]) (by simp)
      have hb2 := hide ((((by repeat (first | with_reducible exact Below.refl _ _ | with_reducible assumption | with_reducible refine up_drewN ?_ | with_reducible refine up_drew ?_ | (with_reducible refine up_alloc ?_ ?_; rotate_left; (first | omega | (simp <;> omega) | simp)) | (with_reducible refine up_set ?_ ?_; rotate_left; (first | omega | (simp <;> omega) | simp)) | (with_reducible refine Below.trans ?_ (Below.mono (by with_reducible assumption) ?_); rotate_left; (first | omega | (simp <;> omega) | simp)))) : Below w.heap.size w _)).trans (hb1.mono (by simp)))
      have z1 : w.heap.size < w1.heap.size := cell_lt k0
      clear hb1 hRun2
      go_wp2_with fail
      refine (hRL.out _ hb2.out).mono ?_
      rintro e w2 ⟨rfl, hb3⟩
      have hb4 := hide (hb2.out.trans (hb3.mono hb2.out.size))
      clear hb3 hb2 z1 hRL k0 k1
      go_wp2_with fail
      refine (hRW.out _ hb4.out).mono ?_
      rintro e w3 ⟨rfl, hb5⟩
      have hb6 := hide (hb4.out.trans (hb5.mono hb4.out.size))
      clear hb5 hb4 hRW
      go_wp2
      go_ret
      exact ⟨rfl, hb6.out⟩
    · have hRun2 := hide (hAN.out se (by simp [hs]) hs)
      have qs : (se == 0) = false := by simpa using hs
      have qw : (se != 0) = true := by simpa using hs
      have qe : (se == se) = true := by simp
      clear hAN hgood hse hwe hs r0 r3 r4 r5 r5' be0 b3 b4 b5 l0 l3 l4 l5 m0 m3 m4 m5 b0 b1 b2 hl hl3 hRW n0 n3 n5
      go_enter Try.func11, Try.ntmps11
      go_wp2_with fail
      refine (hRun2.out _ (by exact (by repeat (first | with_reducible exact Below.refl _ _ | with_reducible assumption | with_reducible refine up_drewN ?_ | with_reducible refine up_drew ?_ | (with_reducible refine up_alloc ?_ ?_; rotate_left; (first | omega | (simp <;> omega) | simp)) | (with_reducible refine up_set ?_ ?_; rotate_left; (first | omega | (simp <;> omega) | simp)) | (with_reducible refine Below.trans ?_ (Below.mono (by with_reducible assumption) ?_); rotate_left; (first | omega | (simp <;> omega) | simp)))))).mono ?_
      rintro e w1 ⟨rfl, hb1⟩
      have k0 := cu_below hb1 (p := ⟨w.heap.size, 0, none⟩) (v := .int .i64 x0) (by simp [go_sem]) (by simp)
      have k1 := cu_below hb1 (p := ⟨w.heap.size, 1, none⟩) (v := .slice a0 es0.length cap0) (by simp [go_sem]) (by simp)
      have hb2 := hide ((((by repeat (first | with_reducible exact Below.refl _ _ | with_reducible assumption | with_reducible refine up_drewN ?_ | with_reducible refine up_drew ?_ | (with_reducible refine up_alloc ?_ ?_; rotate_left; (first | omega | (simp <;> omega) | simp)) | (with_reducible refine up_set ?_ ?_; rotate_left; (first | omega | (simp <;> omega) | simp)) | (with_reducible refine Below.trans ?_ (Below.mono (by with_reducible assumption) ?_); rotate_left; (first | omega | (simp <;> omega) | simp)))) : Below w.heap.size w _)).trans (hb1.mono (by simp)))
      have z1 : w.heap.size < w1.heap.size := cell_lt k0
      clear hb1 hRun2
      go_wp2_with fail
      refine (hRL.out _ hb2.out).mono ?_
      rintro e w2 ⟨rfl, hb3⟩
      have hb4 := hide (hb2.out.trans (hb3.mono hb2.out.size))
      clear hb3 hb2 z1 hRL k0 k1
      go_wp2
      go_ret
      exact ⟨rfl, hb4.out⟩
end Go.Proofs.Ytcehdpeeaogpiaa

/-! Proved here: felllaw.AraSteps returns true where what is read is of bulk at most 1048576. -/
namespace Go.Proofs.Ytcehdpeeaogpiaa
open Go.ChangeShapes Go.WideShapes Go.ChangeAt Go.RowKit
set_option linter.unusedSimpArgs false
set_option linter.unusedVariables false

set_option maxRecDepth 100000 in
theorem contract_AraSteps (H : Type) (enc : TypeId × Value → H) (W : World) (base : Nat) (args : Array Value) (ds gs : List (DataW H)) (before : List MemPlace)
    (hval0 : ∀ (j : Nat) t v, Try.f11.params[j]? = some t → args[j]? = some v → Value.okWide Try.prog W .any base t v)
    (hW : DataW.Whole enc Try.prog Try.f11.params.toList Rows.araStepsSpec.vars false W args.toList ds gs before) (hk : Rows.uptoSmall H (ds ++ gs) = true) :
    Calls Try.prog 11 args W fun e W' => ∃ v, e = .returned v ∧ Rows.araStepsSpec.post enc Try.prog Try.f11 false true false false W args v W' := by
  have hval : ∀ (j : Nat) t v, Try.f11.params[j]? = some t → args[j]? = some v → Value.okWide Try.prog W .any base t v := hval0
  have hW' := hW
  obtain ⟨p, q, hA0, hV, rfl, hfz, hnd⟩ := hW
  have hA : DataW.TrodAll enc Try.prog W 0 (fun _ => true) true Try.f11.params.toList args.toList ds p := hA0
  rw [Try.params11] at hA hval
  obtain ⟨v0, vs0, d0, ds0, p0, q0, hargs, rfl, rfl, h0, tr0⟩ := trodAll_cons hA
  obtain ⟨v1, vs1, d1, ds1, p1, q1, rfl, rfl, rfl, h1, tr1⟩ := trodAll_cons tr0
  obtain ⟨v2, vs2, d2, ds2, p2, q2, rfl, rfl, rfl, h2, tr2⟩ := trodAll_cons tr1
  obtain ⟨v3, vs3, d3, ds3, p3, q3, rfl, rfl, rfl, h3, tr3⟩ := trodAll_cons tr2
  obtain ⟨v4, vs4, d4, ds4, p4, q4, rfl, rfl, rfl, h4, tr4⟩ := trodAll_cons tr3
  obtain ⟨v5, vs5, d5, ds5, p5, q5, rfl, rfl, rfl, h5, tr5⟩ := trodAll_cons tr4
  obtain ⟨rfl, rfl, rfl⟩ := trodAll_nil tr5
  obtain rfl : args = #[v0, v1, v2, v3, v4, v5] := by cases args; simp_all
  obtain ⟨rfl, rfl⟩ := trodVars_none hV
  simp only [List.append_nil] at hk
  have hbk : Rows.uptoBulkAll [d0, d1, d2, d3, d4, d5] ≤ 1048576 := of_decide_eq_true hk
  simp only [Rows.uptoBulkAll] at hbk
  have k0 := h0
  have lt0 : ∀ x ∈ p0, x.block < W.heap.size := by obtain ⟨m, hm⟩ := k0; exact DataW.trod_lt m _ _ _ hm
  have k1 := h1
  have lt1 : ∀ x ∈ p1, x.block < W.heap.size := by obtain ⟨m, hm⟩ := k1; exact DataW.trod_lt m _ _ _ hm
  have k2 := h2
  have lt2 : ∀ x ∈ p2, x.block < W.heap.size := by obtain ⟨m, hm⟩ := k2; exact DataW.trod_lt m _ _ _ hm
  have k3 := h3
  have lt3 : ∀ x ∈ p3, x.block < W.heap.size := by obtain ⟨m, hm⟩ := k3; exact DataW.trod_lt m _ _ _ hm
  have k4 := h4
  have lt4 : ∀ x ∈ p4, x.block < W.heap.size := by obtain ⟨m, hm⟩ := k4; exact DataW.trod_lt m _ _ _ hm
  have k5 := h5
  have lt5 : ∀ x ∈ p5, x.block < W.heap.size := by obtain ⟨m, hm⟩ := k5; exact DataW.trod_lt m _ _ _ hm
  obtain ⟨x0, a0, cap0, es0, rfl, b0, l0, m0, r0, be0⟩ := openT_net (P := Try.prog) Try.underlying24 (by kernel_rfl) (by kernel_rfl) Try.underlying3 Try.underlying22 (by kernel_rfl) Try.underlying34 (by kernel_rfl) Try.underlying3 Try.underlying3 Try.underlying3 (hval 0 24 v0 rfl rfl) h0
  obtain ⟨x1, rfl, b1⟩ := openT_int Try.underlying3 (hval 1 3 v1 rfl rfl) h1
  obtain ⟨x2, rfl, b2⟩ := openT_int Try.underlying3 (hval 2 3 v2 rfl rfl) h2
  obtain ⟨a3, cap3, x3, rfl, l3, m3, r3, b3⟩ := openT_ints Try.underlying29 (by kernel_rfl) Try.underlying3 (hval 3 29 v3 rfl rfl) h3
  obtain ⟨a4, cap4, x4, rfl, l4, m4, r4, b4⟩ := openT_p2s Try.underlying96 (by kernel_rfl) Try.underlying90 (by kernel_rfl) Try.underlying3 Try.underlying3 (hval 4 96 v4 rfl rfl) h4
  obtain ⟨a5, cap5, x5, rfl, l5, m5, r5, b5⟩ := openT_ints Try.underlying29 (by kernel_rfl) Try.underlying3 (hval 5 29 v5 rfl rfl) h5
  have n0 : es0.length ≤ 1048576 := Nat.le_trans (net_bulk (P := Try.prog) Try.underlying24 (by kernel_rfl) (by kernel_rfl) Try.underlying22 (hval 0 24 _ rfl rfl) k0) (by omega)
  have n3 : x3.length ≤ 1048576 := by obtain ⟨_, hm⟩ := k3; have hq : x3.length ≤ Rows.uptoBulk d3 := slice_bulk (P := Try.prog) Try.underlying29 (by simpa [Value.cells] using hm); omega
  have n4 : x4.length ≤ 524288 := by obtain ⟨_, hm⟩ := k4; have hq : 2 * x4.length ≤ Rows.uptoBulk d4 := pairs_bulk (P := Try.prog) Try.underlying96 Try.underlying90 (by simpa [Value.cells] using hm); omega
  have n5 : x5.length ≤ 1048576 := by obtain ⟨_, hm⟩ := k5; have hq : x5.length ≤ Rows.uptoBulk d5 := slice_bulk (P := Try.prog) Try.underlying29 (by simpa [Value.cells] using hm); omega
  clear hA0 hval0
  refine (walk_AraSteps x0 a0 cap0 es0 x1 x2 a3 cap3 x3 a4 cap4 x4 a5 cap5 x5 W b0 l0 m0 r0 be0 b1 b2 l3 m3 r3 b3 l4 m4 r4 b4 l5 m5 r5 b5 n0 n3 n4 n5).mono fun e W' ⟨he, bel⟩ => ?_
  subst he
  exact ⟨_, rfl, _, _, _, [], _, [], hW', trodAll_mk1 (shut_bool Try.underlying4 _), (trodAll_cons_mk (Below.trod laidOut (by kernel_rfl) (of_decide_eq_true (by kernel_rfl)) k0 bel lt0) (trodAll_cons_mk (Below.trod laidOut (by kernel_rfl) (of_decide_eq_true (by kernel_rfl)) k1 bel lt1) (trodAll_cons_mk (Below.trod laidOut (by kernel_rfl) (of_decide_eq_true (by kernel_rfl)) k2 bel lt2) (trodAll_cons_mk (Below.trod laidOut (by kernel_rfl) (of_decide_eq_true (by kernel_rfl)) k3 bel lt3) (trodAll_cons_mk (Below.trod laidOut (by kernel_rfl) (of_decide_eq_true (by kernel_rfl)) k4 bel lt4) (trodAll_cons_mk (Below.trod laidOut (by kernel_rfl) (of_decide_eq_true (by kernel_rfl)) k5 bel lt5) trodAll_mk0)))))), rfl, bel.frame _, fun h => by cases h⟩

set_option maxRecDepth 100000 in
theorem lifted_AraSteps (os : Os) (started : os.Started) (H : Type) (enc : TypeId × Value → H) (F : Stop.Interp) :
    ReturnsInHanded {} Try.checked os 11 .any ((Rows.OpenSpec.upto Rows.araStepsSpec).pre6 enc Try.prog Try.f11 Rows.araStepsUptoRow.domain false) (((Rows.OpenSpec.upto Rows.araStepsSpec).at F).post enc Try.prog Try.f11 false true false false) := by
  refine returnsInHanded_of_cond (C := Try.checked) (s := Rows.OpenSpec.upto Rows.araStepsSpec) (k := Rows.uptoSmall) rfl own started (by kernel_rfl) Try.func11
    (OpenSpec.witness (enc := enc) (C := Try.checked) (s := Rows.OpenSpec.upto Rows.araStepsSpec) (k := Rows.uptoSmall) rfl false ⟨#[], #[.agg #[.int .i64 0, .slice none 0 0], .int .i64 0, .int .i64 0, .slice none 0 0, .slice none 0 0, .slice none 0 0], []⟩ 8 (by kernel_rfl) (by kernel_rfl) (by kernel_rfl)
      (x := ([.agg [.lit (.int .i64 0), .nil], .lit (.int .i64 0), .lit (.int .i64 0), .nil, .nil, .nil], [], [])) (by kernel_rfl) rfl (by kernel_rfl)) ?_
  intro W base args ds gs before hval hW _ hk _
  exact contract_AraSteps H enc W base args ds gs before hval hW hk

/-- The given statement. -/
theorem proved_AraStepsUpto : Rows.AraStepsUptoSaid :=
  OpenClaim.holds_of_cond 11 Try.f11 rfl rfl rfl rfl rfl rfl rfl ⟨rfl, rfl, rfl, rfl, rfl⟩ rfl rfl rfl rfl rfl (by kernel_rfl) Try.func11 (by kernel_rfl)
    (of_decide_eq_true (by kernel_rfl)) (by unfold Func.isWrapper; first | (rw [if_pos (by decide +kernel)]; kernel_rfl) | (rw [if_neg (by decide +kernel)]; exact ⟨rfl, rfl⟩))
    (fun os started H enc _ F => lifted_AraSteps os started H enc F)
#print axioms proved_AraStepsUpto

end Go.Proofs.Ytcehdpeeaogpiaa
