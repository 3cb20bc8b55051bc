/-
  Proved here: felllaw.ServePlays returns true where what is read is of bulk at most 1048576.
-/
import Derived.Test.YtccailcjclbhlaaGreatServePlaysA21
/-! The walk of felllaw.ServePlays: it returns true. Conditions: the weights are 524288 at most. -/
namespace Go.Proofs.YtccailcjclbhlaaGreat
open Go.RowKit
set_option linter.unusedSimpArgs false
set_option linter.unusedVariables false
set_option maxRecDepth 100000 in
set_option maxHeartbeats 4000000 in
theorem walk_ServePlays (x0 y0 : Int) (a0 : Option Addr) (cap0 : Nat) (cs0 : List Int) (a1 : Option Addr) (cap1 : Nat) (x1 : List SRw) (a2 : Option Addr) (cap2 : Nat) (x2 : List P2) (a3 : Option Addr) (cap3 : Nat) (x3 : List P2) (w : World) (b0 : Bd x0) (c0 : Bd y0) (l0 : cs0.length ≤ cap0) (m0 : cap0 ≤ maxLen) (r0 : Row encI 1 w w.heap.size a0 cs0) (be0 : ∀ x ∈ cs0, Bd x) (l1 : x1.length ≤ cap1) (m1 : cap1 ≤ maxLen) (r1 : Row encRw 1 w w.heap.size a1 x1) (b1 : ∀ s ∈ x1, QRw w w.heap.size s) (l2 : x2.length ≤ cap2) (m2 : cap2 ≤ maxLen) (r2 : Row encP 2 w w.heap.size a2 x2) (b2 : ∀ x ∈ x2, BdP x) (l3 : x3.length ≤ cap3) (m3 : cap3 ≤ maxLen) (r3 : Row encP 2 w w.heap.size a3 x3) (b3 : ∀ x ∈ x3, BdP x) (n2 : x2.length ≤ 524288) (n3 : x3.length ≤ 524288) :
    Calls Tryz.prog 3 #[.agg #[.int .i64 x0, .int .i64 y0, .slice a0 cs0.length cap0], .slice a1 x1.length cap1, .slice a2 x2.length cap2, .slice a3 x3.length cap3] w fun e w' => e = .returned (.bool true) ∧ Below w.heap.size w w' := by
  have hx1 : x1.length ≤ 9223372036854775807 := by unfold maxLen at *; omega
  have hcs : cs0.length ≤ 9223372036854775807 := by unfold maxLen at *; omega
  have hGd := hide (fun (w' : World) (hb : Below w.heap.size w w') => rgrid_any x0 y0 a0 cap0 cs0 w' w.heap.size hb.size (r0.below hb (Nat.le_refl _)) hcs)
  by_cases h0 : gridErr x0 y0 cs0 = 0
  · have h64 : cs0.length ≤ 64 := by
      obtain ⟨h1, h2, h3, h4, h5, _⟩ := gridErr_ok h0
      have : x0 * y0 ≤ 8 * 8 := Int.mul_le_mul h2 h4 (by omega) (by omega)
      omega
    have hNew := hide (fun (w' : World) (hb : Below w.heap.size w w') => snew_ok x0 y0 a0 cap0 cs0 w' w.heap.size hb.size (r0.below hb (Nat.le_refl _)) (by omega) h0)
    have hRnew := hide (fun (w' : World) (hb : Below w.heap.size w w') => rnews_ok x0 y0 a0 cap0 cs0 w' w.heap.size hb.size (r0.below hb (Nat.le_refl _)) (by omega) h0)
    rw [h0] at hGd
    obtain ⟨G0, hG0⟩ : ∃ G, G = w.alloc (.cells #[.int .i64 x0, .int .i64 y0, .slice a0 cs0.length cap0] 24) := ⟨_, rfl⟩
    have hb00 : Below w.heap.size w G0 := by rw [hG0]; exact up_alloc (Below.refl _ _) (Nat.le_refl _)
    have e0 : G0.cell? ⟨w.heap.size, 0, none⟩ = some (.int .i64 x0) := by rw [hG0]; simp [go_sem]
    have e1 : G0.cell? ⟨w.heap.size, 1, none⟩ = some (.int .i64 y0) := by rw [hG0]; simp [go_sem]
    have e2 : G0.cell? ⟨w.heap.size, 2, none⟩ = some (.slice a0 cs0.length cap0) := by rw [hG0]; simp [go_sem]
    have zg : w.heap.size < G0.heap.size := cell_lt e0
    obtain ⟨n0, hn0⟩ : ∃ n, n = cs0.length := ⟨_, rfl⟩
    rw [← hn0] at hNew hGd hRnew e2 hG0
    rw [← hn0]
    replace hn0 := hide hn0
    have hrw1 := hide r1
    have hq1 := hide b1
    have hrw2 := hide r2
    have hrw3 := hide r3
    have hn2 := hide n2
    have hn3 := hide n3
    obtain ⟨m1, hm1⟩ : ∃ m, m = x1.length := ⟨_, rfl⟩
    obtain ⟨m2, hm2⟩ : ∃ m, m = x2.length := ⟨_, rfl⟩
    obtain ⟨m3, hm3⟩ : ∃ m, m = x3.length := ⟨_, rfl⟩
    rw [← hm1, ← hm2, ← hm3]
    rw [← hm1] at hx1
    have hmx := hide hx1
    rw [← hm2] at hn2
    rw [← hm3] at hn3
    have hb00 := hide hb00
    replace hm1 := hide hm1
    replace hm2 := hide hm2
    replace hm3 := hide hm3
    clear r0 r1 b1 r2 r3 n2 n3 l0 m0 be0 l1 l2 l3 b0 c0 b2 b3 hx1 hcs h64 h0
    go_enter Tryz.func3, Tryz.ntmps3
    go_upto_region 1 with fail
    simp only [← hG0]
    replace hG0 := hide hG0
    go_wp2_with fail
    refine (hNew.out _ hb00.out).mono ?_
    rintro e w1 ⟨svb, P, rfl, hP1, hPlo, hb1⟩
    have hB1 := hide (below_step hb00.out hb1)
    have g0 := cu_below hb1 e0 zg
    have g1 := cu_below hb1 e1 zg
    have g2 := cu_below hb1 e2 zg
    have zg1 : w.heap.size < w1.heap.size := cell_lt g0
    have hP1 := hide hP1
    have hPlo := hide (fun (j : Nat) (h : P j) => Nat.le_trans hb00.out.size (hPlo j h))
    clear hb1 e0 e1 e2
    go_wp2_with fail
    refine (hGd.out _ hB1.out).mono ?_
    rintro e w2 ⟨rfl, hb2⟩
    have hB2 := hide (below_step hB1.out hb2)
    have hP2 := hide (hP1.out.stays hb2)
    have hPhi := hide (fun (j : Nat) (h : P j) => Nat.lt_of_lt_of_le (hP1.out.2.1 j h) hb2.size)
    have g0 := cu_below hb2 g0 zg1
    have g1 := cu_below hb2 g1 zg1
    have g2 := cu_below hb2 g2 zg1
    have zg2 : w.heap.size < w2.heap.size := cell_lt g0
    clear hb2 hP1 zg1
    go_wp2_with fail
    refine (hRnew.out _ hB2.out).mono ?_
    rintro e w3 ⟨rvb, Q, rfl, hQ3, hQlo, hb3⟩
    have hB3 := hide (below_step hB2.out hb3)
    have hD3 := hide (show ∃ σ P Q, Du σ σ svb rvb w.heap.size P Q w3 from ⟨_, P, Q, hP2.out.stays hb3, hQ3, fun j h1 h2 => by have := hPhi.out j h1; have := hQlo j h2; omega, fun j h => h.elim (hPlo.out j) (fun h => by have := hQlo j h; omega)⟩)
    clear hb3 hQ3 hQlo hP2 hPhi hPlo hB2 hB1 hNew hGd hRnew hb00 g0 g1 g2 zg2
    go_wp2_with fail
    go_loopw [42] (fun i wr => ∃ k : Nat, k ≤ m1 ∧ i = .int .i64 (k : Int) ∧ Hid (∃ σ P Q, Du σ σ svb rvb w.heap.size P Q wr) ∧ Hid (Below w.heap.size w wr)) (fun i _ => m1 - (intOf i).toNat)
    case atStart => exact ⟨0, Nat.zero_le _, rfl, hD3, hB3⟩
    case round =>
      clear hD3 hB3
      obtain ⟨k, hk1, rfl, hD, hbr⟩ := hrel
      by_cases hk : k < m1
      · have hkx : k < x1.length := by have := hm1.out; omega
        obtain ⟨b, o, rfl, hbl, hc⟩ := hrw1.out k hkx
        have c0 : w.cell? ⟨b, o + k, none⟩ = some (.slice x1[k].a x1[k].xs.length x1[k].c) := by simpa [Nat.mul_one] using hc 0 _ rfl
        have c1 := cu_below hbr.out c0 hbl
        have hqk := hide (hq1.out x1[k] (List.getElem_mem hkx))
        generalize x1[k] = s at c1 hqk
        obtain ⟨sa, sc, sx⟩ := s
        obtain ⟨sm, hsm⟩ : ∃ n, n = sx.length := ⟨_, rfl⟩
        simp only at c1
        rw [← hsm] at c1
        have zb : b < wr.heap.size := Nat.lt_of_lt_of_le hbl hbr.out.size
        have i1 : (0 : Int) ≤ (k : Int) ∧ (k : Int) < (m1 : Int) := by omega
        have hm3' : sm ≤ 9223372036854775807 := by have h1 := hqk.out.1; have h2 := hqk.out.2.1; simp only at h1 h2; rw [← hsm] at h1; unfold maxLen at h2; omega
        obtain ⟨v, hv⟩ : ∃ v, v = sx.getD 0 0 := ⟨_, rfl⟩
        have hAt := hide (fun (w' : World) (hb : Below w.heap.size w w') => show Calls Tryz.prog 7 #[.slice sa sm sc, .int .i64 0] w' fun e w'' => e = .returned (.int .i64 v) ∧ Below w'.heap.size w' w'' from by rw [hv]; exact lat_any sa sm sc sx 0 w' w.heap.size hb.size hsm.symm (hqk.out.2.2.1.below hb (Nat.le_refl _)) hm3' (by omega))
        have hSv := hide (fun (w' : World) (hbw : Below wr.heap.size wr w') (aw : Option Addr) (mw cw : Nat) (ws : List P2) (h1 : ws.length = mw) (h2 : Row encP 2 w w.heap.size aw ws) (h3 : mw ≤ 1048576) => show Calls Tryz.prog 8 #[.pointer (some ⟨svb, 0, none⟩), .pointer (some ⟨rvb, 0, none⟩), .slice sa sm sc, .slice aw mw cw] w' fun e w'' => e = .returned (.bool true) ∧ Sd svb rvb w.heap.size w' w'' from by
          obtain ⟨σ, P, Q, hD⟩ := hD.out
          have hb2 := hbr.out.trans (hbw.mono hbr.out.size)
          exact served_any (hD.stays hbw) hb2.size sa sm sc sx hsm.symm (hqk.out.2.2.1.below hb2 (Nat.le_refl _)) hm3' aw mw cw ws h1 (h2.below hb2 (Nat.le_refl _)) h3)
        replace hv := hide hv
        replace hsm := hide hsm
        clear hc c0 hqk hD hm3'
        by_cases h6 : v = 6
        · have q6 : (v == 6) = true := by simp [h6]
          have hS := hide (fun (w' : World) (hbw : Below wr.heap.size wr w') => hSv.out w' hbw a3 m3 cap3 x3 hm3.out.symm hrw3.out (by have := hn3.out; omega))
          clear h6 hSv
          go_wp2_with fail
          refine (hAt.out _ hbr.out).mono ?_
          rintro e w4 ⟨rfl, hb4⟩
          have hb4 := hide hb4
          go_wp2_with fail
          refine (hS.out _ hb4.out).mono ?_
          rintro e w5 ⟨rfl, hD5, hb5⟩
          have hD5 := hide hD5
          have hB5 := hide (hbr.out.trans ((hb4.out.mono hbr.out.size).trans hb5))
          clear hb5 hb4 hS hAt
          have hwk := hide (show wrap64 ((k : Int) + 1) = ((k + 1 : Nat) : Int) by rw [IntWalk.wrap64_in _ (by have := hmx.out; omega)]; omega)
          go_wp2
          go_roundw
          case rel =>
            exact ⟨k + 1, by omega, by rw [hwk.out], hD5, hB5⟩
          case measure => rw [hwk.out]; simp [intOf]; omega
        · have q6 : (v == 6) = false := by simp [h6]
          have hS := hide (fun (w' : World) (hbw : Below wr.heap.size wr w') => hSv.out w' hbw a2 m2 cap2 x2 hm2.out.symm hrw2.out (by have := hn2.out; omega))
          clear h6 hSv
          go_wp2_with fail
          refine (hAt.out _ hbr.out).mono ?_
          rintro e w4 ⟨rfl, hb4⟩
          have hb4 := hide hb4
          go_wp2_with fail
          refine (hS.out _ hb4.out).mono ?_
          rintro e w5 ⟨rfl, hD5, hb5⟩
          have hD5 := hide hD5
          have hB5 := hide (hbr.out.trans ((hb4.out.mono hbr.out.size).trans hb5))
          clear hb5 hb4 hS hAt
          have hwk := hide (show wrap64 ((k : Int) + 1) = ((k + 1 : Nat) : Int) by rw [IntWalk.wrap64_in _ (by have := hmx.out; omega)]; omega)
          go_wp2
          go_roundw
          case rel =>
            exact ⟨k + 1, by omega, by rw [hwk.out], hD5, hB5⟩
          case measure => rw [hwk.out]; simp [intOf]; omega
      · obtain rfl : k = m1 := by omega
        have hS := hide (show Calls Tryz.prog 8 #[.pointer (some ⟨svb, 0, none⟩), .pointer (some ⟨rvb, 0, none⟩), .slice none 0 0, .slice none 0 0] wr fun e w'' => e = .returned (.bool true) ∧ Sd svb rvb w.heap.size wr w'' from by
          obtain ⟨σ, P, Q, hD⟩ := hD.out
          exact served_any hD hbr.out.size none 0 0 [] rfl (Row.nil _ _ _ _ _) (by omega) none 0 0 [] rfl (Row.nil _ _ _ _ _) (by omega))
        clear hD
        go_wp2_with fail
        refine hS.out.mono ?_
        rintro e w5 ⟨rfl, hD5, hb5⟩
        have hB5 := hide (hbr.out.trans hb5)
        clear hb5 hD5
        go_wp2
        go_ret
        exact ⟨rfl, hB5.out⟩
  · have hNew := hide (fun (w' : World) (hb : Below w.heap.size w w') => snew_bad x0 y0 a0 cap0 cs0 w' w.heap.size hb.size (r0.below hb (Nat.le_refl _)) hcs h0)
    obtain ⟨er, her⟩ : ∃ x, x = gridErr x0 y0 cs0 := ⟨_, rfl⟩
    rw [← her] at hNew hGd h0
    have q1 : (er == er) = true := by simp
    have q2 : (er != 0) = true := by simp [h0]
    obtain ⟨G0, hG0⟩ : ∃ G, G = w.alloc (.cells #[.int .i64 x0, .int .i64 y0, .slice a0 cs0.length cap0] 24) := ⟨_, rfl⟩
    have hb00 : Below w.heap.size w G0 := by rw [hG0]; exact up_alloc (Below.refl _ _) (Nat.le_refl _)
    have e0 : G0.cell? ⟨w.heap.size, 0, none⟩ = some (.int .i64 x0) := by rw [hG0]; simp [go_sem]
    have e1 : G0.cell? ⟨w.heap.size, 1, none⟩ = some (.int .i64 y0) := by rw [hG0]; simp [go_sem]
    have e2 : G0.cell? ⟨w.heap.size, 2, none⟩ = some (.slice a0 cs0.length cap0) := by rw [hG0]; simp [go_sem]
    have zg : w.heap.size < G0.heap.size := cell_lt e0
    replace her := hide her
    have hb00 := hide hb00
    clear r0 r1 b1 r2 r3 n2 n3 l0 m0 be0 l1 l2 l3 b0 c0 b2 b3 hx1 hcs
    go_enter Tryz.func3, Tryz.ntmps3
    go_upto_region 1 with fail
    simp only [← hG0]
    replace hG0 := hide hG0
    go_wp2_with fail
    refine (hNew.out _ hb00.out).mono ?_
    rintro e w1 ⟨rfl, hb1⟩
    have hB1 := hide (below_step hb00.out hb1)
    have g0 := cu_below hb1 e0 zg
    have g1 := cu_below hb1 e1 zg
    have g2 := cu_below hb1 e2 zg
    have zg1 : w.heap.size < w1.heap.size := cell_lt g0
    clear hb1 e0 e1 e2
    go_wp2_with fail
    refine (hGd.out _ hB1.out).mono ?_
    rintro e w2 ⟨rfl, hb2⟩
    have hB2 := hide (below_step hB1.out hb2)
    clear hb2 g0 g1 g2
    go_wp2
    go_ret
    exact ⟨rfl, hB2.out⟩
end Go.Proofs.YtccailcjclbhlaaGreat
namespace Go.Proofs.YtccailcjclbhlaaGreat
open Go.ChangeShapes Go.WideShapes Go.ChangeAt Go.RowKit
set_option linter.unusedSimpArgs false
set_option linter.unusedVariables false

set_option maxRecDepth 100000 in
theorem contract_ServePlays (H : Type) (enc : TypeId × Value → H) (W : World) (base : Nat) (args : Array Value) (ds gs : List (DataW H)) (before : List MemPlace)
    (hval0 : ∀ (j : Nat) t v, Tryz.f3.params[j]? = some t → args[j]? = some v → Value.okWide Tryz.prog W .any base t v)
    (hW : DataW.Whole enc Tryz.prog Tryz.f3.params.toList Rows.servePlaysSpec.vars false W args.toList ds gs before) (hk : Rows.uptoSmall H (ds ++ gs) = true) :
    Calls Tryz.prog 3 args W fun e W' => ∃ v, e = .returned v ∧ Rows.servePlaysSpec.post enc Tryz.prog Tryz.f3 false true false false W args v W' := by
  have hval : ∀ (j : Nat) t v, Tryz.f3.params[j]? = some t → args[j]? = some v → Value.okWide Tryz.prog W .any base t v := hval0
  have hW' := hW
  obtain ⟨p, q, hA0, hV, rfl, hfz, hnd⟩ := hW
  have hA : DataW.TrodAll enc Tryz.prog W 0 (fun _ => true) true Tryz.f3.params.toList args.toList ds p := hA0
  rw [Tryz.params3] at hA hval
  obtain ⟨v0, vs0, d0, ds0, p0, q0, hargs, rfl, rfl, h0, tr0⟩ := trodAll_cons hA
  obtain ⟨v1, vs1, d1, ds1, p1, q1, rfl, rfl, rfl, h1, tr1⟩ := trodAll_cons tr0
  obtain ⟨v2, vs2, d2, ds2, p2, q2, rfl, rfl, rfl, h2, tr2⟩ := trodAll_cons tr1
  obtain ⟨v3, vs3, d3, ds3, p3, q3, rfl, rfl, rfl, h3, tr3⟩ := trodAll_cons tr2
  obtain ⟨rfl, rfl, rfl⟩ := trodAll_nil tr3
  obtain rfl : args = #[v0, v1, v2, v3] := by cases args; simp_all
  obtain ⟨rfl, rfl⟩ := trodVars_none hV
  simp only [List.append_nil] at hk
  have hbk : Rows.uptoBulkAll [d0, d1, d2, d3] ≤ 1048576 := of_decide_eq_true hk
  simp only [Rows.uptoBulkAll] at hbk
  have k0 := h0
  have lt0 : ∀ x ∈ p0, x.block < W.heap.size := by obtain ⟨m, hm⟩ := k0; exact DataW.trod_lt m _ _ _ hm
  have k1 := h1
  have lt1 : ∀ x ∈ p1, x.block < W.heap.size := by obtain ⟨m, hm⟩ := k1; exact DataW.trod_lt m _ _ _ hm
  have k2 := h2
  have lt2 : ∀ x ∈ p2, x.block < W.heap.size := by obtain ⟨m, hm⟩ := k2; exact DataW.trod_lt m _ _ _ hm
  have k3 := h3
  have lt3 : ∀ x ∈ p3, x.block < W.heap.size := by obtain ⟨m, hm⟩ := k3; exact DataW.trod_lt m _ _ _ hm
  obtain ⟨x0, y0, a0, cap0, cs0, rfl, b0, c0, l0, m0, r0, be0⟩ := openT_grid (P := Tryz.prog) Tryz.underlying24 (by kernel_rfl) (by kernel_rfl) Tryz.underlying3 Tryz.underlying3 Tryz.underlying22 (by kernel_rfl) Tryz.underlying3 (hval 0 24 v0 rfl rfl) h0
  obtain ⟨a1, cap1, x1, rfl, l1, m1, r1, b1⟩ := openT_rws Tryz.underlying25 (by kernel_rfl) Tryz.underlying22 (by kernel_rfl) Tryz.underlying3 (hval 1 25 v1 rfl rfl) h1
  obtain ⟨a2, cap2, x2, rfl, l2, m2, r2, b2⟩ := openT_p2s Tryz.underlying26 (by kernel_rfl) Tryz.underlying56 (by kernel_rfl) Tryz.underlying3 Tryz.underlying3 (hval 2 26 v2 rfl rfl) h2
  obtain ⟨a3, cap3, x3, rfl, l3, m3, r3, b3⟩ := openT_p2s Tryz.underlying26 (by kernel_rfl) Tryz.underlying56 (by kernel_rfl) Tryz.underlying3 Tryz.underlying3 (hval 3 26 v3 rfl rfl) h3
  have n2 : x2.length ≤ 524288 := by obtain ⟨_, hm⟩ := k2; have hq : 2 * x2.length ≤ Rows.uptoBulk d2 := pairs_bulk (P := Tryz.prog) Tryz.underlying26 Tryz.underlying56 (by simpa [Value.cells] using hm); omega
  have n3 : x3.length ≤ 524288 := by obtain ⟨_, hm⟩ := k3; have hq : 2 * x3.length ≤ Rows.uptoBulk d3 := pairs_bulk (P := Tryz.prog) Tryz.underlying26 Tryz.underlying56 (by simpa [Value.cells] using hm); omega
  clear hA0 hval0
  refine (walk_ServePlays x0 y0 a0 cap0 cs0 a1 cap1 x1 a2 cap2 x2 a3 cap3 x3 W b0 c0 l0 m0 r0 be0 l1 m1 r1 b1 l2 m2 r2 b2 l3 m3 r3 b3 n2 n3).mono fun e W' ⟨he, bel⟩ => ?_
  subst he
  exact ⟨_, rfl, _, _, _, [], _, [], hW', trodAll_mk1 (shut_bool Tryz.underlying4 _), (trodAll_cons_mk (Below.trod laidOut (by kernel_rfl) (of_decide_eq_true (by kernel_rfl)) k0 bel lt0) (trodAll_cons_mk (Below.trod laidOut (by kernel_rfl) (of_decide_eq_true (by kernel_rfl)) k1 bel lt1) (trodAll_cons_mk (Below.trod laidOut (by kernel_rfl) (of_decide_eq_true (by kernel_rfl)) k2 bel lt2) (trodAll_cons_mk (Below.trod laidOut (by kernel_rfl) (of_decide_eq_true (by kernel_rfl)) k3 bel lt3) trodAll_mk0)))), rfl, bel.frame _, fun h => by cases h⟩

set_option maxRecDepth 100000 in
theorem lifted_ServePlays (os : Os) (started : os.Started) (H : Type) (enc : TypeId × Value → H) (F : Stop.Interp) :
    ReturnsInHanded {} Tryz.checked os 3 .any ((Rows.OpenSpec.upto Rows.servePlaysSpec).pre6 enc Tryz.prog Tryz.f3 Rows.servePlaysUptoRow.domain false) (((Rows.OpenSpec.upto Rows.servePlaysSpec).at F).post enc Tryz.prog Tryz.f3 false true false false) := by
  refine returnsInHanded_of_cond (C := Tryz.checked) (s := Rows.OpenSpec.upto Rows.servePlaysSpec) (k := Rows.uptoSmall) rfl own started (by kernel_rfl) Tryz.func3
    (OpenSpec.witness (enc := enc) (C := Tryz.checked) (s := Rows.OpenSpec.upto Rows.servePlaysSpec) (k := Rows.uptoSmall) rfl false ⟨#[], #[.agg #[.int .i64 0, .int .i64 0, .slice none 0 0], .slice none 0 0, .slice none 0 0, .slice none 0 0], []⟩ 8 (by kernel_rfl) (by kernel_rfl) (by kernel_rfl)
      (x := ([.agg [.lit (.int .i64 0), .lit (.int .i64 0), .nil], .nil, .nil, .nil], [], [])) (by kernel_rfl) rfl (by kernel_rfl)) ?_
  intro W base args ds gs before hval hW _ hk _
  exact contract_ServePlays H enc W base args ds gs before hval hW hk

/-- The given statement. -/
theorem proved_ServePlaysUpto : Rows.ServePlaysUptoSaid :=
  OpenClaim.holds_of_cond 3 Tryz.f3 rfl rfl rfl rfl rfl rfl rfl ⟨rfl, rfl, rfl, rfl, rfl⟩ rfl rfl rfl rfl rfl (by kernel_rfl) Tryz.func3 (by kernel_rfl)
    (of_decide_eq_true (by kernel_rfl)) (by unfold Func.isWrapper; first | (rw [if_pos (by decide +kernel)]; kernel_rfl) | (rw [if_neg (by decide +kernel)]; exact ⟨rfl, rfl⟩))
    (fun os started H enc _ F => lifted_ServePlays os started H enc F)
#print axioms proved_ServePlaysUpto

end Go.Proofs.YtccailcjclbhlaaGreat
